/-
 What the statements of this seat hang on,part 5: Si Sj Sk St Sn Open So Ms Fns Te Ch Oa ShCt LCt ShFi.
-/
import Derived.Test.YtfbcbakhdkppoaaGreatDoorWA4
import Derived.Deep.Slices
import Derived.ChangeSame
import Derived.ProofKit
import Derived.OpenShut
import Derived.Sort.Statements
import Derived.Test.YtfbcbakhdkppoaaGreatDoorProg
import Derived.KernelRfl
import Derived.Test.YtfbcbakhdkppoaaGreatDoorRows
import Derived.LaidMore
import Derived.LaidSub
import Derived.Lib.LaidTab
import Derived.Stop.Joined
import Derived.Lay
import Derived.MakeChecks
import Derived.Shelf.Strings.Count
import Derived.Ground.NamesProg
import Derived.Lib.Agree
import Derived.Shelf.Strconv.Itoa4
namespace Go
namespace Rt
open Go.RowKit
section
variable{P:Program}{E:TE}{H:Nat->Option (Obj E)}
theorem backM_ok {m:Mk} {I:List Nat}:∀{ts:List Ty} {h h':HL E.S ts} {n:Nat},iQ_ E H m ts h n=some h'->∀i o,(i,o)∈aR_ E m ts h' n->∃o1 o2,H i=some o1/\o=some o2/\Cor E H I o1 o2:=by
 induction m with
 | nil =>
  intro ts h h' n _ i o hm;cases ts<;>simp[aR_]at hm
 | cons a m ih =>
  intro ts h h' n hb i o hm;cases ts with
  | nil=>cases a<;>simp[aR_]at hm
  | cons t ts =>
   cases a with
   | none =>
    simp only[iQ_]at hb;cases hq:iQ_ E H m ts h.2 n with
    | none=>rw[hq]at hb;cases hb
    | some q =>
     rw[hq]at hb;obtain rfl:=qSj hb;simp only[aR_]at hm;exact ih hq i o hm
   | some e =>
    cases t with
    | sl t =>
     simp only[iQ_]at hb;cases hn:H n with
     | none=>rw[hn]at hb;cases hb
     | some p =>
      cases p with
      | row e' t' xs foc =>
       rw[hn]at hb;simp only at hb;split at hb
       .rename_i ht;subst ht;cases he:Nat.beq e e' with
        | false=>rw[he]at hb;cases hb
        | true =>
         cases hq:iQ_ E H m ts h.2 (n+1)with
         | none=>rw[he,hq]at hb;cases hb
         | some q =>
          rw[he,hq]at hb;obtain rfl:=qSj hb;obtain rfl:=qNb he;simp only[aR_,List.mem_cons]at hm;rcases hm with hm|hm
          .injection hm with e1 e2;subst e1;subst e2;exact⟨_,_,hn,rfl,rfl⟩
          .exact ih hq i o hm
       .cases hb
      | _=>rw[hn]at hb;cases hb
    | _=>simp[aR_]at hm
theorem backH_ok {I:List Nat}:∀{ps:List Pm} {a:PA E ps} {bh:HL E.S (aK_ ps)×List Nat} {n k:Nat},cM_ E H ps a n=some bh->(∀i,i<n+aj_ E ps->n<=i->I[i]? = some i)->(∀j id,bh.2[j]? = some id->I[k+j]? = some id) ->
  (∀i o,(i,o)∈aI_ E ps (cS_ E ps a bh.1) n k->∃id o1 o2,I[i]? = some id/\H id=some o1/\o=some o2/\Cor E H I o1 o2)/\bh.2.length=cv_ E ps:=by
 intro ps
 induction ps with
 | nil =>
  intro a bh n k hb _ _;obtain rfl:=qSj hb;exact⟨(λi o hm=>nomatch hm),rfl⟩
 | cons p ps ih =>
  intro a bh n k hb hI hk;cases p with
  | d t=>exact ih hb hI hk
  | p t=>exact ih hb hI hk
  | g t m =>
   simp only[aj_]at hI;exact ih hb (λi h1 h2=>hI i (by omega) (by omega)) hk
  | f1 x r=>exact ih hb hI hk
  | f2 x y r=>exact ih hb hI hk
  | l t m =>
   simp only[aj_]at hI;simp only[cM_]at hb;cases h1:iQ_ E H m (E.flat t) (E.fl t a.1) n with
   | none=>rw[h1]at hb;cases hb
   | some h =>
    cases h2:cM_ E H ps a.2 (n+as_ m (E.flat t))with
    | none=>rw[h1,h2]at hb;cases hb
    | some q =>
     rw[h1,h2]at hb;obtain rfl:=qSj hb;obtain⟨g1,g2⟩:=ih (k:=k) h2 (λi h1 h2=>hI i (by omega) (by omega)) hk;refine⟨λi o hm => ?_,g2⟩;have hm':(i,o)∈aR_ E m (E.flat t) (E.fl t (E.ufl t h)) n++aI_ E ps (cS_ E ps a.2 q.1) (n+as_ m (E.flat t)) k:=hm;rw[E.fl_ufl]at hm';rcases List.mem_append.1 hm' with hm'|hm'
     .obtain⟨o1,o2,h6,h7,h8⟩:=backM_ok (I:=I) h1 i o hm';obtain⟨_,_,_,h9,h10⟩:=aW_ i o hm';exact⟨i,o1,o2,hI i (by omega) h9,h6,h7,h8⟩
     .exact g1 i o hm'
  | mp T kt v =>
   simp only[aj_]at hI;simp only[cM_]at hb;cases hn:H n with
   | none=>rw[hn]at hb;cases hb
   | some p =>
    cases p with
    | map T' k' v' ks vs foc =>
     cases h2:cM_ E H ps a.2 (n+1)with
     | none=>rw[hn,h2]at hb;cases hb
     | some q =>
      rw[hn,h2]at hb;simp only at hb;split at hb
      .rename_i ht;obtain⟨rfl,rfl⟩:=ht;cases hT:Nat.beq T T' with
       | false=>rw[hT]at hb;cases hb
       | true =>
        rw[hT]at hb;obtain rfl:=qSj hb;obtain rfl:=qNb hT;obtain⟨g1,g2⟩:=ih (k:=k) h2 (λi h1 h2=>hI i (by omega) (by omega)) hk;refine⟨λi o hm => ?_,g2⟩;have hm':(i,o)∈(n,some (Obj.map T k' v' ks vs []))::aI_ E ps (cS_ E ps a.2 q.1) (n+1) k:=hm;rcases List.mem_cons.1 hm' with hm'|hm'
        .injection hm' with e1 e2;subst e1;subst e2;exact⟨_,_,_,hI _ (by omega) (Nat.le_refl _),hn,rfl,rfl⟩
        .exact g1 i o hm'
      .cases hb
    | _=>rw[hn]at hb;cases hb
  | b T t =>
   simp only[aj_]at hI;simp only[cM_]at hb;cases hn:H n with
   | none=>rw[hn]at hb;cases hb
   | some p =>
    cases p with
    | box T' cs =>
     cases h2:cM_ E H ps a.2 (n+1)with
     | none=>rw[hn,h2]at hb;cases hb
     | some q =>
      rw[hn,h2]at hb;simp only at hb;cases hT:Nat.beq T T' with
      | false=>rw[hT]at hb;cases hb
      | true =>
       cases hd:bN_ E H (E.flat t) cs with
       | none=>rw[hT,hd]at hb;cases hb
       | some h =>
        rw[hT,hd]at hb;obtain rfl:=qSj hb;obtain rfl:=qNb hT;obtain⟨g1,g2⟩:=ih (k:=k) h2 (λi h1 h2=>hI i (by omega) (by omega)) hk;refine⟨λi o hm => ?_,g2⟩;have hm':(i,o)∈(n,some (Obj.box T (E.cells t (E.ufl t h))))::aI_ E ps (cS_ E ps a.2 q.1) (n+1) k:=hm;rcases List.mem_cons.1 hm' with hm'|hm'
        .injection hm' with e1 e2;subst e1;subst e2;exact⟨_,_,_,hI _ (by omega) (Nat.le_refl _),hn,rfl,false,_,[],0,t,[],(h,[]),0,rfl,(λ_ _ e=>nomatch e),takeM_nil hd,by rw[ownC_nil];unfold TE.cells;rw[E.fl_ufl];rfl,λj id' hj=>by simp at hj⟩
        .exact g1 i o hm'
    | _=>rw[hn]at hb;cases hb
  | bm T t m px =>
   simp only[aj_]at hI;simp only[cM_]at hb;cases hn:H n with
   | none=>rw[hn]at hb;cases hb
   | some p =>
    cases p with
    | box T' cs0 =>
     cases h2:cM_ E H ps a.2 (n+1+as_ m (E.flat t))with
     | none=>rw[hn,h2]at hb;cases hb
     | some q =>
      rw[hn,h2]at hb;simp only at hb;cases hP:g2_ (pxB px ps) cs0 with
      | none=>rw[hP]at hb;cases hb
      | some c2 =>
       obtain⟨cs,hid⟩:=c2;rw[hP]at hb;simp only at hb;cases hT:Nat.beq T T'&&hidI hid (n+1+as_ m (E.flat t))with
       | false=>rw[hT]at hb;cases hb
       | true =>
        cases hd:bJ_ E H m (E.flat t) cs with
        | none=>rw[hT,hd]at hb;cases hb
        | some d =>
         rw[hT,hd]at hb;obtain rfl:=qSj hb;simp only[qAn]at hT;obtain⟨hT,hh⟩:=hT;obtain rfl:=qNb hT;obtain⟨i1,i2⟩:=jb_ hk;obtain⟨e7,e8⟩:=jk_ (n:=k) hd i1;obtain⟨g1,g2⟩:=ih (k:=k+d.2.length) h2 (λi h1 h2=>hI i (by omega) (by omega)) i2;refine⟨λi o hm => ?_,by simp only[qLa,e8,g2,cv_]⟩;have hm':(i,o)∈(n,some (Obj.box T (ptrC E (pxB px ps) (n+1+as_ m (E.flat t))++bp_ E m (E.flat t) (E.fl t (E.ufl t d.1)) k)))::(aR_ E m (E.flat t) (E.fl t (E.ufl t d.1)) k++aI_ E ps (cS_ E ps a.2 q.1) (n+1+as_ m (E.flat t)) (k+as_ m (E.flat t))):=hm;rw[E.fl_ufl]at hm';rw[e8]at g1;rcases List.mem_cons.1 hm' with hm'|hm'
         .injection hm' with e1 e2;subst e1;subst e2;refine⟨_,_,_,hI _ (by omega) (Nat.le_refl _),hn,rfl,_,cs,hid,_,t,m,d,k,hP,(λid2 o2 e => ?_),hd,rfl,i1⟩;subst e;simp only[hidI]at hh;have h9:=qNb hh;rw[h9];have hpx:pxB px ps=true:=by
           cases hx:pxB px ps with
           | true=>rfl
           | false=>rw[hx]at hP;simp[g2_]at hP
          have:=pxB_cnt (E:=E) hpx;exact hI _ (by omega) (by omega)
         .rcases List.mem_append.1 hm' with hm'|hm'
          .exact e7 i o hm'
          .exact g1 i o hm'
    | _=>rw[hn]at hb;cases hb
end
section
variable{P:Program}{E:TE}{eqs:List (Nat×Nat)}{tab:Tab E}{z:Fz}{g:Ga}{w w0:World}{Bs:List Nat}{N:Nat}
def EndIs(P:Program)(E:TE)(z:Fz)(g:Ga)(Bs:List Nat)(w:World)(ps:List Pm)(rs:Rs)(a:PA E ps)(rh:HL E.S rs.ts)(bh:HL E.S (aK_ ps))(v:Value)(w':World):Prop:=∃z' g' svr,z.Le z'/\g.Le g'/\resV E rs rh (aj_ E ps)=some svr/\RV P E z' g' (oneV E svr) v/\HR P E Bs z.F w w' z' g' (upH (λ_=>none) (ck_ E rs rh (aj_ E ps)++aI_ E ps (cS_ E ps a bh) 0 (aj_ E ps+cb_ E rs)))
theorem oneV_ok{svr:List (V1 E)}{us:List Value}(h:All2 (R1 P E z g) svr us):RV P E z g (oneV E svr) (i9_ us):=by
 cases h with
 | nil=>exact⟨[],rfl,.nil⟩
 | cons h1 h2 =>
  cases h2 with
  | nil=>exact h1
  | cons h3 h4=>exact⟨_,rfl,.cons h1 (.cons h3 h4)⟩
theorem dh_:∀{ps:List Pm} {a:PA E ps} {n k i:Nat} {o:Option (Obj E)},(i,o)∈aI_ E ps a n k->i∈cN_ E ps n\/(k<=i/\i<k+cv_ E ps)
 | [],_,_,_,_,_,h=>by cases h
 | .l t m::ps,a,n,k,i,o,h=>by
  rcases List.mem_append.1 h with h|h
  .obtain⟨_,_,_,h1,h2⟩:=aW_ i _ h;exact .inl (List.mem_append.2 (.inl (List.mem_range'_1.2 ⟨h1,h2⟩)))
  .exact(dh_ (ps:=ps) h).imp (λh=>List.mem_append.2 (.inr h)) id
 | .g _ _::ps,_,_,_,_,_,h=>dh_ (ps:=ps) h
 | .b _ _::ps,_,_,_,_,_,h=>by
  rcases List.mem_cons.1 h with h|h
  .injection h with e;subst e;exact .inl (List.mem_cons.2 (.inl rfl))
  .exact(dh_ (ps:=ps) h).imp (λh=>List.mem_cons.2 (.inr h)) id
 | .bm _ t m _::ps,a,n,k,i,o,h=>by
  simp only[cv_];rcases List.mem_cons.1 h with h|h
  .injection h with e;subst e;exact .inl (List.mem_cons.2 (.inl rfl))
  .rcases List.mem_append.1 h with h|h
   .obtain⟨_,_,_,h1,h2⟩:=aW_ i _ h;exact .inr ⟨h1,by omega⟩
   .rcases dh_ (ps:=ps) h with h|h
    .exact .inl (List.mem_cons.2 (.inr h))
    .exact .inr ⟨by omega,by omega⟩
 | .mp _ _ _::ps,_,_,_,_,_,h=>by
  rcases List.mem_cons.1 h with h|h
  .injection h with e;subst e;exact .inl (List.mem_cons.2 (.inl rfl))
  .exact(dh_ (ps:=ps) h).imp (λh=>List.mem_cons.2 (.inr h)) id
 | .d _::ps,_,_,_,_,_,h=>dh_ (ps:=ps) h
 | .p _::ps,_,_,_,_,_,h=>dh_ (ps:=ps) h
 | .f1 _ _::ps,_,_,_,_,_,h=>dh_ (ps:=ps) h
 | .f2 _ _ _::ps,_,_,_,_,_,h=>dh_ (ps:=ps) h
theorem d2_:∀{ps:List Pm} {n i:Nat},i∈cN_ E ps n->i<n+aj_ E ps
 | [],_,_,h=>by cases h
 | .l t m::ps,n,i,h=>by
  simp only[aj_];rcases List.mem_append.1 h with h|h
  .have:=List.mem_range'_1.1 h;omega
  .have:=d2_ (ps:=ps) h;omega
 | .g t m::ps,n,i,h=>by
  simp only[aj_];have:=d2_ (ps:=ps) h;omega
 | .b _ _::ps,n,i,h=>by
  simp only[aj_];rcases List.mem_cons.1 h with h|h
  .omega
  .have:=d2_ (ps:=ps) h;omega
 | .bm _ t m _::ps,n,i,h=>by
  simp only[aj_];rcases List.mem_cons.1 h with h|h
  .omega
  .have:=d2_ (ps:=ps) h;omega
 | .mp _ _ _::ps,n,i,h=>by
  simp only[aj_];rcases List.mem_cons.1 h with h|h
  .omega
  .have:=d2_ (ps:=ps) h;omega
 | .d _::ps,_,_,h=>d2_ (ps:=ps) h
 | .p _::ps,_,_,h=>d2_ (ps:=ps) h
 | .f1 _ _::ps,_,_,h=>d2_ (ps:=ps) h
 | .f2 _ _ _::ps,_,_,h=>d2_ (ps:=ps) h
theorem retF_ok {ps:List Pm} {rs:Rs} {a:PA E ps} {fn:Func} {b:Ba E} {s:St E} {act:Act} {w':World} {y:Tp E.S (rs.ts++aK_ ps)} (hfr:Fresh g (aj_ E ps))
  (hR:Rel P E Bs ⟨z,g,aj_ E ps⟩ w N (s.L b) (s.H b) s.nx act w') (h:retF E P ps rs a fn.results.toList b s=some y) :
  act.defers=[]/\∃v,(results fn act.tmps).run P w' = .ok v w'/\EndIs P E z g Bs w ps rs a (hfst rs.ts (aK_ ps) (bI_ _ y)) (hsnd rs.ts (aK_ ps) (bI_ _ y)) v w':=by
 obtain⟨z1,g1,hE,hH,hfz,hz1,hg1⟩:=hR;refine⟨hE.defers,?_⟩;unfold retF at h;cases hxs:resXs E P b s fn.results.toList with
 | none=>rw[hxs]at h;cases h
 | some xs0 =>
  rw[hxs]at h;simp only at h;obtain⟨xs,u0,n0,g0,p1,p2,_,p4,p5,_,_⟩:=prepRs_ok rs xs0 hH hfz;rw[p1]at h;generalize hHu:upH (s.H b) u0=Hu at h p4;cases hq:takeR E (upH Hu (frzA E Hu ps rs xs)) rs xs with
  | none=>rw[hq]at h;cases h
  | some q =>
   rw[hq]at h;simp only at h;cases hb:cM_ E (upH Hu (frzA E Hu ps rs xs)) ps a 0 with
   | none=>rw[hb]at h;cases h
   | some bq =>
    rw[hb]at h;obtain⟨bh,ids⟩:=bq;obtain⟨hn,h⟩:=bq_ h;obtain rfl:=qSj h;simp only at hn;rw[cD_,jt_,ju_];obtain⟨us,h1,h20⟩:=oh_ hE hH hxs;have h2:=p5 z1 g0 us (Ga.Le.refl g0) (h20.mono λ_ _ h=>R1.le h (Fz.Le.refl z1) p2);obtain⟨z2,hz2,hH2⟩:=frzA_ok p4 ps rs xs;have hI0:∀j id,(q.2++ids)[j]? = some id->(List.range (aj_ E ps)++(q.2++ids))[aj_ E ps+j]? = some id:=λj id hj=>by
     rw[List.getElem?_append_right (by simp)];simpa using hj
    obtain⟨hI1,hI3⟩:=jb_ hI0;have hI2:∀i,i<aj_ E ps->(List.range (aj_ E ps)++(q.2++ids))[i]? = some i:=λi hi=>by
     rw[List.getElem?_append_left (by simpa using hi)];simp[hi]
    obtain⟨⟨svr,h3,h4⟩,h5,hql⟩:=takeR_ok hH2 (n:=aj_ E ps) hq hI1 (h2.mono λ_ _ h=>R1.le h hz2 (Ga.Le.refl g0));rw[hql]at hI3;obtain⟨h6,_⟩:=backH_ok (I:=List.range (aj_ E ps)++(q.2++ids)) (k:=aj_ E ps+cb_ E rs) hb (λi h1 _=>hI2 i (by omega)) hI3;refine⟨_,tuple_out rfl h1,z2,gOf g0 (List.range (aj_ E ps)++(q.2++ids)),svr,hz1.trans hz2,λi l hl => ?_,h3,oneV_ok h4,hH2.leave (λi j o p id hi hj e1 e2 => ?_) λi o hm => ?_⟩
    .have hi:i<aj_ E ps:=by
      rcases Nat.lt_or_ge i (aj_ E ps)with h9|h9
      .exact h9
      .rw[hfr i h9]at hl;cases hl
     unfold gOf;rw[hI2 i hi];exact p2 i l (hg1 i l hl)
    .have far:∀i,aj_ E ps<=i->(List.range (aj_ E ps)++(q.2++ids))[i]? = some id->∃p,(cN_ E ps 0++(q.2++ids))[p]? = some id/\((p<(cN_ E ps 0).length/\i=id/\i<aj_ E ps)\/(aj_ E ps<=i/\p=(cN_ E ps 0).length+(i-aj_ E ps))):=λi k1 e=>by
      rw[List.getElem?_append_right (by simpa using k1)]at e;refine⟨(cN_ E ps 0).length+(i-aj_ E ps),?_,.inr ⟨k1,rfl⟩⟩;rw[List.getElem?_append_right (by omega)];simpa using e
     have key:∀i o,(i,o)∈ck_ E rs q.1 (aj_ E ps)++aI_ E ps (cS_ E ps a bh) 0 (aj_ E ps+cb_ E rs)->(List.range (aj_ E ps)++(q.2++ids))[i]? = some id->∃p,(cN_ E ps 0++(q.2++ids))[p]? = some id/\((p<(cN_ E ps 0).length/\i=id/\i<aj_ E ps)\/(aj_ E ps<=i/\p=(cN_ E ps 0).length+(i-aj_ E ps))):=λi o hm e=>by
      rcases List.mem_append.1 hm with hm|hm
      .obtain⟨_,_,_,k1,_⟩:=ev_ i o hm;exact far i k1 e
      .rcases dh_ hm with hm|hm
       .have k2:=d2_ hm;rw[hI2 i (by omega)]at e;obtain rfl:=qSj e;obtain⟨p,hp⟩:=List.mem_iff_getElem?.1 hm;have hpl:p<(cN_ E ps 0).length:=(List.getElem?_eq_some_iff.1 hp).1;exact⟨p,by rw[List.getElem?_append_left hpl];exact hp,.inl ⟨hpl,rfl,by omega⟩⟩
       .exact far i (by omega) e
     obtain⟨p1,k1,k2⟩:=key i o hi e1;obtain⟨p2,k3,k4⟩:=key j p hj e2;have hp:=mm_ hn k1 k3;rcases k2 with k2|k2<;>rcases k4 with k4|k4<;>omega
    .rcases List.mem_append.1 hm with hm|hm
     .exact h5 i o hm
     .exact h6 i o hm
theorem slots_in{svs:List (V1 E)}{vs:List Value}(h:All2 (R1 P E z g) svs vs):∀(i t:Nat) (o:Option (SV E)),au_ t (slotsOf i svs)=some o->∃x v,o=some (.v x)/\look t (jh_ i vs)=some v/\R1 P E z g x v:=by
 induction h with
 | nil=>intro i t o ho;cases ho
 | @cons x v la bs h1 _ ih =>
  intro i t o ho;simp only[slotsOf,au_]at ho;simp only[jh_,look];cases hb:Nat.beq t i with
  | true =>
   rw[hb]at ho;exact⟨x,v,(qSj ho).symm,rfl,h1⟩
  | false =>
   rw[hb]at ho;exact ih (i+1) t o ho
theorem evFun_ok(heq:∀p∈eqs,aH_ P E p.1 p.2)(ht:tab.OK P E){f:FuncId}{fn:Func}(hf:P.funcs[f]? = some fn){ps:List Pm}{rs:Rs}{pl:Pl}{a:PA E ps}{y:Tp E.S (rs.ts++aK_ ps)}(h:fw_ P E eqs tab fn ps rs pl a=some y) :
  CallOK P E f ps rs true a (hfst rs.ts (aK_ ps) (bI_ _ y)) (hsnd rs.ts (aK_ ps) (bI_ _ y)):=by
 intro w z g Bs svs vs hav hH hfr hv;unfold fw_ at h;cases hb:fn.body with
 | none=>rw[hb]at h;cases h
 | some c =>
  rw[hb,hav]at h;simp only at h;obtain⟨hle,h⟩:=bq_ h;refine Ret.mono (R:=λv w'=>EndIs P E z g Bs w ps rs a (hfst rs.ts (aK_ ps) (bI_ _ y)) (hsnd rs.ts (aK_ ps) (bI_ _ y)) v w') ?_ λv w' ⟨z',g',svr,h1,h2,h3,h4,h5⟩=>⟨z',g',svr,h1,(λe=>nomatch e),h2,h3,h4,h5⟩
  refine enter hf hb rfl (by rw[List.size_toArray,←hv.len];exact hle) λact hE => ?_
  refine mB_ (Bs:=Bs) (F0:=⟨z,g,aj_ E ps⟩) (w0:=w) (Qr:=λy' a' w'=>a'.defers=[]/\∃v,(results fn a'.tmps).run P w' = .ok v w'/\EndIs P E z g Bs w ps rs a (hfst rs.ts (aK_ ps) (bI_ _ y')) (hsnd rs.ts (aK_ ps) (bI_ _ y')) v w') heq ht
   (λb s a' w' y' hR hy=>retF_ok hfr hR hy) c pl _ _ _ _ _ y act w _ hfr h ?_ ?_ ?_
  .refine⟨z,g,⟨hE.size,hE.defers,λt u hu => ?_⟩,hH,hfr,Fz.Le.refl z,Ga.Le.refl g⟩;unfold St.L at hu;simp only at hu;cases ha:au_ t (slotsOf 0 svs)with
   | none=>rw[ha]at hu;cases hu
   | some o =>
    rw[ha]at hu;obtain⟨x,v,h1,h2,h3⟩:=slots_in hv 0 t o ha;subst h1;obtain rfl:=qSj hu;exact⟨v,hE.get t v (by simpa using h2),h3⟩
  .intro ex s' a' w' he hR';cases ex with
   | some i=>cases he
   | none =>
    obtain⟨h1,v,h2,h3⟩:=retF_ok hfr hR' he;exact⟨h1,_,h2,v,rfl,h3⟩
  .intro y' a' w' he hq;obtain rfl:=qSj he;obtain⟨h1,v,h2,h3⟩:=hq;exact⟨h1,_,h2,v,rfl,h3⟩
end
section
variable{P:Program}{E:TE}{eqs:List (Nat×Nat)}{tab:Tab E}
theorem CallOK.flat{f:FuncId}{ps:List Pm}{rs:Rs}{ali:Bool}{a:PA E ps}{rh:HL E.S rs.ts}{bh:HL E.S (aK_ ps)}(hr:g3_ E rs=true)(hp:ee_ E ps=true)(h:CallOK P E f ps rs ali a rh bh):CallOK P E f ps rs false a rh bh:=by
 intro w z g Bs svs vs hav hH hfr hv;refine Ret.mono (h w z g Bs svs vs hav hH hfr hv) λv w' ⟨z',g',svr,h1,_,h3,h4,h5,h6⟩=>⟨z,g',svr,Fz.Le.refl z,(λ_=>rfl),h3,h4,?_,?_⟩
 .exact mr_ (z:=z') (g:=g') rfl h5 λvs hvs=>jK_ h4 h4 hvs (λi l _ hl=>hl) (.inr hr)
 .have key:∀i o,upH (λ_=>none) (ck_ E rs rh (aj_ E ps)++aI_ E ps (cS_ E ps a bh) 0 (aj_ E ps+cb_ E rs)) i=some o->Plain E (λ_=>True) o/\hA_ E o:=λi o e=>by
   rcases List.mem_append.1 (gR_ e)with hm|hm
   .obtain⟨p,e1,e2⟩:=mp_ hr i _ hm;obtain⟨p',e3,e4,_⟩:=ev_ i _ hm;obtain rfl:=qSj e1;obtain rfl:=qSj e3;exact⟨e4 _,e2⟩
   .obtain⟨p,e1,e2⟩:=co_ hp i _ hm;obtain⟨p',e3,e4,_⟩:=bT_ i _ hm;obtain rfl:=qSj e1;obtain rfl:=qSj e3;refine⟨?_,e2⟩;cases o with
    | box T cs =>
     intro c hc;have:=e4 c hc;cases c<;>first|trivial|exact this.elim
    | _=>exact e4
  refine⟨h6.chg,λi o e => ?_,h6.own,h6.apart,λk hk => ?_,λk hk => .inl hk,λi o k e hk hz=>h6.fza i o k e hk (h1 k hz).1,hH.gl⟩
  .obtain⟨k1,k2⟩:=key i o e;exact(ObjR.move k1 (λ_ _ _ hl=>hl) (.inr k2) rfl (h6.hold i o e)).1
  .obtain⟨k1,k2⟩:=h1 k hk;have k3:=h6.fz k k1;exact⟨k3.1,k3.2.trans k2⟩
def ae_(E:TE)(ps:List Pm)(rs:Rs)(ali:Bool)(f:PA E ps->Option (Tp E.S (rs.ts++aK_ ps))):Con E:=⟨ps,rs,ali,λ_ a k=>(f a).bind λy=>k (hfst rs.ts (aK_ ps) (bI_ _ y)) (hsnd rs.ts (aK_ ps) (bI_ _ y)),none⟩
theorem ab_(heq:∀p∈eqs,aH_ P E p.1 p.2)(ht:tab.OK P E){fid:FuncId}{fn:Func}(hf:P.funcs[fid]? = some fn){ps:List Pm}{rs:Rs}{ali:Bool}(hali:(ali||(g3_ E rs&&ee_ E ps))=true){pl:Pl}{f:PA E ps->Option (Tp E.S (rs.ts++aK_ ps))}
  (h:∀a,f a=fw_ P E eqs tab fn ps rs pl a):(ae_ E ps rs ali f).OK P E fid:=by
 intro R a k r hr;obtain⟨y,h1,h2⟩:=bind_some (show(f a).bind (λy=>k (hfst rs.ts (aK_ ps) (bI_ _ y)) (hsnd rs.ts (aK_ ps) (bI_ _ y)))=some r from hr);rw[h a]at h1;have h3:=evFun_ok heq ht hf h1;refine⟨_,_,h2,?_⟩;cases ali with
 | true=>exact h3
 | false =>
  simp only[Bool.false_or,qAn]at hali;exact h3.flat hali.1 hali.2
def idsC:List (SC E)->List Nat | []=>[] | .own id::cs=>id::idsC cs | .ptr id _::cs=>id::idsC cs | .pre id _::cs=>id::idsC cs | .suf id _::cs=>id::idsC cs | .mp id::cs=>id::idsC cs | .clo _ ids::cs=>ids++idsC cs|_::cs=>idsC cs
def idsX:List (V1 E)->List Nat | []=>[]|x::xs=>idsC x.cs++idsX xs
def kC_(H:Nat->Option (Obj E)):Nat->List Nat->List Nat
 | 0,l=>l
 | d+1,l=>l++kC_ H d (l.flatMap λi=>match H i with
  | some (.box _ cs)=>idsC cs
  | _=>[])
def onlyH(l:List Nat)(H:Nat->Option (Obj E)):Nat->Option (Obj E):=λi=>match ao_ i l with|true=>H i|false=>none
abbrev EndI(E:TE):=List (V1 E)×(Nat->Option (Obj E))×List Nat×Nat
def resI(P:Program)(E:TE)(vs:List ResultVar)(b:Ba E)(s:St E):Option (EndI E):=match resXs E P b s vs with|some xs=>some (xs,s.H b,s.heap.map (·.1),s.nx)|none=>none
def chsI(l:List Nat)(H:Nat->Option (Obj E)):Chs E:=l.map λi=>(i,H i)
def finI(E:TE)(cand:List Nat){R:Type}(k:Option (SV E)->Chs E->Option R)(y:EndI E):Option R:=k (some (oneV E y.1)) ((y.2.2.2+200,none)::chsI (cand++y.2.2.1) y.2.1)
noncomputable def inlF(P:Program)(E:TE)(eqs:List (Nat×Nat))(tab:Tab E)(fn:Func)(pl:Pl):InlF E:=λH nx xs R k=>match fn.body with
 | none=>none
 | some c=>cf_ (Nat.ble xs.length fn.ntmps)<|evCode P E eqs tab fn.ntmps (EndI E) (resI P E fn.results.toList) c pl R ⟨λ_=>none,onlyH (kC_ H 3 (idsX xs)) H,nx⟩ ⟨slotsOf 0 xs,none,[],none,nx⟩ (λex s=>match(match ex with
    | none=>true
    | some i=>Nat.beq i 0)with
   | true=>match resI P E fn.results.toList ⟨λ_=>none,onlyH (kC_ H 3 (idsX xs)) H,nx⟩ s with
    | some y=>finI E (kC_ H 3 (idsX xs)) k y
    | none=>none
   | false=>none) (finI E (kC_ H 3 (idsX xs)) k)
theorem chsI_look{H H':Nat->Option (Obj E)}{i:Nat}:∀{l:List Nat},upH H (chsI l H') i=match ao_ i l with
  | true=>H' i
  | false=>H i
 | []=>rfl
 | j::l=>by
  simp only[chsI,List.map_cons,upH,ao_];cases hb:Nat.beq i j with
  | true =>
   obtain rfl:=qNb hb;rfl
  | false=>exact chsI_look
theorem iS_{l:List Nat}{H:Nat->Option (Obj E)}{i:Nat}{o:Obj E}(h:onlyH l H i=some o):i∈l/\H i=some o:=by
 unfold onlyH at h;split at h
 .rename_i hm;exact⟨memN_true.1 hm,h⟩
 .cases h
theorem eh_(heq:∀p∈eqs,aH_ P E p.1 p.2)(ht:tab.OK P E){f:FuncId}{fn:Func}(hf:P.funcs[f]? = some fn){pl:Pl}:iK_ P E f (inlF P E eqs tab fn pl):=by
 intro z g nx H xs vs R k r Bs F0 w0 w hnx hH hv h;unfold inlF at h;cases hb:fn.body with
 | none=>rw[hb]at h;cases h
 | some c =>
  rw[hb]at h;simp only at h;obtain⟨hle,h⟩:=bq_ h;generalize hcand:kC_ H 3 (idsX xs)=cand at h
  -- the memory that is known, seen from here
  let B:List Nat:=(cand.map (blk (onlyH cand H) g)).flatten
  have hB:∀i p k,onlyH cand H i=some p->fpO g i p k->k∈B:=λi p k e hk=>List.mem_flatten.2 ⟨_,List.mem_map.2 ⟨i,(iS_ e).1,rfl⟩,mem_blk.2 ⟨p,e,hk⟩⟩
  have hB':∀k,k∈B->∃i p,i∈cand/\H i=some p/\fpO g i p k:=λk hk=>by
   obtain⟨_,i,p,_,h5,h6⟩:=hz_ hk;exact⟨i,p,(iS_ h5).1,(iS_ h5).2,h6⟩
  have hp:=hH.part (λ_ _ e=>(iS_ e).2) hB
  -- what is to be shown of the end
  let Q:EndI E->Value->World->Prop:=λy v w'=>∃z2 g2,z.Le z2/\g.Le g2/\Fresh g2 y.2.2.2/\RV P E z2 g2 (oneV E y.1) v/\HR P E B z.F w w' z2 g2 y.2.1
  have hend:∀(b:Ba E) (s:St E) (act:Act) (w':World) (y:EndI E),Rel P E B ⟨z,g,nx⟩ w fn.ntmps (s.L b) (s.H b) s.nx act w'->resI P E fn.results.toList b s=some y ->
    act.defers=[]/\∃v,(results fn act.tmps).run P w' = .ok v w'/\Q y v w':=by
   intro b s act w' y hR hy;obtain⟨z1,g1,hE,hH1,hfz,hz1,hg1⟩:=hR;unfold resI at hy;split at hy
   .rename_i ys hxs;obtain rfl:=qSj hy;obtain⟨us,h1,h2⟩:=oh_ hE hH1 hxs;exact⟨hE.defers,_,tuple_out rfl h1,z1,g1,hz1,hg1,hfz,oneV_ok h2,hH1⟩
   .cases hy
  have hfin:∀(y:EndI E) (v:Value) (w':World),finI E cand k y=some r->Q y v w'->∃s u z2 g2,k (some s) u=some r/\z.Le z2/\g.Le g2/\Fresh g2 (nxU nx u)/\RV P E z2 g2 s v/\HR P E Bs F0 w0 w' z2 g2 (upH H u):=by
   intro y v w' hy ⟨z2,g2,h1,h2,h3,h4,h5⟩;refine⟨_,_,z2,g2,hy,h1,h2,λi hi=>h3 i ?_,h4,?_⟩
   .simp only[nxU]at hi;split at hi<;>rename_i hb
    .omega
    .have:¬(nx+1+((chsI (cand++y.2.2.1) y.2.1).length+1)<=y.2.2.2+200+1):=λhle=>by
      rw[Nat.ble_eq_true_of_le hle]at hb;cases hb
     omega
   refine hH.back (I:=cand) (s:=λj i=>j=i) h5 (λk hk=>hB' k hk) h2 (λj p hj => ?_) (λj j' i h7 h8=>h7.trans h8.symm) (λj i p h7 h8=>by subst h7;exact⟨h5.hold _ _ h8,λ_=>Iff.rfl⟩) h1 h5.fz λk hk => ?_
   .simp only[upH]at hj;split at hj
    .cases hj
    .rw[chsI_look]at hj;split at hj
     .exact .inl ⟨j,rfl,hj⟩
     .rename_i hm;refine .inr ⟨λhc => ?_,hj⟩;rw[memN_true.2 (List.mem_append.2 (.inl hc))]at hm;cases hm
   .rcases h5.fz0 k hk with h7|h7|h7
    .exact .inl h7
    .exact .inr ⟨.inl h7,hk⟩
    .exact .inr ⟨.inr h7,hk⟩
  refine enter hf hb rfl (by rw[List.size_toArray,←hv.len];exact hle) λact hE => ?_
  refine mB_ (Bs:=B) (F0:=⟨z,g,nx⟩) (w0:=w) (Qr:=λy' a' w'=>a'.defers=[]/\∃v,(results fn a'.tmps).run P w' = .ok v w'/\Q y' v w') heq ht
   (λb s a' w' y' hR hy=>hend b s a' w' y' hR hy) c pl _ _ _ _ _ r act w _ hnx h ?_ ?_ ?_
  .refine⟨z,g,⟨hE.size,hE.defers,λt u hu => ?_⟩,hp,hnx,Fz.Le.refl z,Ga.Le.refl g⟩;unfold St.L at hu;simp only at hu;cases ha:au_ t (slotsOf 0 xs)with
   | none=>rw[ha]at hu;cases hu
   | some o =>
    rw[ha]at hu;obtain⟨x,v,h1,h2,h3⟩:=slots_in hv 0 t o ha;subst h1;obtain rfl:=qSj hu;exact⟨v,hE.get t v (by simpa using h2),h3⟩
  .intro ex s' a' w' he hR';rcases ex with _|_|i
   .simp only at he;split at he
    .rename_i y hy;obtain⟨h1,v,h2,h3⟩:=hend _ _ _ _ _ hR' hy;exact⟨h1,_,h2,v,rfl,hfin y v w' he h3⟩
    .cases he
   .simp only[Nat.beq]at he;split at he
    .rename_i y hy;obtain⟨h1,v,h2,h3⟩:=hend _ _ _ _ _ hR' hy;exact⟨h1,_,h2,v,rfl,hfin y v w' he h3⟩
    .cases he
   .simp only[Nat.beq]at he;cases he
  .intro y' a' w' he hq;obtain⟨h1,v,h2,h3⟩:=hq;exact⟨h1,_,h2,v,rfl,hfin y' v w' he h3⟩
end
section
variable{P:Program}{E:TE}
theorem gV_:∀{ps:List Pm} {a:PA E ps} {n:Nat},iJ_ ps=false->aU_ E ps a n=[]
 | [],_,_,_=>rfl
 | .l _ _::_,_,_,h=>by cases h
 | .g _ _::_,_,_,h=>by cases h
 | .mp _ _ _::_,_,_,h=>by cases h
 | .b _ _::_,_,_,h=>by cases h
 | .bm _ _ _ _::_,_,_,h=>by cases h
 | .d _::ps,a,n,h=>gV_ (ps:=ps) (a:=a.2) (n:=n) h
 | .p _::ps,a,n,h=>gV_ (ps:=ps) (a:=a.2) (n:=n) h
 | .f1 _ _::ps,a,n,h=>gV_ (ps:=ps) (a:=a.2) (n:=n) h
 | .f2 _ _ _::ps,a,n,h=>gV_ (ps:=ps) (a:=a.2) (n:=n) h
theorem io_:∀{ps:List Pm} {a:PA E ps} {n k:Nat},iJ_ ps=false->aI_ E ps a n k=[]
 | [],_,_,_,_=>rfl
 | .l _ _::_,_,_,_,h=>by cases h
 | .g _ _::_,_,_,_,h=>by cases h
 | .mp _ _ _::_,_,_,_,h=>by cases h
 | .b _ _::_,_,_,_,h=>by cases h
 | .bm _ _ _ _::_,_,_,_,h=>by cases h
 | .d _::ps,a,n,k,h=>io_ (ps:=ps) (a:=a.2) (n:=n) (k:=k) h
 | .p _::ps,a,n,k,h=>io_ (ps:=ps) (a:=a.2) (n:=n) (k:=k) h
 | .f1 _ _::ps,a,n,k,h=>io_ (ps:=ps) (a:=a.2) (n:=n) (k:=k) h
 | .f2 _ _ _::ps,a,n,k,h=>io_ (ps:=ps) (a:=a.2) (n:=n) (k:=k) h
theorem mC_{f:FuncId}{ps:List Pm}{r:Ty}{a:PA E ps}{y:Den E.S r}{bh:HL E.S (aK_ ps)}(hr:r.flatB=true)(hl:iJ_ ps=false){svs0:List (V1 E)}{us:List Value}{v:Value}(ha:bs_ E ps a 0=some svs0)(he:encVs svs0=some us)(hv:(V1.one (.dt r y):V1 E).enc=some v)
  (h:∀w z,z.In w->Glo E z->Ret P f us.toArray w λu w'=>u=v/\Ext w w'):CallOK P E f ps [(r,[])] false a (y,()) bh:=by
 intro w z g Bs svs vs hav hH hfr hvs;rw[ha]at hav;obtain rfl:=qSj hav;obtain rfl:=(jp_ he).1 hvs;refine(h w z hH.fz hH.gl).mono λu w' ⟨hu,hx⟩ => ?_
 subst hu;refine⟨z,g,[.one (.dt r y)],Fz.Le.refl z,λ_=>rfl,Ga.Le.refl g,?_,(show R1 P E z g (.one (.dt r y)) u from(V1.enc_ok hv).2 rfl),?_⟩
 .cases r with
  | int k=>rfl
  | bool=>rfl
  | str=>rfl
  | _=>cases hr
 .have h1:=hH.ext hx;rw[gV_ hl]at h1;rw[io_ hl];have h2:ck_ E [(r,([]:Mk))] (y,()) (aj_ E ps)=[]:=by
   cases r with
   | int k=>rfl
   | bool=>rfl
   | str=>rfl
   | _=>cases hr
  rw[h2];exact h1
theorem kd_{f:FuncId}{ps:List Pm}{r:Ty}{a:PA E ps}{y:Den E.S r}{bh:HL E.S (aK_ ps)}(hr:r.flatB=true)(hl:iJ_ ps=false){svs0:List (V1 E)}{us:List Value}{v:Value}(ha:bs_ E ps a 0=some svs0)(he:encVs svs0=some us)(hv:(V1.one (.dt r y):V1 E).enc=some v)
  (h:∀w,Ret P f us.toArray w λu w'=>u=v/\Ext w w'):CallOK P E f ps [(r,[])] false a (y,()) bh :=
 mC_ hr hl ha he hv λw _ _ _=>h w
theorem g8_{f:FuncId}{ps:List Pm}{rs:Rs}{ali:Bool}{F:PA E ps->Option (Tp E.S (rs.ts++aK_ ps))}(h:∀a,F a=none):(ae_ E ps rs ali F).OK P E f:=λR a k r hr=>by
 have:(F a).bind (λy=>k (hfst rs.ts (aK_ ps) (bI_ _ y)) (hsnd rs.ts (aK_ ps) (bI_ _ y)))=some r:=hr;rw[h a]at this;cases this
def c8_:Tab E:=λ_=>none
theorem ac_:(c8_:Tab E).OK P E:=λ_ _ h=>by cases h
def tb(f:Nat)(C:Con E)(r:Tab E):Tab E:=λn=>match Nat.beq n f with|true=>some C|false=>r n
theorem aa_{f:Nat}{C:Con E}{r:Tab E}(h:Con.OK P E f C/\cn_ P f=true)(hr:r.OK P E)(hI:C.I=none:=by rfl):(tb f C r).OK P E:=λn D hD=>by
 unfold tb at hD;split at hD
 .rename_i hb;obtain rfl:=qNb hb;obtain rfl:=qSj hD;exact⟨h.1,h.2,λI e=>by rw[hI]at e;cases e⟩
 .exact hr n D hD
def inlC(I:InlF E):Con E:=⟨[.b 0 .bool],[],true,λ_ _ _=>none,some I⟩
def ti(f:Nat)(I:InlF E)(r:Tab E):Tab E:=tb f (inlC I) r
theorem cj_{f:Nat}{I:InlF E}{r:Tab E}(h:iK_ P E f I/\cn_ P f=true)(hr:r.OK P E):(ti f I r).OK P E:=λn D hD=>by
 unfold ti tb at hD;split at hD
 .rename_i hb;obtain rfl:=qNb hb;obtain rfl:=qSj hD;refine⟨(λR a k r hr=>nomatch hr),h.2,λJ e=>⟨rfl,?_⟩⟩;obtain rfl:=qSj e;exact h.1
 .exact hr n D hD
end
open Go.ChangeShapes Go.WideShapes Go.Deep
def InK(k:IntKind)(n:Int):Prop:=k.min<=n/\n<=k.max
abbrev I64(n:Int):Prop := -9223372036854775808<=n/\n<=9223372036854775807
def FitL{S:Nat->Type}(f:(t:Ty)->Den S t->Prop):(ts:List Ty)->HL S ts->Prop | [],_=>True|t::ts,h=>f t h.1/\FitL f ts h.2
def FitC(E:TE):Nat->(t:Ty)->Den E.S t->Prop|_,.int k,x=>InK k x|_,.bool,_=>True|_,.str,s=>s.length<=9223372036854775807 | 0,.sl _,xs=>xs.length<=9223372036854775807|k+1,.sl e,xs=>xs.length<=9223372036854775807/\∀x∈xs,FitL (FitC E k) (E.flat e) (E.fl e x)|_,.st _,_=>True
def Fit(E:TE)(t:Ty)(x:Den E.S t):Prop:=∀k,FitL (FitC E k) (E.flat t) (E.fl t x)
theorem FitL.app{S:Nat->Type}{f:(t:Ty)->Den S t->Prop}:∀{ts us:List Ty} {h:HL S ts} {k:HL S us},FitL f ts h->FitL f us k->FitL f (ts++us) (hap h k)
 | [],_,_,_,_,h2=>h2
 | _::_,_,_,_,h1,h2=>⟨h1.1,h1.2.app h2⟩
section
variable{E:TE}{z:Fz}
theorem RD.app:∀{ts us:List Ty} {h:HL E.S ts} {k:HL E.S us} {vs ws:List Value},RD E z ts h vs->RD E z us k ws->RD E z (ts++us) (hap h k) (vs++ws)
 | [],_,_,_,_,_,h1,h2=>by rw[h1.nil_inv];exact h2
 | t::ts,us,h,k,vs,ws,h1,h2=>by
  obtain⟨v,vs',rfl,h3,h4⟩:=h1.uncons;exact RD.cons h3 (h4.app h2)
def prefB(ts us:List Ty):Bool:=decide (us.take ts.length=ts)
theorem prefB_eq{ts us:List Ty}(h:prefB ts us=true):us=ts++us.drop ts.length:=by
 unfold prefB at h;have h1:=of_decide_eq_true h;have h2:=List.take_append_drop ts.length us;rw[h1]at h2;exact h2.symm
def jv_(P:Program)(E:TE)(f:TypeId->Ty->Bool)(total:Nat):Nat->List Field->List Ty->Bool
 | off,[],ts=>Nat.beq off total&&ts.isEmpty
 | off,g::gs,ts=>match E.ty g.type with
  | some t=>Nat.beq g.offset off&&(f g.type t&&(prefB (E.flat t) ts&&jv_ P E f total (off+P.cellsOf g.type) gs (ts.drop (E.flat t).length)))
  | none=>false
def arrTy(E:TE)(t:Ty):Nat->List Ty->Bool | 0,ts=>ts.isEmpty|n+1,ts=>prefB (E.flat t) ts&&arrTy E t n (ts.drop (E.flat t).length)
def tyOK(P:Program)(E:TE):Nat->TypeId->Ty->Bool
 | 0,_,_=>false
 | n+1,T,t=>match P.underlying T,t with
  | some (.int k),.int k'=>decide (k=k')
  | some .bool,.bool=>true
  | some .string,.str=>true
  | some (.slice e),.sl t=>tyOK P E n e t&&Nat.beq (P.cellsOf e) (E.size t)
  | some (.struct fs),.st m=>jv_ P E (tyOK P E n) (P.cellsOf T) 0 fs.toList (E.cs m)
  | some (.array c e),.st m=>match E.ty e with
   | some t=>tyOK P E n e t&&(Nat.beq (c*P.cellsOf e) (P.cellsOf T)&&arrTy E t c (E.cs m))
   | none=>false
  | _,_=>false
end
section
variable{H:Type}{enc:TypeId×Value->H}{P:Program}{E:TE}{w:World}{spare:Nat->Bool}{held:Bool}
def d3_(w:World):Fz:=⟨λk=>k<w.heap.size,w⟩
def Opens(E:TE)(w:World)(ts:List Ty)(cs:List Value):Prop:=∃h:HL E.S ts,RD E (d3_ w) ts h cs/\∀k,FitL (FitC E k) ts h
theorem Opens.app{ts us:List Ty}{cs ds:List Value}(h1:Opens E w ts cs)(h2:Opens E w us ds):Opens E w (ts++us) (cs++ds):=by
 obtain⟨h,h3,h4⟩:=h1;obtain⟨k,h5,h6⟩:=h2;exact⟨hap h k,h3.app h5,λn=>(h4 n).app (h6 n)⟩
theorem mD_{f:TypeId->Ty->Bool}{total m:Nat}(hf:∀T t cs (x:DataW H×List MemPlace),f T t=true->DataW.trod enc P w 0 spare held m T cs=some x->Opens E w (E.flat t) cs){cs:List Value}(hcs:cs.length=total) :
  ∀{gs:List Field} {off:Nat} {ts:List Ty} {xs:List (DataW H×List MemPlace)},jv_ P E f total off gs ts=true->xs.length=gs.length ->
   (∀(i:Nat) (g:Field),gs[i]? = some g->DataW.trod enc P w 0 spare held m g.type ((cs.drop g.offset).take (P.cellsOf g.type))=xs[i]?)->Opens E w ts (cs.drop off)
 | [],off,ts,xs,h,_,_=>by
  simp only[jv_,qAn]at h;obtain rfl:off=total:=qNb h.1;obtain rfl:ts=[]:=by simpa using h.2
  rw[List.drop_eq_nil_of_le (by omega)];exact⟨(),.nil,λ_=>trivial⟩
 | g::gs,off,ts,xs,h,hl,ht=>by
  simp only[jv_]at h;split at h
  .rename_i t hty;simp only[qAn]at h;obtain⟨h1,h2,h3,h4⟩:=h;obtain rfl:g.offset=off:=qNb h1;cases xs with
   | nil=>simp at hl
   | cons x xs =>
    have h0:=ht 0 g rfl;simp only[List.getElem?_cons_zero]at h0;have ha:=hf _ _ _ _ h2 h0;have hb:=mD_ hf hcs h4 (by simpa using hl) (λi g' hg=>by simpa using ht (i+1) g' (by simpa using hg));have:=ha.app hb;rw[←prefB_eq h3,←List.drop_drop,List.take_append_drop]at this;exact this
  .cases h
theorem arr_opens{c m e n:Nat}{t:Ty}{cs:List Value}(hcs:cs.length=n*c)(hf:∀i,i<n->Opens E w (E.flat t) ((cs.drop (i*c)).take c)):∀{k:Nat} {ts:List Ty},k<=n->arrTy E t k ts=true->Opens E w ts (cs.drop ((n-k)*c))
 | 0,ts,_,h=>by
  obtain rfl:ts=[]:=by simpa[arrTy]using h
  rw[List.drop_eq_nil_of_le (by rw[hcs,Nat.sub_zero];exact Nat.le_refl _)];exact⟨(),.nil,λ_=>trivial⟩
 | k+1,ts,hk,h=>by
  simp only[arrTy,qAn]at h;have ha:=hf (n-(k+1)) (by omega);have hb:=arr_opens (m:=m) (e:=e) hcs hf (k:=k) (by omega) h.2;have:=ha.app hb;rw[←prefB_eq h.1]at this;have e1:(n-k)*c=(n-(k+1))*c+c:=by
   rw[show n-k=n-(k+1)+1 by omega,Nat.succ_mul]
  rw[e1,←List.drop_drop,List.take_append_drop]at this;exact this
theorem iT_:∀{n fuel:Nat} {T:TypeId} {t:Ty} {cs:List Value} {x:DataW H×List MemPlace},tyOK P E n T t=true->DataW.trod enc P w 0 spare held fuel T cs=some x->Opens E w (E.flat t) cs
 | 0,_,_,_,_,_,h,_=>by cases h
 | n + 1,fuel,T,t,cs,x,h,hd=>by
  simp only[tyOK]at h;split at h
  .rename_i k k' hu;obtain rfl:=of_decide_eq_true h;obtain⟨m,rfl,rfl,hw⟩:=DataW.trod_int hu hd;exact⟨(m,()),.int .nil,λ_=>⟨by simpa[Lit.wf,InK,FitC]using hw,trivial⟩⟩
  .rename_i hu;obtain⟨b,rfl,rfl⟩:=DataW.trod_bool hu hd;exact⟨(b,()),.bool .nil,λk=>⟨by cases k<;>trivial,trivial⟩⟩
  .rename_i hu;obtain⟨s,rfl,rfl,hs⟩:=DataW.trod_string hu hd;refine⟨(s.data.toList,()),?_,λk=>⟨?_,trivial⟩⟩
   .have:Value.string s=S s.data.toList:=by simp[S]
    rw[this];exact .str .nil
   .have e:FitC E k .str s.data.toList=(s.data.toList.length<=9223372036854775807):=by cases k<;>rfl
    show FitC E k .str s.data.toList;rw[e];have:s.data.toList.length=s.size:=by rw[Array.length_toList];rfl
    rw[this];exact hs
  .rename_i e t hu;simp only[qAn]at h;have hC:P.cellsOf e=E.size t:=qNb h.2;rcases open_slice hu hd with⟨rfl,_⟩|⟨a,len,cap,m,q,D,Pl,rfl,_,hl,hm,hmm,hx,hi⟩
   .exact⟨([],()),.sl (rows:=[]) (SlF.nil _ _ _ _) (Nat.le_refl _) (λi x r h=>by simp at h) .nil,λk=>⟨by cases k<;>simp[FitC],trivial⟩⟩
   .have hlm:len<=m:=by rw[hmm];split<;>omega
    have hc:0<E.size t:=E.size_pos t
    let row:Nat->List Value:=λi=>(w.cells? 0 (a.add (i*E.size t)) (E.size t)).getD []
    have hrow:∀i,i<len->w.cells? 0 (a.add (i*E.size t)) (E.size t)=some (row i)/\Opens E w (E.flat t) (row i):=λi hi'=>by
     obtain⟨cs',h1,h2⟩:=hi i (by omega);rw[hC]at h1;simp only[row,h1,Option.getD_some];exact⟨trivial,iT_ h.1 h2⟩
    have hxs:∀j,j<=len->∃xs:List (Den E.S t),xs.length=j/\∀i x,xs[i]? = some x->RD E (d3_ w) (E.flat t) (E.fl t x) (row i)/\∀k,FitL (FitC E k) (E.flat t) (E.fl t x):=by
     intro j
     induction j with
     | zero=>intro _;exact⟨[],rfl,λi x h=>by simp at h⟩
     | succ j ih =>
      intro hj;obtain⟨xs,h1,h2⟩:=ih (by omega);obtain⟨hh,h3,h4⟩:=(hrow j (by omega)).2;refine⟨xs++[E.ufl t hh],by simp[h1],λi x hx => ?_⟩;rw[List.getElem?_append]at hx;split at hx
      .exact h2 i x hx
      .rename_i hge;have hij:i=j:=by
        have:i-xs.length<1:=by
         rcases Nat.lt_or_ge (i-xs.length) 1 with h5|h5
         .exact h5
         .rw[List.getElem?_eq_none (by simpa using h5)]at hx;cases hx
        omega
       subst hij;rw[h1,Nat.sub_self]at hx;simp only[List.getElem?_cons_zero,qOi]at hx;subst hx;rw[E.fl_ufl];exact⟨h3,h4⟩
    obtain⟨xs,hxl,hxs⟩:=hxs len (Nat.le_refl _);have hr:∀(i:Nat) x r,xs[i]? = some x->((List.range len).map row)[i]? = some r->RD E (d3_ w) (E.flat t) (E.fl t x) r:=λi x r h1 h2=>by
     have hil:i<len:=by rw[←hxl];exact(List.getElem?_eq_some_iff.1 h1).1
     rw[List.getElem?_map,List.getElem?_range hil]at h2;simp only[Option.map_some,qOi]at h2;subst h2;exact(hxs i x h1).1
    refine⟨(xs,()),?_,λk=>⟨?_,trivial⟩⟩
    .have hs:SlF (d3_ w).F (E.size t) (some a) xs.length ((List.range len).map row) (d3_ w).w:=by
      refine⟨by simp[hxl],λhn => ?_⟩;obtain⟨b,off,spot⟩:=a;rw[hxl]at hn;have g0:=(World.cells?_some (hrow 0 hn).1).2;have hg:=g0.2 0 hc;obtain⟨c0,hc0⟩:∃c0,(row 0)[0]? = some c0:=⟨(row 0)[0]'(by rw[g0.1];exact hc),List.getElem?_eq_getElem _⟩;rw[hc0]at hg;have hspot:spot=none:=by simpa[Addr.add]using World.cell?_spot hg
      subst hspot;refine⟨b,off,rfl,?_,λi r hr => ?_⟩
      .have hb:((Addr.add ⟨b,off,none⟩ (0*E.size t)).add 0).block=b:=by rw[Addr.add_mk,Addr.add_mk]
       unfold World.cell? at hg;split at hg
       .rename_i heap _ _ hh;rw[hb]at hh;show b<w.heap.size;rcases Nat.lt_or_ge b w.heap.size with h'|h'
        .exact h'
        .rw[Array.getElem?_eq_none h']at hh;cases hh
       .cases hg
      .rw[List.getElem?_map]at hr;by_cases hi':i<len
       .rw[List.getElem?_range hi']at hr;simp only[Option.map_some,qOi]at hr;subst hr;obtain⟨_,h2,h3⟩:=World.cells?_some (hrow i hi').1;refine⟨h2,λj u hu => ?_⟩;have hj:j<E.size t:=by rw[←h2];exact(List.getElem?_eq_some_iff.1 hu).1
        have:=h3 j hj;rw[Addr.add_mk,Addr.add_mk]at this;show w.cell? _=_;rw[this];exact hu
       .rw[List.getElem?_eq_none (by simp;omega)]at hr;cases hr
     have:=RD.sl (E:=E) (z:=d3_ w) (e:=t) (xs:=xs) (cap:=cap) (ts:=[]) (h:=()) hs (by rw[hxl];exact hl) hr .nil;rw[hxl]at this;exact this
    .have hb:xs.length<=9223372036854775807:=by unfold maxLen at hm;omega
     cases k with
     | zero=>exact hb
     | succ k =>
      refine⟨hb,λx hx => ?_⟩;obtain⟨i,hi'⟩:=List.mem_iff_getElem?.1 hx;exact(hxs i x hi').2 k
  .rename_i fs m hu;obtain⟨xs,q,_,rfl,hcl,hxl,hf⟩:=DataW.trod_struct hu hd;have:=mD_ (λT t cs x hk ht=>iT_ (n:=n) hk ht) hcl h (by simpa using hxl) (λi g hg=>hf i g (by simpa using hg));rw[List.drop_zero]at this;exact this
  .rename_i c e m hu;split at h
   .rename_i t hty;simp only[qAn]at h;obtain⟨h1,h2,h3⟩:=h;obtain⟨xs,q,_,rfl,hcl,hxl,hf⟩:=DataW.trod_array hu hd;have hlen:cs.length=c*P.cellsOf e:=by rw[hcl];exact(qNb h2).symm
    have:=arr_opens (c:=P.cellsOf e) (m:=0) (e:=0) (t:=t) hlen (λi hi=>by
     have:=hf i hi;rw[List.getElem?_eq_getElem (by omega)]at this;exact iT_ h1 this) (Nat.le_refl c) h3
    rw[Nat.sub_self,Nat.zero_mul,List.drop_zero]at this;exact this
   .cases h
  .cases h
theorem hI_{r:Reach}{b0 n:Nat}{T:TypeId}{t:Ty}{v:Value}{d:DataW H}{ps:List MemPlace}(ht:tyOK P E n T t=true)(hv:Value.okWide P w r b0 T v)(h:DataW.Trod enc P w 0 spare held T v d ps) :
  ∃x:Den E.S t,(∃y,asV E t (E.cells t x)=some y/\∀(g:Ga),R1 P E (d3_ w) g y v)/\Fit E t x:=by
 obtain⟨fuel,hf⟩:=h;obtain⟨hh,h1,h2⟩:=iT_ ht hf;refine⟨E.ufl t hh,?_,λk=>by rw[E.fl_ufl];exact h2 k⟩;have hcells:RD E (d3_ w) (E.flat t) (E.fl t (E.ufl t hh)) v.cells.toList:=by rw[E.fl_ufl];exact h1
 have hRT:RT E (d3_ w) t (E.ufl t hh) v:=by
  cases n with
  | zero=>cases ht
  | succ n =>
   simp only[tyOK]at ht;split at ht
   .rename_i k k' hu;obtain⟨m,rfl⟩:=okWide_int hu hv;exact hcells
   .rename_i hu;obtain⟨m,rfl⟩:=okWide_bool hu hv;exact hcells
   .rename_i hu;obtain⟨m,rfl⟩:=okWide_string hu hv;exact hcells
   .rename_i e t hu;obtain⟨a,len,cap,rfl⟩:=okWide_slice hu hv;exact hcells
   .rename_i fs m hu;obtain⟨cs,rfl,_⟩:=okWide_struct hu hv;exact⟨cs.toList,by rw[Array.toArray_toList],hcells⟩
   .rename_i c e m hu;simp only[Value.okWide,hu]at hv;obtain⟨cs,rfl,_⟩:=hv;exact⟨cs.toList,by rw[Array.toArray_toList],hcells⟩
   .cases ht
 obtain⟨y,h3,h4⟩:=kw_ (P:=P) hRT (λ_ => .none);refine⟨y,h3,λg => ?_⟩;obtain⟨y',h5,h6⟩:=kw_ (P:=P) hRT g;rw[h3]at h5;obtain rfl:=qSj h5;exact h6
theorem iU_{f:FuncId}{ps:List Pm}{F:PA E ps->Option (Tp E.S (Rs.ts [(.bool,[])]++aK_ ps))}{ali:Bool}(hc:(ae_ E ps [(.bool,[])] ali F).OK P E f)(hl:iJ_ ps=false){a:PA E ps}{y:Tp E.S (Rs.ts [(.bool,[])]++aK_ ps)}(hF:F a=some y)
  (hy:(hfst (Rs.ts [(.bool,[])]) (aK_ ps) (bI_ _ y)).1=true) {svs:List (V1 E)} (hsv:bs_ E ps a 0=some svs) {vs:List Value} (hvs:All2 (R1 P E (d3_ w) λ_=>none) svs vs) (hgl:Glo E (d3_ w)) :
  Ret P f vs.toArray w λv w'=>v = .bool true/\Below w.heap.size w w':=by
 obtain⟨rh,bh,hk,hcall⟩:=hc Bool a (λrh _=>some rh.1) true (by
  show(F a).bind _=_;rw[hF];exact congrArg some hy)
 have hin:(d3_ w).In w:=λk hk=>⟨hk,rfl⟩
 refine(hcall w (d3_ w) (λ_=>none) [] svs vs hsv (by
  show HR P E [] (d3_ w).F w w (d3_ w) (λ_=>none) (upH (λ_=>none) (aU_ E ps a 0));rw[gV_ hl];exact HR.nothing hin hgl _) (λ_ _=>rfl) hvs).mono λv w' ⟨z',g',svr,_,_,_,hres,hrv,hHR⟩ => ?_
 refine⟨?_,hHR.chg.below⟩;have hrh:rh.1=true:=qSj hk;have e:svr=[.one (.dt .bool rh.1)]:=(qSj hres).symm;subst e;rw[hrh]at hrv;exact SV.bool_ok rfl hrv
end
end Rt
namespace Rt
def insW{α:Type}(le:α->α->Bool)(x:α):List α->List α | []=>[x]|y::l=>bif le x y then x::y::l else y::insW le x l
def isortN{α:Type}(le:α->α->Bool):List α->List α | []=>[]|x::l=>insW le x (isortN le l)
def leN{α:Type}(key:α->Str)(x y:α):Bool := !(Op.bytesLess (key y) (key x))
def gW_{α:Type}(key:α->Str)(xs:List α):Option (List α):=if xs.length<4611686018427387904 then(if(xs.map key).Nodup then some (isortN (leN key) xs)else none)else none
theorem jP_{α:Type}{R:α->α->Prop}:∀{l1 l2:List α},l1.Perm l2->l1.Pairwise R->l2.Pairwise R->(∀a,a∈l1->∀b,b∈l1->R a b->R b a->a=b)->l1=l2
 | [],l2,hp,_,_,_=>hp.nil_eq
 | a::l1,[],hp,_,_,_=>absurd hp.length_eq (by simp)
 | a::l1,b::l2,hp,h1,h2,hR=>by
  have h1':=List.pairwise_cons.1 h1;have h2':=List.pairwise_cons.1 h2;have hab:a=b:=by
   by_cases e:a=b
   .exact e
   have ha:a∈b::l2:=hp.subset List.mem_cons_self;have hb:b∈a::l1:=hp.symm.subset List.mem_cons_self;rcases List.mem_cons.1 ha with h|ha'
   .exact h
   rcases List.mem_cons.1 hb with h|hb'
   .exact h.symm
   exact hR a List.mem_cons_self b hb (h1'.1 b hb') (h2'.1 a ha')
  subst hab;rw[jP_ hp.cons_inv h1'.2 h2'.2 λx hx y hy=>hR x (List.mem_cons_of_mem _ hx) y (List.mem_cons_of_mem _ hy)]
section
variable{α:Type}{le:α->α->Bool}
theorem mF_(x:α):∀(l:List α),(insW le x l).Perm (x::l)
 | []=>List.Perm.refl _
 | y::l=>by
  unfold insW;cases le x y with
  | true=>exact List.Perm.refl _
  | false=>exact((mF_ x l).cons y).trans (List.Perm.swap x y l)
theorem nL_:∀(l:List α),(isortN le l).Perm l
 | []=>List.Perm.refl _
 | x::l=>(mF_ x _).trans ((nL_ l).cons x)
theorem nM_(ht:∀a b c,le a b=true->le b c=true->le a c=true)(hl:∀a b,le a b=true\/le b a=true)(x:α):∀(l:List α),l.Pairwise (λa b=>le a b=true)->(insW le x l).Pairwise (λa b=>le a b=true)
 | [],_=>by simp[insW]
 | y::l,h=>by
  obtain⟨h1,h2⟩:=List.pairwise_cons.1 h;unfold insW;cases hx:le x y with
  | true =>
   refine List.pairwise_cons.2 ⟨λz hz => ?_,h⟩;rcases List.mem_cons.1 hz with rfl|hz
   .exact hx
   .exact ht _ _ _ hx (h1 z hz)
  | false =>
   refine List.pairwise_cons.2 ⟨λz hz => ?_,nM_ ht hl x l h2⟩;rcases List.mem_cons.1 ((mF_ x l).subset hz)with rfl|hz
   .rcases hl z y with h'|h'
    .rw[hx]at h';cases h'
    .exact h'
   .exact h1 z hz
theorem lX_(ht:∀a b c,le a b=true->le b c=true->le a c=true)(hl:∀a b,le a b=true\/le b a=true):∀(l:List α),(isortN le l).Pairwise (λa b=>le a b=true)
 | []=>List.Pairwise.nil
 | x::l=>nM_ ht hl x _ (lX_ ht hl l)
end
theorem dp_:∀(a:Str),Op.bytesLess a a=false
 | []=>rfl
 | a::l=>by simp[Op.bytesLess,dp_ l,UInt8.lt_irrefl]
theorem d4_:∀(a b c:Str),Op.bytesLess a b=true->Op.bytesLess b c=true->Op.bytesLess a c=true
 | a,b,[],h1,h2=>by cases b<;>simp[Op.bytesLess]at h2
 | [],_,_::_,_,_=>rfl
 | a::x,[],c::z,h1,_=>by simp[Op.bytesLess]at h1
 | a::x,b::y,c::z,h1,h2=>by
  simp only[Op.bytesLess,Bool.or_eq_true,qDe,qAn,beq_iff_eq]at *
  rcases h1 with h1|⟨rfl,h1⟩<;>rcases h2 with h2|⟨rfl,h2⟩
  .exact .inl (UInt8.lt_trans h1 h2)
  .exact .inl h1
  .exact .inl h2
  .exact .inr ⟨rfl,d4_ x y z h1 h2⟩
theorem h3_:∀(a b:Str),Op.bytesLess a b=false->Op.bytesLess b a=false->a=b
 | [],[],_,_=>rfl
 | [],b::y,h1,_=>by simp[Op.bytesLess]at h1
 | a::x,[],_,h2=>by simp[Op.bytesLess]at h2
 | a::x,b::y,h1,h2=>by
  simp only[Op.bytesLess,Bool.or_eq_false_iff,decide_eq_false_iff_not,Bool.and_eq_false_imp,beq_iff_eq]at *
  have hab:a=b:=UInt8.le_antisymm (UInt8.not_lt.1 h2.1) (UInt8.not_lt.1 h1.1);subst hab;rw[h3_ x y (h1.2 rfl) (h2.2 rfl)]
theorem leN_trans{α:Type}(key:α->Str)(a b c:α)(h1:leN key a b=true)(h2:leN key b c=true):leN key a c=true:=by
 unfold leN at *
 simp only[Bool.not_eq_true']at *
 cases h:Op.bytesLess (key c) (key a)with
 | false=>rfl
 | true =>
  cases h3:Op.bytesLess (key a) (key b)with
  | true=>rw[d4_ _ _ _ h h3]at h2;cases h2
  | false =>
   rw[h3_ _ _ h3 h1]at h;rw[h]at h2;cases h2
theorem leN_total{α:Type}(key:α->Str)(a b:α):leN key a b=true\/leN key b a=true:=by
 unfold leN;simp only[Bool.not_eq_true'];cases h:Op.bytesLess (key b) (key a)with
 | false=>exact .inl rfl
 | true =>
  right
  cases h3:Op.bytesLess (key a) (key b)with
  | false=>rfl
  | true=>have:=d4_ _ _ _ h h3;rw[dp_]at this;cases this
theorem keyN_inj{α:Type}{key:α->Str}:∀{l:List α},(l.map key).Nodup->∀a,a∈l->∀b,b∈l->key a=key b->a=b
 | [],_,a,ha,_,_,_=>by cases ha
 | x::l,h,a,ha,b,hb,e=>by
  rw[List.map_cons]at h;obtain⟨h1,h2⟩:=List.nodup_cons.1 h;rcases List.mem_cons.1 ha with ha1|ha1<;>rcases List.mem_cons.1 hb with hb1|hb1
  .rw[ha1,hb1]
  .rw[ha1]at e;exact absurd (List.mem_map.2 ⟨b,hb1,e.symm⟩) h1
  .rw[hb1]at e;exact absurd (List.mem_map.2 ⟨a,ha1,e⟩) h1
  .exact keyN_inj h2 a ha1 b hb1 e
theorem pm_{α:Type}{key:α->Str}{xs ys zs:List α}(h:gW_ key xs=some ys)(hp:zs.Perm xs)(hs:zs.Pairwise λa b=>leN key a b=true):zs=ys:=by
 unfold gW_ at h;split at h
 .split at h
  .rename_i hn;obtain rfl:=qSj h;refine jP_ (hp.trans (nL_ xs).symm) hs (lX_ (leN_trans key) (leN_total key) xs) λa ha b hb h3 h4 => ?_
   refine keyN_inj hn a (hp.subset ha) b (hp.subset hb) ?_;unfold leN at h3 h4;simp only[Bool.not_eq_true']at h3 h4;exact h3_ _ _ h4 h3
  .cases h
 .cases h
end Rt
end Go
namespace Go.Proofs.YtfbcbakhdkppoaaGreatDoor
open Go.Rt Go.RowKit
noncomputable section
structure Xb where (Xm Xr Xe:Str)
deriving DecidableEq,Inhabited
structure Xh where (Xg:List Xb)
deriving DecidableEq,Inhabited
structure Xk where (Xy Xp:Str) (Xo:Bool)
deriving DecidableEq,Inhabited
structure Xw where (Xu Xa Yz Xd:Str) (Xn:List Xk) (Xt:Str)
deriving DecidableEq,Inhabited
structure Xv where (Xy:Str) (Xf:List Xw) (Xl:Int)
deriving DecidableEq,Inhabited
structure Xj where (Xc:List Xh) (Xq:List Xv)
deriving DecidableEq,Inhabited
structure Xz where (Op_ C_:Int) (Yx:Str) (Yj:Bool) (X_ Y_:Int)
deriving DecidableEq,Inhabited
structure Yq where (Yg:List Xz) (Yp:Int)
deriving DecidableEq,Inhabited
structure regex_parser where (s_:Str) (at_ groups_:Int) (code_:List Xz) (bad_:Int)
deriving DecidableEq,Inhabited
structure plumb_state where (m_:Xw) (text_:Str) (caps_:List Int) (port_:Str)
deriving DecidableEq,Inhabited
structure regex_thread where (at_:Int) (caps_:List Int)
deriving DecidableEq,Inhabited
structure regex_machine where (r_:Yq) (s_:Str) (pos_:Int) (visited_:List Int) (list_:List regex_thread)
deriving DecidableEq,Inhabited
structure Xx where (L_:List Xz) (At_ N_:Int) (Xi:Bool)
deriving DecidableEq,Inhabited
structure Zq where (Zk Id_ Zx N_:Int) (Xt:Str) (Yi:Xw)
deriving DecidableEq,Inhabited
structure Yw where (N_:Int) (S_:Str) (Yb:Bool) (Yl:Int)
deriving DecidableEq,Inhabited
structure Yu where (S_:Str) (At_:List Int)
deriving DecidableEq,Inhabited
structure Yr where (K_:Int) (At_:List Int)
deriving DecidableEq,Inhabited
structure Yo where (L_:List Yr) (Zv:List Bool)
deriving DecidableEq,Inhabited
structure Zz where (At_:List Int) (Zj Zw:Int) (Ok_:Bool)
deriving DecidableEq,Inhabited
structure Yk where (Xd Yn Yh:Int)
deriving DecidableEq,Inhabited
structure Xs where (Xd Ys:Int) (Yv:Yk) (Yc Yf Ym Yy:Int) (Xy Ya Ye Yd:Str)
deriving DecidableEq,Inhabited
structure Yt where (a0_ a1_ a2_ a3_ a4_ a5_ a6_ a7_ a8_ a9_ Zy Zh Zg Zf Zm Zn Zp Zb Zc Zd:Int)
deriving DecidableEq,Inhabited
def globP:Yt:=Yt.mk 1 10 100 1000 10000 100000 1000000 10000000 100000000 1000000000 10000000000 100000000000 1000000000000 10000000000000 100000000000000 1000000000000000 10000000000000000 100000000000000000 1000000000000000000 10000000000000000000
def ea_(x0:Str)(s2:Int):Option (Step Int (Out Unit Bool)):=(bif(decide (s2<(x0.length:Int)))then(an_ x0 s2).bind λy6=>(bif(((((decide (y6<97))||(decide (y6>122)))&&((decide (y6<48))||(decide (y6>57))))&&(y6 != 45))&&(y6 != 95))then some (.done (.ret (false)))else some (.next (w64 (s2+1))))else some (.done (.fall ())))
def ei_(x0:Str):Option Bool:=Option.bind (bif((x0==[])||(decide ((x0.length:Int)>32)))then some true else(an_ x0 0).bind λy1=>some (decide (y1<97)) ) λ(y2:Bool)=>Option.bind (bif y2 then some true else(an_ x0 0).bind λy3=>some (decide (y3>122)) ) λ(y4:Bool)=>(bif((y4||(x0==[114,117,108,101,115]))||(x0==[115,101,110,100]))then some (false)else(af_ (ea_ x0) BIG 0).bind λwo1=>match wo1 with | .ret r1=>some r1 | .fall _=>some (true))
def bV_(x0:List Str)(x1:Str)(s2:Int):Option (Step Int (Out Unit Int)):=(bif(decide (s2<(x0.length:Int)))then(ag_ x0 s2).bind λy2=>(bif(x1==y2)then some (.done (.ret (s2)))else some (.next (w64 (s2+1))))else some (.done (.fall ())))
def c9_(x0:List Str)(x1:Str):Option Int:=(af_ (bV_ x0 x1) BIG 0).bind λwo1=>match wo1 with | .ret r1=>some r1 | .fall _=>some ((-1))
def aJ_(x0:List Str)(x1:Str):Option Bool:=(c9_ x0 x1).bind λy1=>some ((decide (y1>=0)))
def ej_(x0:List Str)(s2:Int×(List Xh)×(List Xv)):Option (Step (Int×(List Xh)×(List Xv)) (Out ((List Xh)×(List Xv)) (Xj×Int))):=(bif(decide (s2.1<(x0.length:Int)))then(ag_ x0 s2.1).bind λy6=>(ei_ y6).bind λy7=>(bif(!y7)then some (.done (.ret (((Xj.mk [] []),6))))else(aX_ x0 0 s2.1).bind λy8=>(aJ_ y8 y6).bind λy9=>(bif y9 then some (.done (.ret (((Xj.mk [] []),7))))else Option.bind (room 48 s2.2.2 [(Xv.mk y6 [] 0)]) λ(y10:List Xv)=>some (.next ((w64 (s2.1+1)),s2.2.1,y10))))else some (.done (.fall (s2.2.1,s2.2.2))))
def f2_(x0:List Str):Option (Xj×Int):=(bif(decide ((x0.length:Int)>16))then some (((Xj.mk [] []),22))else Option.bind (af_ (ej_ x0) BIG (0,[],[])) λ(wo1:Out ((List Xh)×(List Xv)) (Xj×Int))=>match wo1 with | .ret r1=>some r1 | .fall o1=>(gW_ (λ(x:Xv)=>x.Xy) o1.2).bind λy11=>some (((Xj.mk o1.1 y11),0)))
def fz_(x0:List Xb):Option (List Xb):=(nilB x0 λ(n1:Bool)=>(bif n1 then some ([])else(room 48 ([]:List Xb) x0).bind λy1=>some (y1)))
def b3_(x0:List Xb):Option (List Xb):=room 48 ([]:List Xb) x0
theorem fA_:fz_=b3_:=funext λ_=>md_
def hp_(x0:List Xk):Option (List Xk):=(nilB x0 λ(n1:Bool)=>(bif n1 then some ([])else(room 40 ([]:List Xk) x0).bind λy1=>some (y1)))
def bh_(x0:List Xk):Option (List Xk):=room 40 ([]:List Xk) x0
theorem hq_:hp_=bh_:=funext λ_=>md_
def dE_(x0:Xw):Option Xw:=(bh_ x0.Xn).bind λy1=>some ((Xw.mk x0.Xu x0.Xa x0.Yz x0.Xd y1 x0.Xt))
def ek_(x0:Xj)(s2:Int×(List Xh)×(List Xv)):Option (Step (Int×(List Xh)×(List Xv)) ((List Xh)×(List Xv))):=(bif(decide (s2.1<(x0.Xc.length:Int)))then(ag_ x0.Xc s2.1).bind λy4=>(b3_ y4.Xg).bind λy5=>(room 24 s2.2.1 [(Xh.mk y5)]).bind λy6=>some (.next ((w64 (s2.1+1)),y6,s2.2.2))else some (.done (s2.2.1,s2.2.2)))
def hJ_(y15:Xv)(s8:Int×Str×Int×(List Xw)):Option (Step (Int×Str×Int×(List Xw)) (Str×Int×(List Xw))):=(bif(decide (s8.1<(y15.Xf.length:Int)))then(ag_ y15.Xf s8.1).bind λy19=>(dE_ y19).bind λy20=>(room 104 s8.2.2.2 [y20]).bind λy21=>some (.next ((w64 (s8.1+1)),s8.2.1,s8.2.2.1,y21))else some (.done (s8.2.1,s8.2.2.1,s8.2.2.2)))
def hK_(x0:Xj)(s6:Int×(List Xh)×(List Xv)):Option (Step (Int×(List Xh)×(List Xv)) ((List Xh)×(List Xv))):=(bif(decide (s6.1<(x0.Xq.length:Int)))then(ag_ x0.Xq s6.1).bind λy15=>Option.bind (af_ (hJ_ y15) BIG (0,y15.Xy,y15.Xl,[])) λ(o3:Str×Int×(List Xw))=>(room 48 s6.2.2 [(Xv.mk o3.1 o3.2.2 o3.2.1)]).bind λy22=>some (.next ((w64 (s6.1+1)),s6.2.1,y22))else some (.done (s6.2.1,s6.2.2)))
def cA_(x0:Xj):Option Xj:=Option.bind (af_ (ek_ x0) BIG (0,[],[])) λ(o1:(List Xh)×(List Xv))=>(af_ (hK_ x0) BIG (0,o1.1,o1.2)).bind λo4=>some ((Xj.mk o4.1 o4.2))
def bW_(x0:Xj)(x1:Int):Option Bool:=some (((decide (x1>=1))&&(decide (x1<(w64 (4+(x0.Xq.length:Int)))))))
def dM_(x0:Str)(x1:Str):Option Bool:=Option.bind (bif(decide ((x0.length:Int)>=(x1.length:Int)))then(aX_ x0 (w64 ((x0.length:Int)-(x1.length:Int))) (x0.length:Int)).bind λy1=>some (y1==x1)else some false) λ(y2:Bool)=>some (y2)
def dx_(x0:Str)(x1:Str):Option Str:=(dM_ x0 x1).bind λy1=>(bif y1 then(aX_ x0 0 (w64 ((x0.length:Int)-(x1.length:Int)))).bind λy2=>some (y2)else some (x0))
def strings_TrimSuffix(x0:Str)(x1:Str):Option Str:=(dx_ x0 x1).bind λy1=>some (y1)
def jQ_(_:Str)(_:Int):Option (List Str):=none
def strings_Index(x0:Str)(x1:Str):Option Int:=(stringslite_Index x0 x1).bind λy1=>some (y1)
def l3_(o1:Int)(x0:Str)(x1:Str)(x2:Int)(s2:Str×Int×(List Str)):Option (Step (Str×Int×(List Str)) (Str×Int×(List Str))):=(bif(decide (s2.2.1<(w64 ((minI o1 (w64 ((x0.length:Int)+1)))-1))))then(strings_Index s2.1 x1).bind λy8=>(bif(decide (y8<0))then some (.done (s2.1,s2.2.1,s2.2.2))else(aX_ s2.1 0 (w64 (y8+x2))).bind λy9=>(ag_ s2.2.2 s2.2.1).bind λ_=>(aX_ s2.1 (w64 (y8+(x1.length:Int))) (s2.1.length:Int)).bind λy11=>some (.next (y11,(w64 (s2.2.1+1)),(s2.2.2.set s2.2.1.toNat y9))))else some (.done (s2.1,s2.2.1,s2.2.2)))
def strings_genSplit(x0:Str)(x1:Str)(x2:Int)(x3:Int):Option (List Str):=(bif(x3==0)then some ([])else(bif(x1==[])then(jQ_ x0 x3).bind λy1=>some (y1)else Option.bind ( (bif(decide (x3<0))then(strings_Count x0 x1).bind λy2=>some (w64 (y2+1))else some x3) ) λ(o1:Int)=>(fq_ 16 ([]:Str) (minI o1 (w64 ((x0.length:Int)+1)))).bind λy3=>(af_ (l3_ o1 x0 x1 x2) BIG (x0,0,y3)).bind λo2=>(ag_ o2.2.2 o2.2.1).bind λ_=>(aX_ (o2.2.2.set o2.2.1.toNat o2.1) 0 (w64 (o2.2.1+1))).bind λ_=>some (((o2.2.2.set o2.2.1.toNat o2.1).take (w64 (o2.2.1+1)).toNat))))
def strings_Split(x0:Str)(x1:Str):Option (List Str):=(strings_genSplit x0 x1 0 (-1)).bind λy1=>some (y1)
def nN_(x0:Str):Option (List Str):=(bif(x0==[])then some ([])else(strings_TrimSuffix x0 [10]).bind λy1=>(strings_Split y1 [10]).bind λy2=>some (y2))
def bm_(x0:Str)(x1:Str):Option Bool:=Option.bind (bif(decide ((x0.length:Int)>=(x1.length:Int)))then(aX_ x0 0 (x1.length:Int)).bind λy1=>some (y1==x1)else some false) λ(y2:Bool)=>some (y2)
def strings_HasPrefix(x0:Str)(x1:Str):Option Bool:=(bm_ x0 x1).bind λy1=>some (y1)
def h4_(x0:Xh):Option Bool:=Option.bind (bif(decide ((x0.Xg.length:Int)>0))then(ag_ x0.Xg (w64 ((x0.Xg.length:Int)-1))).bind λy1=>some (y1.Xm==[112,108,117,109,98])else some false) λ(y2:Bool)=>some (y2)
def fe_(x0:Str)(x1:Str):Option (Str×Str×Bool):=(stringslite_Index x0 x1).bind λy1=>(bif(decide (y1>=0))then(aX_ x0 0 y1).bind λy2=>(aX_ x0 (w64 (y1+(x1.length:Int))) (x0.length:Int)).bind λy3=>some ((y2,y3,true))else some ((x0,[],false)))
def strings_Cut(x0:Str)(x1:Str):Option (Str×Str×Bool):=(fe_ x0 x1).bind λy1=>some ((y1.1,y1.2.1,y1.2.2))
def lY_(x0:Str):Option Xb:=(strings_Cut x0 [32]).bind λy1=>(strings_Cut y1.2.1 [32]).bind λy2=>some ((Xb.mk y1.1 y2.1 y2.2.1))
def d5_(x0:Str):Option (List Str):=Option.bind ( (bif(x0==[115,114,99])then some (x0==[115,114,99])else(bif(x0==[100,115,116])then some (x0==[100,115,116])else(bif(x0==[119,100,105,114])then some (x0==[119,100,105,114])else(bif(x0==[116,121,112,101])then some (x0==[116,121,112,101])else some (x0==[100,97,116,97]))))) ) λ(o1:Bool)=>(bif o1 then some ([[105,115],[105,115,110],[109,97,116,99,104,101,115],[115,101,116]])else(bif(x0==[97,116,116,114])then some ([[105,115],[105,115,110],[97,100,100],[100,101,108,101,116,101]])else(bif(x0==[112,108,117,109,98])then some ([[116,111]])else some ([]))))
def strings_Contains(x0:Str)(x1:Str):Option Bool:=(strings_Index x0 x1).bind λy1=>some ((decide (y1>=0)))
def ap_(x0:regex_parser)(x1:Xz):Option (Int×regex_parser):=(room 56 x0.code_ [x1]).bind λy1=>some (((w64 ((y1.length:Int)-1)),(regex_parser.mk x0.s_ x0.at_ x0.groups_ y1 x0.bad_)))
def bi_(x0:regex_parser):Option (Int×Bool×regex_parser):=(bif(decide (x0.at_>=(x0.s_.length:Int)))then some ((0,false,x0))else(an_ x0.s_ x0.at_).bind λy1=>some ((y1,true,x0)))
def aQ_(x0:regex_parser):Option (Bool×regex_parser):=some ((false,(regex_parser.mk x0.s_ x0.at_ x0.groups_ x0.code_ x0.at_)))
def aE_(x0:regex_parser)(x1:Int):Option (Bool×regex_parser):=(bi_ x0).bind λy1=>(bif((!y1.2.1)||(y1.1 != x1))then some ((false,y1.2.2))else some ((true,(regex_parser.mk y1.2.2.s_ (w64 (y1.2.2.at_+1)) y1.2.2.groups_ y1.2.2.code_ y1.2.2.bad_))))
def bE_(f175:regex_parser->Int->Option (Bool×regex_parser))(x0:regex_parser)(x1:Int):Option (Bool×regex_parser):=(bif(decide (x0.groups_>=9))then(aQ_ x0).bind λy1=>some ((y1.1,y1.2))else Option.bind (ap_ (regex_parser.mk x0.s_ (w64 (x0.at_+1)) (w64 (x0.groups_+1)) x0.code_ x0.bad_) (Xz.mk 8 0 [] false (w64 (2*(w64 (x0.groups_+1)))) 0)) λ(y2:Int×regex_parser)=>(f175 y2.2 (w64 (x1+1))).bind λy3=>(bif(!y3.1)then some ((false,y3.2))else(aE_ y3.2 41).bind λy4=>(bif(!y4.1)then(aQ_ y4.2).bind λy5=>some ((y5.1,y5.2))else Option.bind (ap_ y4.2 (Xz.mk 8 0 [] false (w64 ((w64 (2*(w64 (x0.groups_+1))))+1)) 0)) λ(y6:Int×regex_parser)=>some ((true,y6.2)))))
def cq_(x0:regex_parser):Option (Int×Bool×regex_parser):=(bi_ (regex_parser.mk x0.s_ (w64 (x0.at_+1)) x0.groups_ x0.code_ x0.bad_)).bind λy1=>(bif(!y1.2.1)then(aQ_ y1.2.2).bind λy2=>some ((0,y2.1,y2.2))else(bif(y1.1==110)then some ((10,true,(regex_parser.mk y1.2.2.s_ (w64 (y1.2.2.at_+1)) y1.2.2.groups_ y1.2.2.code_ y1.2.2.bad_)))else(bif(y1.1==116)then some ((9,true,(regex_parser.mk y1.2.2.s_ (w64 (y1.2.2.at_+1)) y1.2.2.groups_ y1.2.2.code_ y1.2.2.bad_)))else some ((y1.1,true,(regex_parser.mk y1.2.2.s_ (w64 (y1.2.2.at_+1)) y1.2.2.groups_ y1.2.2.code_ y1.2.2.bad_))))))
def b1_(x0:regex_parser):Option (Int×Bool×regex_parser):=(bi_ x0).bind λy1=>(bif(((!y1.2.1)||(y1.1==93))||(y1.1==45))then(aQ_ y1.2.2).bind λy2=>some ((0,y2.1,y2.2))else(bif(y1.1==92)then(cq_ y1.2.2).bind λy3=>some ((y3.1,y3.2.1,y3.2.2))else some ((y1.1,true,(regex_parser.mk y1.2.2.s_ (w64 (y1.2.2.at_+1)) y1.2.2.groups_ y1.2.2.code_ y1.2.2.bad_)))))
def cg_(s2:Bool×Str×Int×Int×Int×(List Xz)×Xz):Option (Step (Bool×Str×Int×Int×Int×(List Xz)×Xz) (Out (Str×Int×Int×Int×(List Xz)×Xz) (Bool×regex_parser))):=(bif s2.1 then(b1_ (regex_parser.mk s2.2.1 s2.2.2.1 s2.2.2.2.1 s2.2.2.2.2.2.1 s2.2.2.2.2.1)).bind λy7=>(bif(!y7.2.1)then some (.done (.ret ((false,y7.2.2))))else Option.bind ( (aE_ y7.2.2 45).bind λy8=>(bif y8.1 then(b1_ y8.2).bind λy9=>(bif(!y9.2.1)then some (.ret ((false,y9.2.2)))else(bif(decide (y9.1<y7.1))then(aQ_ (regex_parser.mk y9.2.2.s_ (w64 (y9.2.2.at_-1)) y9.2.2.groups_ y9.2.2.code_ y9.2.2.bad_)).bind λy10=>some (.ret ((y10.1,y10.2)))else some (.fall (y9.1,y9.2.2.s_,y9.2.2.at_,y9.2.2.groups_,y9.2.2.bad_,y9.2.2.code_))))else some (.fall (y7.1,y8.2.s_,y8.2.at_,y8.2.groups_,y8.2.bad_,y8.2.code_))) ) λ(wo2:Out (Int×Str×Int×Int×Int×(List Xz)) (Bool×regex_parser))=>match wo2 with | .ret r2=>some (.done (.ret r2)) | .fall o2=>(cat s2.2.2.2.2.2.2.Yx (bytesS [y7.1,o2.1])).bind λy11=>some (.next (false,o2.2.1,o2.2.2.1,o2.2.2.2.1,o2.2.2.2.2.1,o2.2.2.2.2.2,(Xz.mk s2.2.2.2.2.2.2.Op_ s2.2.2.2.2.2.2.C_ y11 s2.2.2.2.2.2.2.Yj s2.2.2.2.2.2.2.X_ s2.2.2.2.2.2.2.Y_))))else(aE_ (regex_parser.mk s2.2.1 s2.2.2.1 s2.2.2.2.1 s2.2.2.2.2.2.1 s2.2.2.2.2.1) 93).bind λy12=>(bif(!y12.1)then(b1_ y12.2).bind λy13=>(bif(!y13.2.1)then some (.done (.ret ((false,y13.2.2))))else Option.bind ( (aE_ y13.2.2 45).bind λy14=>(bif y14.1 then(b1_ y14.2).bind λy15=>(bif(!y15.2.1)then some (.ret ((false,y15.2.2)))else(bif(decide (y15.1<y13.1))then(aQ_ (regex_parser.mk y15.2.2.s_ (w64 (y15.2.2.at_-1)) y15.2.2.groups_ y15.2.2.code_ y15.2.2.bad_)).bind λy16=>some (.ret ((y16.1,y16.2)))else some (.fall (y15.1,y15.2.2.s_,y15.2.2.at_,y15.2.2.groups_,y15.2.2.bad_,y15.2.2.code_))))else some (.fall (y13.1,y14.2.s_,y14.2.at_,y14.2.groups_,y14.2.bad_,y14.2.code_))) ) λ(wo3:Out (Int×Str×Int×Int×Int×(List Xz)) (Bool×regex_parser))=>match wo3 with | .ret r3=>some (.done (.ret r3)) | .fall o3=>(cat s2.2.2.2.2.2.2.Yx (bytesS [y13.1,o3.1])).bind λy17=>some (.next (false,o3.2.1,o3.2.2.1,o3.2.2.2.1,o3.2.2.2.2.1,o3.2.2.2.2.2,(Xz.mk s2.2.2.2.2.2.2.Op_ s2.2.2.2.2.2.2.C_ y17 s2.2.2.2.2.2.2.Yj s2.2.2.2.2.2.2.X_ s2.2.2.2.2.2.2.Y_))))else some (.done (.fall (y12.2.s_,y12.2.at_,y12.2.groups_,y12.2.bad_,y12.2.code_,s2.2.2.2.2.2.2)))))
def dN_(x0:regex_parser):Option (Bool×regex_parser):=(aE_ x0 94).bind λy1=>Option.bind (af_ cg_ BIG (true,y1.2.s_,y1.2.at_,y1.2.groups_,y1.2.bad_,y1.2.code_,(Xz.mk 3 0 [] y1.1 0 0))) λ(wo4:Out (Str×Int×Int×Int×(List Xz)×Xz) (Bool×regex_parser))=>match wo4 with | .ret r4=>some r4 | .fall o4=>(ap_ (regex_parser.mk o4.1 o4.2.1 o4.2.2.1 o4.2.2.2.2.1 o4.2.2.2.1) o4.2.2.2.2.2).bind λy18=>some ((true,y18.2))
def ar_(f175:regex_parser->Int->Option (Bool×regex_parser))(x0:regex_parser)(x1:Int):Option (Bool×regex_parser):=(bi_ x0).bind λy1=>(bif(!y1.2.1)then(aQ_ y1.2.2).bind λy2=>some ((y2.1,y2.2))else Option.bind ( (bif(y1.1==40)then(bE_ f175 y1.2.2 x1).bind λy3=>some (.ret ((y3.1,y3.2)))else Option.bind ( (bif(y1.1==41)then some (y1.1==41)else(bif(y1.1==42)then some (y1.1==42)else(bif(y1.1==43)then some (y1.1==43)else some (y1.1==63)))) ) λ(o1:Bool)=>(bif o1 then(aQ_ y1.2.2).bind λy4=>some (.ret ((y4.1,y4.2)))else(bif(y1.1==46)then Option.bind (ap_ y1.2.2 (Xz.mk 2 0 [] false 0 0)) λ(y5:Int×regex_parser)=>some (.fall (y5.2.s_,y5.2.at_,y5.2.groups_,y5.2.bad_,y5.2.code_))else(bif(y1.1==94)then Option.bind (ap_ y1.2.2 (Xz.mk 4 0 [] false 0 0)) λ(y6:Int×regex_parser)=>some (.fall (y6.2.s_,y6.2.at_,y6.2.groups_,y6.2.bad_,y6.2.code_))else(bif(y1.1==36)then Option.bind (ap_ y1.2.2 (Xz.mk 5 0 [] false 0 0)) λ(y7:Int×regex_parser)=>some (.fall (y7.2.s_,y7.2.at_,y7.2.groups_,y7.2.bad_,y7.2.code_))else(bif(y1.1==91)then(dN_ (regex_parser.mk y1.2.2.s_ (w64 (y1.2.2.at_+1)) y1.2.2.groups_ y1.2.2.code_ y1.2.2.bad_)).bind λy8=>some (.ret ((y8.1,y8.2)))else(bif(y1.1==92)then(cq_ y1.2.2).bind λy9=>(bif(!y9.2.1)then some (.ret ((false,y9.2.2)))else Option.bind (ap_ y9.2.2 (Xz.mk 1 y9.1 [] false 0 0)) λ(y10:Int×regex_parser)=>some (.ret ((true,y10.2))))else Option.bind (ap_ y1.2.2 (Xz.mk 1 y1.1 [] false 0 0)) λ(y11:Int×regex_parser)=>some (.fall (y11.2.s_,y11.2.at_,y11.2.groups_,y11.2.bad_,y11.2.code_))))))))) ) λ(wo2:Out (Str×Int×Int×Int×(List Xz)) (Bool×regex_parser))=>match wo2 with | .ret r2=>some r2 | .fall o2=>some ((true,(regex_parser.mk o2.1 (w64 (o2.2.1+1)) o2.2.2.1 o2.2.2.2.2 o2.2.2.2.1))))
def b4_(s2:Int×(List Xz)):Option (Step (Int×(List Xz)) (List Xz)):=(bif(decide (s2.1<(s2.2.length:Int)))then Option.bind ( (ag_ s2.2 s2.1).bind λy8=>(bif(y8.Op_==6)then(ag_ s2.2 s2.1).bind λy9=>(ag_ s2.2 s2.1).bind λy10=>(ag_ (s2.2.set s2.1.toNat (Xz.mk y10.Op_ y10.C_ y10.Yx y10.Yj (w64 (y9.X_+1)) y10.Y_)) s2.1).bind λy11=>(ag_ (s2.2.set s2.1.toNat (Xz.mk y10.Op_ y10.C_ y10.Yx y10.Yj (w64 (y9.X_+1)) y10.Y_)) s2.1).bind λy12=>some ((s2.2.set s2.1.toNat (Xz.mk y10.Op_ y10.C_ y10.Yx y10.Yj (w64 (y9.X_+1)) y10.Y_)).set s2.1.toNat (Xz.mk y12.Op_ y12.C_ y12.Yx y12.Yj y12.X_ (w64 (y11.Y_+1))))else(bif(y8.Op_==7)then(ag_ s2.2 s2.1).bind λy13=>(ag_ s2.2 s2.1).bind λy14=>some (s2.2.set s2.1.toNat (Xz.mk y14.Op_ y14.C_ y14.Yx y14.Yj (w64 (y13.X_+1)) y14.Y_))else some s2.2)) ) λ(o2:(List Xz))=>some (.next ((w64 (s2.1+1)),o2))else some (.done s2.2))
def b2_(x0:regex_parser)(x1:Int)(x2:Xz):Option regex_parser:=(af_ b4_ BIG (x1,x0.code_)).bind λo3=>((insN (α:=Xz) 56) o3 x1 [x2]).bind λy15=>some (regex_parser.mk x0.s_ x0.at_ x0.groups_ y15 x0.bad_)
def bc_(f175:regex_parser->Int->Option (Bool×regex_parser))(x0:regex_parser)(x1:Int):Option (Bool×regex_parser):=(ar_ f175 x0 x1).bind λy1=>(bif(!y1.1)then some ((false,y1.2))else Option.bind ( (aE_ y1.2 42).bind λy2=>(bif y2.1 then Option.bind (b2_ y2.2 (x0.code_.length:Int) (Xz.mk 6 0 [] false (w64 ((x0.code_.length:Int)+1)) 0)) λ(y3:regex_parser)=>Option.bind (ap_ y3 (Xz.mk 7 0 [] false (x0.code_.length:Int) 0)) λ(y4:Int×regex_parser)=>(ag_ y4.2.code_ (x0.code_.length:Int)).bind λy5=>some (y4.2.s_,y4.2.at_,y4.2.groups_,y4.2.bad_,(y4.2.code_.set (x0.code_.length:Int).toNat (Xz.mk y5.Op_ y5.C_ y5.Yx y5.Yj y5.X_ (y4.2.code_.length:Int))))else(aE_ y2.2 43).bind λy6=>(bif y6.1 then Option.bind (ap_ y6.2 (Xz.mk 6 0 [] false (x0.code_.length:Int) 0)) λ(y7:Int×regex_parser)=>(ag_ y7.2.code_ y7.1).bind λy8=>some (y7.2.s_,y7.2.at_,y7.2.groups_,y7.2.bad_,(y7.2.code_.set y7.1.toNat (Xz.mk y8.Op_ y8.C_ y8.Yx y8.Yj y8.X_ (w64 (y7.1+1)))))else(aE_ y6.2 63).bind λy9=>(bif y9.1 then Option.bind (b2_ y9.2 (x0.code_.length:Int) (Xz.mk 6 0 [] false (w64 ((x0.code_.length:Int)+1)) 0)) λ(y10:regex_parser)=>(ag_ y10.code_ (x0.code_.length:Int)).bind λy11=>some (y10.s_,y10.at_,y10.groups_,y10.bad_,(y10.code_.set (x0.code_.length:Int).toNat (Xz.mk y11.Op_ y11.C_ y11.Yx y11.Yj y11.X_ (y10.code_.length:Int))))else some (y9.2.s_,y9.2.at_,y9.2.groups_,y9.2.bad_,y9.2.code_)))) ) λ(o1:Str×Int×Int×Int×(List Xz))=>some ((true,(regex_parser.mk o1.1 o1.2.1 o1.2.2.1 o1.2.2.2.2 o1.2.2.2.1))))
def bd_(x1:Int)(f175:regex_parser->Int->Option (Bool×regex_parser))(s2:Str×Int×Int×Int×(List Xz)):Option (Step (Str×Int×Int×Int×(List Xz)) (Out Unit (Bool×regex_parser))):=(bi_ (regex_parser.mk s2.1 s2.2.1 s2.2.2.1 s2.2.2.2.2 s2.2.2.2.1)).bind λy3=>(bif(((!y3.2.1)||(y3.1==124))||((y3.1==41)&&(decide (x1>0))))then some (.done (.ret ((true,y3.2.2))))else(bc_ f175 y3.2.2 x1).bind λy4=>(bif(!y4.1)then some (.done (.ret ((false,y4.2))))else some (.next (y4.2.s_,y4.2.at_,y4.2.groups_,y4.2.bad_,y4.2.code_))))
def ch_(f175:regex_parser->Int->Option (Bool×regex_parser))(x0:regex_parser)(x1:Int):Option (Bool×regex_parser):=(af_ (bd_ x1 f175) BIG (x0.s_,x0.at_,x0.groups_,x0.bad_,x0.code_)).bind λwo1=>match wo1 with | .ret r1=>some r1 | .fall _=>none
def bX_(rec0:regex_parser->Int->Option (Bool×regex_parser))(x0:regex_parser)(x1:Int):Option (Bool×regex_parser):=(ch_ rec0 x0 x1).bind λy1=>(bif(!y1.1)then some ((false,y1.2))else(aE_ y1.2 124).bind λy2=>(bif(!y2.1)then some ((true,y2.2))else Option.bind (b2_ y2.2 (x0.code_.length:Int) (Xz.mk 6 0 [] false (w64 ((x0.code_.length:Int)+1)) 0)) λ(y3:regex_parser)=>Option.bind (ap_ y3 (Xz.mk 7 0 [] false 0 0)) λ(y4:Int×regex_parser)=>(ag_ y4.2.code_ (x0.code_.length:Int)).bind λy5=>(rec0 (regex_parser.mk y4.2.s_ y4.2.at_ y4.2.groups_ (y4.2.code_.set (x0.code_.length:Int).toNat (Xz.mk y5.Op_ y5.C_ y5.Yx y5.Yj y5.X_ (w64 (y4.1+1)))) y4.2.bad_) x1).bind λy6=>(bif(!y6.1)then some ((false,y6.2))else(ag_ y6.2.code_ y4.1).bind λy7=>some ((true,(regex_parser.mk y6.2.s_ y6.2.at_ y6.2.groups_ (y6.2.code_.set y4.1.toNat (Xz.mk y7.Op_ y7.C_ y7.Yx y7.Yj (y6.2.code_.length:Int) y7.Y_)) y6.2.bad_))))))
def ah_:Nat->regex_parser->Int->Option (Bool×regex_parser) | 0=>λ_ _=>none|n+1=>bX_ (ah_ n)
def bl_(x0:Str):Option (Yq×Int×Int):=(bif(decide ((x0.length:Int)>256))then some (((Yq.mk [] 0),0,4))else Option.bind (ap_ (regex_parser.mk x0 0 0 [] 0) (Xz.mk 8 0 [] false 0 0)) λ(y1:Int×regex_parser)=>(ah_ BIG y1.2 0).bind λy2=>(bif(!y2.1)then some (((Yq.mk [] 0),y2.2.bad_,49))else Option.bind (ap_ y2.2 (Xz.mk 8 0 [] false 1 0)) λ(y3:Int×regex_parser)=>Option.bind (ap_ y3.2 (Xz.mk 9 0 [] false 0 0)) λ(y4:Int×regex_parser)=>some (((Yq.mk y4.2.code_ (w64 (y4.2.groups_+1))),0,0))))
def f3_(x0:Xb):Option Bool:=Option.bind ( (both ( (both ( (d5_ x0.Xm).bind λy7=>(aJ_ y7 x0.Xr).bind λy8=>(bif(!y8)then some true else(bif(x0.Xe==[])then some true else(bif(decide ((x0.Xe.length:Int)>1024))then some true else(strings_Contains x0.Xe [10]).bind λy9=>some y9)))) ( (d5_ x0.Xm).bind λy4=>(aJ_ y4 x0.Xr).bind λy5=>(bif(!y5)then some true else(bif(x0.Xe==[])then some true else(bif(decide ((x0.Xe.length:Int)>1024))then some true else(strings_Contains x0.Xe [10]).bind λy6=>some y6)))))) ( (d5_ x0.Xm).bind λy1=>(aJ_ y1 x0.Xr).bind λy2=>(bif(!y2)then some true else(bif(x0.Xe==[])then some true else(bif(decide ((x0.Xe.length:Int)>1024))then some true else(strings_Contains x0.Xe [10]).bind λy3=>some y3))))) ) λ(o1:Bool)=>(bif o1 then some (false)else(bif(!(x0.Xr==[109,97,116,99,104,101,115]))then some (true)else(bl_ x0.Xe).bind λy10=>some ((y10.2.2==0))))
def qn_(y1:(List Str))(s2:Int×(List Xh)×(List Xb)):Option (Step (Int×(List Xh)×(List Xb)) (Out ((List Xh)×(List Xb)) ((List Xh)×Int×Int))):=(bif(decide (s2.1<(y1.length:Int)))then Option.bind ( (ag_ y1 s2.1).bind λy11=>(strings_HasPrefix y11 [35]).bind λy12=>(bif y12 then some (.fall (s2.2.1,s2.2.2))else(bif(y11==[])then(bif(decide ((s2.2.2.length:Int)>0))then(h4_ (Xh.mk s2.2.2)).bind λy13=>(bif(!y13)then some (.ret (([],(w64 (s2.1+1)),50)))else(room 24 s2.2.1 [(Xh.mk s2.2.2)]).bind λy14=>some (.fall (y14,[])))else some (.fall (s2.2.1,s2.2.2)))else(bif(((s2.2.2.length:Int)==0)&&(decide ((s2.2.1.length:Int)>=64)))then some (.ret (([],(w64 (s2.1+1)),22)))else(lY_ y11).bind λy15=>(f3_ y15).bind λy16=>Option.bind (bif(!y16)then some true else(h4_ (Xh.mk s2.2.2)).bind λy17=>some y17 ) λ(y18:Bool)=>(bif(y18||(decide ((s2.2.2.length:Int)>=32)))then some (.ret (([],(w64 (s2.1+1)),50)))else(room 48 s2.2.2 [y15]).bind λy19=>some (.fall (s2.2.1,y19)))))) ) λ(wo2:Out ((List Xh)×(List Xb)) ((List Xh)×Int×Int))=>match wo2 with | .ret r2=>some (.done (.ret r2)) | .fall o2=>some (.next ((w64 (s2.1+1)),o2.1,o2.2))else some (.done (.fall (s2.2.1,s2.2.2))))
def nO_(x0:Str):Option ((List Xh)×Int×Int):=(nN_ x0).bind λy1=>Option.bind (af_ (qn_ y1) BIG (0,[],[])) λ(wo3:Out ((List Xh)×(List Xb)) ((List Xh)×Int×Int))=>match wo3 with | .ret r3=>some r3 | .fall o3=>Option.bind ( (bif(decide ((o3.2.length:Int)>0))then(h4_ (Xh.mk o3.2)).bind λy20=>(bif(!y20)then some (.ret (([],(w64 ((y1.length:Int)+1)),50)))else(room 24 o3.1 [(Xh.mk o3.2)]).bind λy21=>some (.fall y21))else some (.fall o3.1)) ) λ(wo4:Out (List Xh) ((List Xh)×Int×Int))=>match wo4 with | .ret r4=>some r4 | .fall o4=>some ((o4,0,0))
def strings_SplitN(x0:Str)(x1:Str)(x2:Int):Option (List Str):=(strings_genSplit x0 x1 0 x2).bind λy1=>some (y1)
def lq_(x0:Int):Option Bool:=some (((x0==32)||(x0==9)))
def strings_IndexByte(x0:Str)(x1:Int):Option Int:=(stringslite_IndexByte x0 x1).bind λy1=>some (y1)
def gk_(x0:Str)(x1:Str)(s2:Int):Option (Step Int (Out Unit Int)):=(bif(decide (s2<(x0.length:Int)))then(an_ x0 s2).bind λy3=>(strings_IndexByte x1 y3).bind λy4=>(bif(decide (y4>=0))then some (.done (.ret (s2)))else some (.next (w64 (s2+1))))else some (.done (.fall ())))
def ey_(x0:Str)(x1:Str):Option Int:=(af_ (gk_ x0 x1) BIG 0).bind λwo1=>match wo1 with | .ret r1=>some r1 | .fall _=>some ((x0.length:Int))
def qo_(x0:Str)(s2:Int×(List Int)):Option (Step (Int×(List Int)) (Out Unit (Str×Int×Bool))):=(bif(decide (s2.1<(x0.length:Int)))then Option.bind ( (an_ x0 s2.1).bind λy7=>(bif(y7 != 39)then(an_ x0 s2.1).bind λy8=>(room 1 s2.2 [y8]).bind λy9=>some (.fall (s2.1,y9))else Option.bind (bif((w64 (s2.1+1))==(x0.length:Int))then some true else(an_ x0 (w64 (s2.1+1))).bind λy10=>some (y10 != 39) ) λ(y11:Bool)=>(bif y11 then some (.ret (((bytesS s2.2),(w64 (s2.1+1)),true)))else(room 1 s2.2 [39]).bind λy12=>some (.fall ((w64 (s2.1+1)),y12)))) ) λ(wo2:Out (Int×(List Int)) (Str×Int×Bool))=>match wo2 with | .ret r2=>some (.done (.ret r2)) | .fall o2=>some (.next ((w64 (o2.1+1)),o2.2))else some (.done (.fall ())))
def ke_(x0:Str):Option (Str×Int×Bool):=(af_ (qo_ x0) BIG (0,[])).bind λwo3=>match wo3 with | .ret r3=>some r3 | .fall _=>some (([],0,false))
def attr_one(x0:Str):Option (Xk×Int×Int):=(ey_ x0 [32,9,61,63,39]).bind λy1=>(aX_ x0 0 y1).bind λy2=>(aX_ x0 y1 (x0.length:Int)).bind λy3=>Option.bind ( (strings_HasPrefix y3 [63]).bind λy4=>(bif y4 then some (.fall ((w64 (y1+1)),(Xk.mk y2 [] true)))else(strings_HasPrefix y3 [61,39]).bind λy5=>(bif y5 then(aX_ y3 2 (y3.length:Int)).bind λy6=>(ke_ y6).bind λy7=>(bif(!y7.2.2)then some (.ret (((Xk.mk [] [] false),0,48)))else some (.fall ((w64 (y1+(w64 (2+y7.2.1)))),(Xk.mk y2 y7.1 false))))else(strings_HasPrefix y3 [61]).bind λy8=>(bif y8 then(ey_ y3 [32,9]).bind λy9=>(aX_ y3 1 y9).bind λy10=>(strings_Contains y10 [39]).bind λy11=>(bif y11 then some (.ret (((Xk.mk [] [] false),0,2)))else some (.fall ((w64 (y1+y9)),(Xk.mk y2 y10 false))))else some (.ret (((Xk.mk [] [] false),0,2)))))) ) λ(wo1:Out (Int×Xk) (Xk×Int×Int))=>match wo1 with | .ret r1=>some r1 | .fall o1=>Option.bind (bif(decide (o1.1<(x0.length:Int)))then(an_ x0 o1.1).bind λy12=>(lq_ y12).bind λy13=>some (!y13)else some false) λ(y14:Bool)=>(bif y14 then some (((Xk.mk [] [] false),0,2))else some ((o1.2,o1.1,0)))
def cl_(x0:Str)(x1:Str):Option Str:=(bm_ x0 x1).bind λy1=>(bif y1 then(aX_ x0 (x1.length:Int) (x0.length:Int)).bind λy2=>some (y2)else some (x0))
def strings_TrimPrefix(x0:Str)(x1:Str):Option Str:=(cl_ x0 x1).bind λy1=>some (y1)
def fB_(y1:Str)(s2:Int):Option (Step Int (Out Unit Bool)):=(bif(decide (s2<(y1.length:Int)))then(an_ y1 s2).bind λy7=>(bif(((((decide (y7<97))||(decide (y7>122)))&&((decide (y7<48))||(decide (y7>57))))&&(y7 != 45))&&(y7 != 95))then some (.done (.ret (false)))else some (.next (w64 (s2+1))))else some (.done (.fall ())))
def h5_(x0:Str):Option Bool:=(strings_TrimPrefix x0 [33]).bind λy1=>Option.bind (bif((y1==[])||(decide ((y1.length:Int)>32)))then some true else(an_ y1 0).bind λy2=>some (decide (y2<97)) ) λ(y3:Bool)=>Option.bind (bif y3 then some true else(an_ y1 0).bind λy4=>some (decide (y4>122)) ) λ(y5:Bool)=>(bif y5 then some (false)else(af_ (fB_ y1) BIG 0).bind λwo1=>match wo1 with | .ret r1=>some r1 | .fall _=>some (true))
def bt_(x0:List Xk)(x1:Xk->Option Bool)(s2:Int):Option (Step Int (Out Unit Int)):=(bif(decide (s2<(x0.length:Int)))then(ag_ x0 s2).bind λy3=>(x1 y3).bind λy4=>(bif y4 then some (.done (.ret (s2)))else some (.next (w64 (s2+1))))else some (.done (.fall ())))
def aT_(x0:List Xk)(x1:Xk->Option Bool):Option Int:=(af_ (bt_ x0 x1) BIG 0).bind λwo1=>match wo1 with | .ret r1=>some r1 | .fall _=>some ((-1))
def ba_(x0:List Xk)(x1:Xk->Option Bool):Option Bool:=(aT_ x0 x1).bind λy1=>some ((decide (y1>=0)))
def jw_(x0:Xk)(x1:Xk):Option Bool:=some ((x0.Xy==x1.Xy))
def g9_(x0:List Xk)(x1:Xk):Option Int:=(bif(decide ((x0.length:Int)>=32))then some (22)else(h5_ x1.Xy).bind λy1=>(bif(!y1)then some (6)else(bif(x1.Xo&&(!(x1.Xp==[])))then some (2)else(ey_ x1.Xp [0,10,13]).bind λy2=>(bif(decide (y2<(x1.Xp.length:Int)))then some (2)else(bif(decide ((x1.Xp.length:Int)>1024))then some (4)else(ba_ x0 (λ(u1:Xk)=>Option.bind (jw_ u1 x1) λ(v1:Bool)=>some v1)).bind λy3=>(bif y3 then some (7)else some (0)))))))
def ru_(x0:Str)(s2:Int×(List Xk)):Option (Step (Int×(List Xk)) (Out (List Xk) ((List Xk)×Int×Int))):=(bif(decide (s2.1<(x0.length:Int)))then(an_ x0 s2.1).bind λy7=>(lq_ y7).bind λy8=>(bif y8 then some (.next ((w64 (s2.1+1)),s2.2))else(aX_ x0 s2.1 (x0.length:Int)).bind λy9=>(attr_one y9).bind λy10=>Option.bind ( (bif(y10.2.2==0)then(g9_ s2.2 y10.1).bind λy11=>some y11 else some y10.2.2) ) λ(o2:Int)=>(bif(o2 != 0)then some (.done (.ret (([],s2.1,o2))))else(room 40 s2.2 [y10.1]).bind λy12=>some (.next ((w64 (s2.1+y10.2.1)),y12))))else some (.done (.fall s2.2)))
def lr_(x0:Str):Option ((List Xk)×Int×Int):=(af_ (ru_ x0) BIG (0,[])).bind λwo3=>match wo3 with | .ret r3=>some r3 | .fall o3=>some ((o3,0,0))
def mG_(x0:Int):Option Bool:=some ((((x0==8)||(x0==10))||(x0==16)))
def num_digit(x0:Int):Option Int:=(bif((decide (x0>=48))&&(decide (x0<=57)))then some ((w64 ((IntKind.u8.wrap (x0-48)))))else(bif((decide (x0>=97))&&(decide (x0<=102)))then some ((w64 ((w64 ((IntKind.u8.wrap (x0-97))))+10)))else some (16)))
def num_Parse_L1(x0:Str)(x1:Int)(x2:Int)(s2:Int×Int):Option (Step (Int×Int) (Out Int (Int×Int))):=(bif(decide (s2.2<(x0.length:Int)))then(an_ x0 s2.2).bind λy9=>(num_digit y9).bind λy10=>Option.bind (bif(decide (y10>=x1))then some true else(quoI .i64 (w64 (x2-y10)) x1).bind λy11=>some (decide (s2.1>y11)) ) λ(y12:Bool)=>(bif(y12||(decide (y10>x2)))then some (.done (.ret ((0,5))))else some (.next ((w64 ((w64 (s2.1*x1))+y10)),(w64 (s2.2+1)))))else some (.done (.fall s2.1)))
def num_Parse(x0:Str)(x1:Int)(x2:Int):Option (Int×Int):=(mG_ x1).bind λy1=>(bif((!y1)||(decide (x2<0)))then some ((0,1))else Option.bind (bif(x0==[])then some true else Option.bind (bif(decide ((x0.length:Int)>1))then(an_ x0 0).bind λy2=>some (y2==48)else some false) λ(y3:Bool)=>some y3 ) λ(y4:Bool)=>(bif y4 then some ((0,5))else(af_ (num_Parse_L1 x0 x1 x2) BIG (0,0)).bind λwo1=>match wo1 with | .ret r1=>some r1 | .fall o1=>some ((o1,0))))
def gl_(x0:List Xk)(s2:Int):Option (Step Int (Out Unit Int)):=(bif(decide (s2<(x0.length:Int)))then(ag_ x0 s2).bind λy4=>(aX_ x0 0 s2).bind λy5=>(g9_ y5 y4).bind λy6=>(bif(y6 != 0)then some (.done (.ret (y6)))else some (.next (w64 (s2+1))))else some (.done (.fall ())))
def ha_(x0:List Xk):Option Int:=(af_ (gl_ x0) BIG 0).bind λwo1=>match wo1 with | .ret r1=>some r1 | .fall _=>some (0)
def hb_(x0:Xk):Option Bool:=some (x0.Xo)
def gm_(x0:List Xk):Option Bool:=(ba_ x0 (λ(u1:Xk)=>Option.bind (hb_ u1) λ(v1:Bool)=>some v1)).bind λy1=>some (y1)
def fC_(x0:Xw)(s2:Int×(List Str)):Option (Step (Int×(List Str)) (Out Unit Int)):=(bif(decide (s2.1<([x0.Xu,x0.Xa,x0.Yz,x0.Xd].length:Int)))then(ag_ s2.2 s2.1).bind λy3=>(bif(decide ((y3.length:Int)>1024))then some (.done (.ret (4)))else(strings_Contains y3 [10]).bind λy4=>(bif y4 then some (.done (.ret (2)))else some (.next ((w64 (s2.1+1)),s2.2))))else some (.done (.fall ())))
def d6_(x0:Xw):Option Int:=(af_ (fC_ x0) BIG (0,[x0.Xu,x0.Xa,x0.Yz,x0.Xd])).bind λwo1=>match wo1 with | .ret r1=>some r1 | .fall _=>(ha_ x0.Xn).bind λy5=>(bif(y5 != 0)then some (y5)else(gm_ x0.Xn).bind λy6=>(bif y6 then some (2)else(bif(decide ((x0.Xt.length:Int)>65536))then some (4)else some (0))))
def nP_(x0:Str):Option (Xw×Int):=(strings_SplitN x0 [10] 7).bind λy1=>(bif(decide ((y1.length:Int)<=6))then some (((Xw.mk [] [] [] [] [] []),2))else(ag_ y1 4).bind λy2=>(lr_ y2).bind λy3=>(bif(y3.2.2 != 0)then some (((Xw.mk [] [] [] [] [] []),y3.2.2))else(ag_ y1 5).bind λy4=>(num_Parse y4 10 65536).bind λy5=>(bif(y5.2 != 0)then some (((Xw.mk [] [] [] [] [] []),y5.2))else(ag_ y1 6).bind λy6=>(bif(decide ((y6.length:Int)<y5.1))then some (((Xw.mk [] [] [] [] [] []),3))else(ag_ y1 6).bind λy7=>(bif(decide ((y7.length:Int)>y5.1))then some (((Xw.mk [] [] [] [] [] []),2))else(ag_ y1 0).bind λy8=>(ag_ y1 1).bind λy9=>(ag_ y1 2).bind λy10=>(ag_ y1 3).bind λy11=>(ag_ y1 6).bind λy12=>(d6_ (Xw.mk y8 y9 y10 y11 y3.1 y12)).bind λy13=>(bif(y13 != 0)then some (((Xw.mk [] [] [] [] [] []),y13))else some (((Xw.mk y8 y9 y10 y11 y3.1 y12),0))))))))
def utf8_DecodeRuneInString(_:Str):Option (Int×Int):=none
def cF_(o1:Int)(x0:Str)(x1:Str)(x2:Str)(s2:Int×Int×(List Int)):Option (Step (Int×Int×(List Int)) (Int×(List Int))):=(bif(decide (s2.2.1<o1))then(aX_ x0 s2.1 (x0.length:Int)).bind λy8=>(strings_Index y8 x1).bind λy9=>(aX_ x0 s2.1 (w64 (s2.1+y9))).bind λy10=>(room 1 s2.2.2 (aG_ y10)).bind λy11=>(room 1 y11 (aG_ x2)).bind λy12=>some (.next ((w64 ((w64 (s2.1+y9))+(x1.length:Int))),(w64 (s2.2.1+1)),y12))else some (.done (s2.1,s2.2.2)))
def mH_(o1:Int)(x0:Str)(x2:Str)(s4:Int×Int×(List Int)):Option (Step (Int×Int×(List Int)) (Int×(List Int))):=(bif(decide (s4.2.1<(w64 (o1-1))))then(aX_ x0 s4.1 (x0.length:Int)).bind λy19=>(utf8_DecodeRuneInString y19).bind λy20=>(aX_ x0 s4.1 (w64 (s4.1+y20.2))).bind λy21=>(room 1 s4.2.2 (aG_ y21)).bind λy22=>(room 1 y22 (aG_ x2)).bind λy23=>some (.next ((w64 (s4.1+y20.2)),(w64 (s4.2.1+1)),y23))else some (.done (s4.1,s4.2.2)))
def strings_Replace(x0:Str)(x1:Str)(x2:Str)(x3:Int):Option Str:=(bif((x1==x2)||(x3==0))then some (x0)else Option.bind ( (strings_Count x0 x1).bind λy1=>(bif(y1==0)then some (.ret (x0))else(bif((decide (x3<0))||(decide (y1<x3)))then some (.fall y1)else some (.fall x3))) ) λ(wo1:Out Int Str)=>match wo1 with | .ret r1=>some r1 | .fall o1=>(growB ([]:List Int) (w64 ((x0.length:Int)+(w64 (o1*(w64 ((x2.length:Int)-(x1.length:Int)))))))).bind λy2=>Option.bind ( (bif(decide ((x1.length:Int)>0))then(af_ (cF_ o1 x0 x1 x2) BIG (0,0,y2)).bind λo2=>some (o2.1,o2.2)else(room 1 y2 (aG_ x2)).bind λy13=>(af_ (mH_ o1 x0 x2) BIG (0,0,y13)).bind λo3=>some (o3.1,o3.2)) ) λ(o4:Int×(List Int))=>(aX_ x0 o4.1 (x0.length:Int)).bind λy24=>(room 1 o4.2 (aG_ y24)).bind λy25=>some ((bytesS y25)))
def strings_ReplaceAll(x0:Str)(x1:Str)(x2:Str):Option Str:=(strings_Replace x0 x1 x2 (-1)).bind λy1=>some (y1)
def iV_(x0:Str):Option Str:=Option.bind (bif(!(x0==[]))then(ey_ x0 [32,9,39]).bind λy1=>some (y1==(x0.length:Int))else some false) λ(y2:Bool)=>(bif y2 then some (x0)else(strings_ReplaceAll x0 [39] [39,39]).bind λy3=>(cat [39] y3).bind λy4=>(cat y4 [39]).bind λy5=>some (y5))
def dO_(x0:List Str)(s2:Int×Int):Option (Step (Int×Int) Int):=(bif(decide (s2.2<(x0.length:Int)))then(ag_ x0 s2.2).bind λy4=>Option.bind ( (bif(decide ((y4.length:Int)>(w64 (9223372036854775807-s2.1))))then none else some ()) ) λ(_:Unit)=>some (.next ((w64 (s2.1+(y4.length:Int))),(w64 (s2.2+1))))else some (.done s2.1))
def dP_(y8:List Str)(x1:Str)(s4:Int×(List Int)):Option (Step (Int×(List Int)) (List Int)):=(bif(decide (s4.1<(y8.length:Int)))then(ag_ y8 s4.1).bind λy12=>(room 1 s4.2 (aG_ x1)).bind λy13=>(room 1 y13 (aG_ y12)).bind λy14=>some (.next ((w64 (s4.1+1)),y14))else some (.done s4.2))
def strings_Join(x0:List Str)(x1:Str):Option Str:=(bif((x0.length:Int)==0)then some ([])else(bif((x0.length:Int)==1)then(ag_ x0 0).bind λy1=>some (y1)else Option.bind ( (bif(decide ((x1.length:Int)>0))then Option.bind ( (quoI .i64 9223372036854775807 (w64 ((x0.length:Int)-1))).bind λy2=>(bif(decide ((x1.length:Int)>=y2))then none else some ()) ) λ(_:Unit)=>some (w64 (0+(w64 ((x1.length:Int)*(w64 ((x0.length:Int)-1))))))else some 0) ) λ(o2:Int)=>(af_ (dO_ x0) BIG (o2,0)).bind λo5=>(growB ([]:List Int) o5).bind λy5=>(ag_ x0 0).bind λy6=>(room 1 y5 (aG_ y6)).bind λy7=>(aX_ x0 1 (x0.length:Int)).bind λy8=>(af_ (dP_ y8 x1) BIG (0,y7)).bind λo6=>some ((bytesS o6))))
def eI_(x0:List Xk)(s2:Int×(List Str)):Option (Step (Int×(List Str)) (List Str)):=(bif(decide (s2.1<(x0.length:Int)))then Option.bind ( (ag_ x0 s2.1).bind λy10=>(bif y10.Xo then(cat y10.Xy [63]).bind λy11=>(room 16 s2.2 [y11]).bind λy12=>some y12 else(cat y10.Xy [61]).bind λy13=>(iV_ y10.Xp).bind λy14=>(cat y13 y14).bind λy15=>(room 16 s2.2 [y15]).bind λy16=>some y16) ) λ(o2:(List Str))=>some (.next ((w64 (s2.1+1)),o2))else some (.done s2.2))
def iW_(x0:List Xk):Option (Str×Int):=(ha_ x0).bind λy1=>(bif(y1 != 0)then some (([],y1))else(fq_ 16 ([]:Str) (x0.length:Int)).bind λ_=>(af_ (eI_ x0) BIG (0,[])).bind λo3=>(strings_Join o3 [32]).bind λy17=>some ((y17,0)))
def ls_(x0:Int)(x1:Int):Option Str:=(mG_ x1).bind λy1=>(bif(!y1)then some ([])else(c0_ x0 x1).bind λy2=>some (y2))
def di_(x0:Xw):Option (Str×Int):=(d6_ x0).bind λy1=>(bif(y1 != 0)then some (([],y1))else(iW_ x0.Xn).bind λy2=>(bif(y2.2 != 0)then some (([],y2.2))else(ls_ (x0.Xt.length:Int) 10).bind λy3=>(strings_Join [x0.Xu,x0.Xa,x0.Yz,x0.Xd,y2.1,y3,x0.Xt] [10]).bind λy4=>some ((y4,0))))
def hL_(x0:Xh)(s2:Int):Option (Step Int (Out Unit Bool)):=(bif(decide (s2<(x0.Xg.length:Int)))then(ag_ x0.Xg s2).bind λy3=>(f3_ y3).bind λy4=>(bif((!y4)||(!((y3.Xm==[112,108,117,109,98])==(s2==(w64 ((x0.Xg.length:Int)-1))))))then some (.done (.ret (false)))else some (.next (w64 (s2+1))))else some (.done (.fall ())))
def f4_(x0:Xh):Option Bool:=(bif((decide ((x0.Xg.length:Int)<1))||(decide ((x0.Xg.length:Int)>32)))then some (false)else(af_ (hL_ x0) BIG 0).bind λwo1=>match wo1 with | .ret r1=>some r1 | .fall _=>some (true))
def iA_(x0:plumb_state)(x1:Int):Option (Str×plumb_state):=Option.bind (bif(decide ((w64 ((w64 (2*x1))+1))>=(x0.caps_.length:Int)))then some true else(ag_ x0.caps_ (w64 (2*x1))).bind λy1=>some (decide (y1<0)) ) λ(y2:Bool)=>Option.bind (bif y2 then some true else(ag_ x0.caps_ (w64 ((w64 (2*x1))+1))).bind λy3=>(ag_ x0.caps_ (w64 (2*x1))).bind λy4=>some (decide (y3<y4)) ) λ(y5:Bool)=>(bif y5 then some (([],x0))else(ag_ x0.caps_ (w64 (2*x1))).bind λy6=>(ag_ x0.caps_ (w64 ((w64 (2*x1))+1))).bind λy7=>(aX_ x0.text_ y6 y7).bind λy8=>some ((y8,x0)))
def lt_(x1:Str)(x0:plumb_state)(s2:Int×(List Str)):Option (Step (Int×(List Str)) (Out Unit (Str×Int×plumb_state))):=(bif(decide (s2.1<([[115,114,99],[100,115,116],[119,100,105,114],[116,121,112,101],[100,97,116,97]].length:Int)))then(ag_ s2.2 s2.1).bind λy3=>(strings_HasPrefix x1 y3).bind λy4=>(bif y4 then(bif(y3==[115,114,99])then some (.done (.ret ((x0.m_.Xu,(y3.length:Int),x0))))else(bif(y3==[100,115,116])then some (.done (.ret ((x0.m_.Xa,(y3.length:Int),x0))))else(bif(y3==[119,100,105,114])then some (.done (.ret ((x0.m_.Yz,(y3.length:Int),x0))))else(bif(y3==[116,121,112,101])then some (.done (.ret ((x0.m_.Xd,(y3.length:Int),x0))))else some (.done (.ret ((x0.m_.Xt,(y3.length:Int),x0))))))))else some (.next ((w64 (s2.1+1)),s2.2)))else some (.done (.fall ())))
def fU_(x0:plumb_state)(x1:Str):Option (Str×Int×plumb_state):=(af_ (lt_ x1 x0) BIG (0,[[115,114,99],[100,115,116],[119,100,105,114],[116,121,112,101],[100,97,116,97]])).bind λwo1=>match wo1 with | .ret r1=>some r1 | .fall _=>some (([36],0,x0))
def kD_(s2:Str×plumb_state×(List Int)):Option (Step (Str×plumb_state×(List Int)) ((List Int)×plumb_state)):=(bif(!(s2.1==[]))then(strings_Cut s2.1 [36]).bind λy17=>(room 1 s2.2.2 (aG_ y17.1)).bind λy18=>(bif(!y17.2.2)then some (.done (y18,s2.2.1))else(strings_HasPrefix y17.2.1 [36]).bind λy19=>(bif y19 then(room 1 y18 (aG_ [36])).bind λy20=>(aX_ y17.2.1 1 (y17.2.1.length:Int)).bind λy21=>some (.next (y21,s2.2.1,y20))else Option.bind (bif(!(y17.2.1==[]))then(an_ y17.2.1 0).bind λy22=>some (decide (y22>=48))else some false) λ(y23:Bool)=>Option.bind (bif y23 then(an_ y17.2.1 0).bind λy24=>some (decide (y24<=57))else some false) λ(y25:Bool)=>(bif y25 then(an_ y17.2.1 0).bind λy26=>(iA_ s2.2.1 (w64 ((IntKind.u8.wrap (y26-48))))).bind λy27=>(room 1 y18 (aG_ y27.1)).bind λy28=>(aX_ y17.2.1 1 (y17.2.1.length:Int)).bind λy29=>some (.next (y29,y27.2,y28))else(fU_ s2.2.1 y17.2.1).bind λy30=>(room 1 y18 (aG_ y30.1)).bind λy31=>(aX_ y17.2.1 y30.2.1 (y17.2.1.length:Int)).bind λy32=>some (.next (y32,y30.2.2,y31)))))else some (.done (s2.2.2,s2.2.1)))
def ff_(x0:plumb_state)(x1:Str):Option (Str×plumb_state):=Option.bind (af_ kD_ BIG (x1,x0,[])) λ(o1:(List Int)×plumb_state)=>some (((bytesS o1.1),o1.2))
def fD_(x1:Xk->Option Bool)(s2:Int×Int×(List Xk)):Option (Step (Int×Int×(List Xk)) (Int×(List Xk))):=(bif(decide (s2.2.1<(s2.2.2.length:Int)))then Option.bind ( (ag_ s2.2.2 s2.2.1).bind λy5=>(x1 y5).bind λy6=>(bif(!y6)then(ag_ s2.2.2 s2.1).bind λ_=>some ((w64 (s2.1+1)),(s2.2.2.set s2.1.toNat y5))else some (s2.1,s2.2.2)) ) λ(o2:Int×(List Xk))=>some (.next (o2.1,(w64 (s2.2.1+1)),o2.2))else some (.done (s2.1,s2.2.2)))
def dq_(x0:List Xk)(x1:Xk->Option Bool):Option (List Xk):=(aT_ x0 x1).bind λy1=>(bif(y1==(-1))then some (x0)else(af_ (fD_ x1) BIG (y1,(w64 (y1+1)),x0)).bind λo3=>(aX_ o3.2 o3.1 (o3.2.length:Int)).bind λ_=>Option.bind (aX_ (eQ_ o3.2 o3.1.toNat (Xk.mk [] [] false)) 0 o3.1) λ(_:List Xk)=>some (((eQ_ o3.2 o3.1.toNat (Xk.mk [] [] false)).take o3.1.toNat)))
def kE_(x0:Xk)(x1:Str):Option Bool:=some ((x0.Xy==x1))
def mI_(x0:List Xk)(x1:Str):Option (List Xk):=(bh_ x0).bind λy1=>(dq_ y1 (λ(u1:Xk)=>Option.bind (kE_ u1 x1) λ(v1:Bool)=>some v1)).bind λy2=>some (y2)
def mJ_(x0:Xk)(x1:Str):Option Bool:=some (((!x0.Xo)&&(x0.Xy==x1)))
def lu_(x0:List Xk)(x1:Str):Option Int:=(aT_ x0 (λ(u1:Xk)=>Option.bind (mJ_ u1 x1) λ(v1:Bool)=>some v1)).bind λy1=>some (y1)
def attr_Find(x0:List Xk)(x1:Str):Option (Str×Bool):=(lu_ x0 x1).bind λy1=>(bif(decide (y1<0))then some (([],false))else(ag_ x0 y1).bind λy2=>some ((y2.Xp,true)))
def pn_(x1:List Xk)(x0:List Xk)(s2:Int):Option (Step Int (Out Unit Bool)):=(bif(decide (s2<(x1.length:Int)))then(ag_ x1 s2).bind λy3=>(attr_Find x0 y3.Xy).bind λy4=>(bif((!y4.2)||((!y3.Xo)&&(!(y4.1==y3.Xp))))then some (.done (.ret (false)))else some (.next (w64 (s2+1))))else some (.done (.fall ())))
def mK_(x0:List Xk)(x1:List Xk):Option Bool:=(af_ (pn_ x1 x0) BIG 0).bind λwo1=>match wo1 with | .ret r1=>some r1 | .fall _=>some (true)
def attr_Set(x0:List Xk)(x1:Str)(x2:Str):Option (List Xk):=(bh_ x0).bind λy1=>(lu_ y1 x1).bind λy2=>(bif(decide (y2>=0))then(ag_ y1 y2).bind λy3=>some ((y1.set y2.toNat (Xk.mk y3.Xy x2 y3.Xo)))else(room 40 y1 [(Xk.mk x1 x2 false)]).bind λy4=>some (y4))
def lv_(y2:(List Xk)×Int×Int)(s2:Int×Str×Str×Str×Str×(List Xk)×Str×Str×(List Int)×Str×(List Xk)):Option (Step (Int×Str×Str×Str×Str×(List Xk)×Str×Str×(List Int)×Str×(List Xk)) plumb_state):=(bif(decide (s2.1<(y2.1.length:Int)))then(ag_ s2.2.2.2.2.2.2.2.2.2.2 s2.1).bind λy7=>(attr_Set s2.2.2.2.2.2.1 y7.Xy y7.Xp).bind λy8=>some (.next ((w64 (s2.1+1)),s2.2.1,s2.2.2.1,s2.2.2.2.1,s2.2.2.2.2.1,y8,s2.2.2.2.2.2.2.1,s2.2.2.2.2.2.2.2.1,s2.2.2.2.2.2.2.2.2.1,s2.2.2.2.2.2.2.2.2.2.1,s2.2.2.2.2.2.2.2.2.2.2))else some (.done (plumb_state.mk (Xw.mk s2.2.1 s2.2.2.1 s2.2.2.2.1 s2.2.2.2.2.1 s2.2.2.2.2.2.1 s2.2.2.2.2.2.2.1) s2.2.2.2.2.2.2.2.1 s2.2.2.2.2.2.2.2.2.1 s2.2.2.2.2.2.2.2.2.2.1)))
def iB_(x0:plumb_state)(x1:Str)(x2:Str):Option (Bool×plumb_state):=(bif(x1==[100,101,108,101,116,101])then(mI_ x0.m_.Xn x2).bind λy1=>some ((true,(plumb_state.mk (Xw.mk x0.m_.Xu x0.m_.Xa x0.m_.Yz x0.m_.Xd y1 x0.m_.Xt) x0.text_ x0.caps_ x0.port_)))else(lr_ x2).bind λy2=>(bif(y2.2.2 != 0)then some ((false,x0))else(bif(!(x1==[97,100,100]))then(mK_ x0.m_.Xn y2.1).bind λy3=>some (((y3==(x1==[105,115])),x0))else(gm_ y2.1).bind λy4=>(bif y4 then some ((false,x0))else(af_ (lv_ y2) BIG (0,x0.m_.Xu,x0.m_.Xa,x0.m_.Yz,x0.m_.Xd,x0.m_.Xn,x0.m_.Xt,x0.text_,x0.caps_,x0.port_,y2.1)).bind λo1=>some ((true,o1))))))
def bits_Mul64(x0:Int)(x1:Int):Option (Int×Int):=some (((IntKind.u64.wrap ((IntKind.u64.wrap ((IntKind.u64.wrap ((x0.fdiv (2^32))*(x1.fdiv (2^32))))+((IntKind.u64.wrap ((IntKind.u64.wrap ((x0.fdiv (2^32))*(andI .u64 x1 4294967295)))+((IntKind.u64.wrap ((andI .u64 x0 4294967295)*(andI .u64 x1 4294967295))).fdiv (2^32)))).fdiv (2^32))))+((IntKind.u64.wrap ((andI .u64 (IntKind.u64.wrap ((IntKind.u64.wrap ((x0.fdiv (2^32))*(andI .u64 x1 4294967295)))+((IntKind.u64.wrap ((andI .u64 x0 4294967295)*(andI .u64 x1 4294967295))).fdiv (2^32)))) 4294967295)+(IntKind.u64.wrap ((andI .u64 x0 4294967295)*(x1.fdiv (2^32)))))).fdiv (2^32)))),(IntKind.u64.wrap (x0*x1))))
def bits_Mul(x0:Int)(x1:Int):Option (Int×Int):=(bits_Mul64 x0 x1).bind λy1=>some ((y1.1,y1.2))
def jC_(s2:Int×(List Int)):Option (Step (Int×(List Int)) (List Int)):=(bif(decide (s2.1<(s2.2.length:Int)))then(aX_ s2.2 s2.1 (s2.2.length:Int)).bind λ_=>(aX_ s2.2 0 s2.1).bind λ_=>some (.next ((w64 (s2.1+((min (s2.2.take s2.1.toNat).length (s2.2.drop s2.1.toNat).length:Nat):Int))),(ji_ s2.2 s2.1.toNat (s2.2.take s2.1.toNat))))else some (.done s2.2))
def hc_(x0:List Int)(x1:Int):Option (List Int):=Option.bind ( (bif(decide (x1<0))then none else some ()) ) λ(_:Unit)=>(bits_Mul (IntKind.u64.wrap (x0.length:Int)) (IntKind.u64.wrap x1)).bind λy1=>Option.bind ( (bif((decide (y1.1>0))||(decide (y1.2>9223372036854775807)))then none else some ()) ) λ(_:Unit)=>(fq_ 8 (0:Int) (w64 (y1.2))).bind λy2=>(af_ jC_ BIG (((min x0.length y2.length:Nat):Int),(hW_ y2 x0))).bind λo3=>some (o3)
def kF_(x0:List Int):Option (List Int):=(nilB x0 λ(n1:Bool)=>(bif n1 then some ([])else(room 8 ([]:List Int) x0).bind λy1=>some (y1)))
def du_(x0:List Int):Option (List Int):=room 8 ([]:List Int) x0
theorem kG_:kF_=du_:=funext λ_=>md_
def hr_(rec0:regex_machine->Int->(List Int)->Option regex_machine)(x0:regex_machine)(x1:Int)(x2:List Int):Option regex_machine:=(ag_ x0.visited_ x1).bind λy1=>(bif(decide (y1>0))then some (x0)else(ag_ x0.visited_ x1).bind λy2=>(ag_ x0.visited_ x1).bind λ_=>(ag_ x0.r_.Yg x1).bind λy4=>(bif(y4.Op_==7)then(rec0 (regex_machine.mk x0.r_ x0.s_ x0.pos_ (x0.visited_.set x1.toNat (w64 (y2+1))) x0.list_) y4.X_ x2).bind λy5=>some y5 else(bif(y4.Op_==6)then(rec0 (regex_machine.mk x0.r_ x0.s_ x0.pos_ (x0.visited_.set x1.toNat (w64 (y2+1))) x0.list_) y4.X_ x2).bind λy6=>(rec0 y6 y4.Y_ x2).bind λy7=>some y7 else(bif(y4.Op_==8)then(du_ x2).bind λy8=>(ag_ y8 y4.X_).bind λ_=>(rec0 (regex_machine.mk x0.r_ x0.s_ x0.pos_ (x0.visited_.set x1.toNat (w64 (y2+1))) x0.list_) (w64 (x1+1)) (y8.set y4.X_.toNat x0.pos_)).bind λy10=>some y10 else(bif(y4.Op_==4)then(bif(x0.pos_==0)then(rec0 (regex_machine.mk x0.r_ x0.s_ x0.pos_ (x0.visited_.set x1.toNat (w64 (y2+1))) x0.list_) (w64 (x1+1)) x2).bind λy11=>some y11 else some (regex_machine.mk x0.r_ x0.s_ x0.pos_ (x0.visited_.set x1.toNat (w64 (y2+1))) x0.list_))else(bif(y4.Op_==5)then(bif(x0.pos_==(x0.s_.length:Int))then(rec0 (regex_machine.mk x0.r_ x0.s_ x0.pos_ (x0.visited_.set x1.toNat (w64 (y2+1))) x0.list_) (w64 (x1+1)) x2).bind λy12=>some y12 else some (regex_machine.mk x0.r_ x0.s_ x0.pos_ (x0.visited_.set x1.toNat (w64 (y2+1))) x0.list_))else(room 32 x0.list_ [(regex_thread.mk x1 x2)]).bind λy13=>some (regex_machine.mk x0.r_ x0.s_ x0.pos_ (x0.visited_.set x1.toNat (w64 (y2+1))) y13)))))))
def c1_:Nat->regex_machine->Int->(List Int)->Option regex_machine | 0=>λ_ _ _=>none|n+1=>hr_ (c1_ n)
def ok_(x0:Xz)(x1:Int)(s2:Bool×Int):Option (Step (Bool×Int) Bool):=(bif(decide ((w64 (s2.2+1))<(x0.Yx.length:Int)))then Option.bind (bif s2.1 then some true else(an_ x0.Yx s2.2).bind λy5=>Option.bind (bif(decide (y5<=x1))then(an_ x0.Yx (w64 (s2.2+1))).bind λy6=>some (decide (x1<=y6))else some false) λ(y7:Bool)=>some y7 ) λ(y8:Bool)=>some (.next (y8,(w64 (s2.2+2))))else some (.done s2.1))
def lZ_(x0:Xz)(x1:Int):Option Bool:=(bif(x0.Op_==1)then some ((x0.C_==x1))else(bif(x0.Op_==2)then some ((x1 != 10))else(bif(x0.Op_==3)then(af_ (ok_ x0 x1) BIG (false,0)).bind λo1=>some ((!(o1==x0.Yj)))else some (false))))
def regex_run_L1(s6:(List Int)×Int×(List Xz)×Int×Str×Int×(List Int)×(List regex_thread))(s8:Int×(List regex_thread)):Option (Step (Int×(List regex_thread)) (Out (List regex_thread) ((List Int)×(List regex_thread)))):=(bif(decide (s8.1<(s6.2.2.2.2.2.2.2.length:Int)))then(ag_ s8.2 s8.1).bind λy20=>(ag_ s6.2.2.1 y20.at_).bind λy21=>(bif(y21.Op_==9)then some (.done (.ret (y20.caps_,s8.2)))else some (.next ((w64 (s8.1+1)),s8.2)))else some (.done (.fall s8.2)))
def regex_run_L2(o7:(List Int)×Int×(List Xz)×Int×Str×Int×(List Int)×(List regex_thread))(x0:Yq)(y22:Int)(s10:Int×(List Xz)×Int×Str×Int×(List Int)×(List regex_thread)×(List regex_thread)):Option (Step (Int×(List Xz)×Int×Str×Int×(List Int)×(List regex_thread)×(List regex_thread)) ((List Xz)×Int×Str×Int×(List Int)×(List regex_thread))):=(bif(decide (s10.1<(o7.2.2.2.2.2.2.2.length:Int)))then Option.bind ( (ag_ s10.2.2.2.2.2.2.2 s10.1).bind λy28=>(ag_ x0.Yg y28.at_).bind λy29=>(lZ_ y29 y22).bind λy30=>(bif y30 then(c1_ BIG (regex_machine.mk (Yq.mk s10.2.1 s10.2.2.1) s10.2.2.2.1 s10.2.2.2.2.1 s10.2.2.2.2.2.1 s10.2.2.2.2.2.2.1) (w64 (y28.at_+1)) y28.caps_).bind λy31=>some (y31.r_.Yg,y31.r_.Yp,y31.s_,y31.pos_,y31.visited_,y31.list_,s10.2.2.2.2.2.2.2)else some (s10.2.1,s10.2.2.1,s10.2.2.2.1,s10.2.2.2.2.1,s10.2.2.2.2.2.1,s10.2.2.2.2.2.2.1,s10.2.2.2.2.2.2.2)) ) λ(o9:(List Xz)×Int×Str×Int×(List Int)×(List regex_thread)×(List regex_thread))=>some (.next ((w64 (s10.1+1)),o9.1,o9.2.1,o9.2.2.1,o9.2.2.2.1,o9.2.2.2.2.1,o9.2.2.2.2.2.1,o9.2.2.2.2.2.2))else some (.done (s10.2.1,s10.2.2.1,s10.2.2.2.1,s10.2.2.2.2.1,s10.2.2.2.2.2.1,s10.2.2.2.2.2.2.1)))
def regex_run_L3(x3:Bool)(x1:Str)(x0:Yq)(s6:(List Int)×Int×(List Xz)×Int×Str×Int×(List Int)×(List regex_thread)):Option (Step ((List Int)×Int×(List Xz)×Int×Str×Int×(List Int)×(List regex_thread)) (Out Unit ((List Int)×Int))):=Option.bind ( (af_ (regex_run_L1 s6) BIG (0,s6.2.2.2.2.2.2.2)).bind λwo6=>match wo6 with | .ret r2=>(nilB r2.1 λ(n2:Bool)=>(bif((!n2)&&((!x3)||(s6.2.2.2.2.2.1==(x1.length:Int))))then some (r2.1,s6.2.2.2.2.2.1,s6.2.2.1,s6.2.2.2.1,s6.2.2.2.2.1,s6.2.2.2.2.2.1,s6.2.2.2.2.2.2.1,r2.2)else some (s6.1,s6.2.1,s6.2.2.1,s6.2.2.2.1,s6.2.2.2.2.1,s6.2.2.2.2.2.1,s6.2.2.2.2.2.2.1,r2.2))) | .fall o6=>(bif(false&&((!x3)||(s6.2.2.2.2.2.1==(x1.length:Int))))then some ([],s6.2.2.2.2.2.1,s6.2.2.1,s6.2.2.2.1,s6.2.2.2.2.1,s6.2.2.2.2.2.1,s6.2.2.2.2.2.2.1,o6)else some (s6.1,s6.2.1,s6.2.2.1,s6.2.2.2.1,s6.2.2.2.2.1,s6.2.2.2.2.2.1,s6.2.2.2.2.2.2.1,o6)) ) λ(o7:(List Int)×Int×(List Xz)×Int×Str×Int×(List Int)×(List regex_thread))=>(bif((decide (o7.2.2.2.2.2.1>=(x1.length:Int)))||((o7.2.2.2.2.2.2.2.length:Int)==0))then some (.done (.ret ((o7.1,o7.2.1))))else(an_ x1 o7.2.2.2.2.2.1).bind λy22=>(fq_ 8 (0:Int) (o7.2.2.1.length:Int)).bind λy23=>Option.bind (af_ (regex_run_L2 o7 x0 y22) BIG (0,o7.2.2.1,o7.2.2.2.1,o7.2.2.2.2.1,(w64 (o7.2.2.2.2.2.1+1)),y23,[],o7.2.2.2.2.2.2.2)) λ(o10:(List Xz)×Int×Str×Int×(List Int)×(List regex_thread))=>some (.next (o7.1,o7.2.1,o10.1,o10.2.1,o10.2.2.1,o10.2.2.2.1,o10.2.2.2.2.1,o10.2.2.2.2.2)))
def mL_(x0:Yq)(x1:Str)(x2:Int)(x3:Bool):Option ((List Int)×Int):=(fq_ 8 (0:Int) (x0.Yg.length:Int)).bind λy1=>(hc_ [(-1)] (w64 (2*x0.Yp))).bind λy2=>Option.bind (c1_ BIG (regex_machine.mk x0 x1 x2 y1 []) 0 y2) λ(y3:regex_machine)=>Option.bind (af_ (regex_run_L3 x3 x1 x0) BIG ([],(-1),y3.r_.Yg,y3.r_.Yp,y3.s_,y3.pos_,y3.visited_,y3.list_)) λ(wo11:Out Unit ((List Int)×Int))=>match wo11 with | .ret r11=>some r11 | .fall _=>none
def eT_(x0:Yq)(x1:Str):Option ((List Int)×Bool):=(mL_ x0 x1 0 true).bind λy1=>(du_ y1.1).bind λy2=>some ((y2,(decide (y1.2>=0))))
def gH_(x0:plumb_state)(x1:Xb):Option (Bool×plumb_state):=(ff_ x0 x1.Xe).bind λy1=>(bif((!(x1.Xr==[109,97,116,99,104,101,115]))&&(decide ((y1.1.length:Int)>65536)))then some ((false,y1.2))else(bif(x1.Xm==[112,108,117,109,98])then some ((true,(plumb_state.mk y1.2.m_ y1.2.text_ y1.2.caps_ y1.1)))else(bif(x1.Xm==[97,116,116,114])then(iB_ y1.2 x1.Xr y1.1).bind λy2=>some ((y2.1,y2.2))else(bif(x1.Xm==[115,114,99])then(bif(x1.Xr==[105,115])then some (((y1.2.m_.Xu==y1.1),y1.2))else(bif(x1.Xr==[105,115,110])then some (((!(y1.2.m_.Xu==y1.1)),y1.2))else(bif(x1.Xr==[115,101,116])then some ((true,(plumb_state.mk (Xw.mk y1.1 y1.2.m_.Xa y1.2.m_.Yz y1.2.m_.Xd y1.2.m_.Xn y1.2.m_.Xt) y1.2.text_ y1.2.caps_ y1.2.port_)))else(bl_ x1.Xe).bind λy3=>(bif(y3.2.2 != 0)then some ((false,y1.2))else(eT_ y3.1 y1.2.m_.Xu).bind λy4=>Option.bind ( (bif y4.2 then some (y1.2.m_.Xu,y1.2.m_.Xa,y1.2.m_.Yz,y1.2.m_.Xd,y1.2.m_.Xn,y1.2.m_.Xt,y1.2.m_.Xu,y4.1,y1.2.port_)else some (y1.2.m_.Xu,y1.2.m_.Xa,y1.2.m_.Yz,y1.2.m_.Xd,y1.2.m_.Xn,y1.2.m_.Xt,y1.2.text_,y1.2.caps_,y1.2.port_)) ) λ(o1:Str×Str×Str×Str×(List Xk)×Str×Str×(List Int)×Str)=>some ((y4.2,(plumb_state.mk (Xw.mk o1.1 o1.2.1 o1.2.2.1 o1.2.2.2.1 o1.2.2.2.2.1 o1.2.2.2.2.2.1) o1.2.2.2.2.2.2.1 o1.2.2.2.2.2.2.2.1 o1.2.2.2.2.2.2.2.2)))))))else(bif(x1.Xm==[100,115,116])then(bif(x1.Xr==[105,115])then some (((y1.2.m_.Xa==y1.1),y1.2))else(bif(x1.Xr==[105,115,110])then some (((!(y1.2.m_.Xa==y1.1)),y1.2))else(bif(x1.Xr==[115,101,116])then some ((true,(plumb_state.mk (Xw.mk y1.2.m_.Xu y1.1 y1.2.m_.Yz y1.2.m_.Xd y1.2.m_.Xn y1.2.m_.Xt) y1.2.text_ y1.2.caps_ y1.2.port_)))else(bl_ x1.Xe).bind λy5=>(bif(y5.2.2 != 0)then some ((false,y1.2))else(eT_ y5.1 y1.2.m_.Xa).bind λy6=>Option.bind ( (bif y6.2 then some (y1.2.m_.Xu,y1.2.m_.Xa,y1.2.m_.Yz,y1.2.m_.Xd,y1.2.m_.Xn,y1.2.m_.Xt,y1.2.m_.Xa,y6.1,y1.2.port_)else some (y1.2.m_.Xu,y1.2.m_.Xa,y1.2.m_.Yz,y1.2.m_.Xd,y1.2.m_.Xn,y1.2.m_.Xt,y1.2.text_,y1.2.caps_,y1.2.port_)) ) λ(o2:Str×Str×Str×Str×(List Xk)×Str×Str×(List Int)×Str)=>some ((y6.2,(plumb_state.mk (Xw.mk o2.1 o2.2.1 o2.2.2.1 o2.2.2.2.1 o2.2.2.2.2.1 o2.2.2.2.2.2.1) o2.2.2.2.2.2.2.1 o2.2.2.2.2.2.2.2.1 o2.2.2.2.2.2.2.2.2)))))))else(bif(x1.Xm==[119,100,105,114])then(bif(x1.Xr==[105,115])then some (((y1.2.m_.Yz==y1.1),y1.2))else(bif(x1.Xr==[105,115,110])then some (((!(y1.2.m_.Yz==y1.1)),y1.2))else(bif(x1.Xr==[115,101,116])then some ((true,(plumb_state.mk (Xw.mk y1.2.m_.Xu y1.2.m_.Xa y1.1 y1.2.m_.Xd y1.2.m_.Xn y1.2.m_.Xt) y1.2.text_ y1.2.caps_ y1.2.port_)))else(bl_ x1.Xe).bind λy7=>(bif(y7.2.2 != 0)then some ((false,y1.2))else(eT_ y7.1 y1.2.m_.Yz).bind λy8=>Option.bind ( (bif y8.2 then some (y1.2.m_.Xu,y1.2.m_.Xa,y1.2.m_.Yz,y1.2.m_.Xd,y1.2.m_.Xn,y1.2.m_.Xt,y1.2.m_.Yz,y8.1,y1.2.port_)else some (y1.2.m_.Xu,y1.2.m_.Xa,y1.2.m_.Yz,y1.2.m_.Xd,y1.2.m_.Xn,y1.2.m_.Xt,y1.2.text_,y1.2.caps_,y1.2.port_)) ) λ(o3:Str×Str×Str×Str×(List Xk)×Str×Str×(List Int)×Str)=>some ((y8.2,(plumb_state.mk (Xw.mk o3.1 o3.2.1 o3.2.2.1 o3.2.2.2.1 o3.2.2.2.2.1 o3.2.2.2.2.2.1) o3.2.2.2.2.2.2.1 o3.2.2.2.2.2.2.2.1 o3.2.2.2.2.2.2.2.2)))))))else(bif(x1.Xm==[116,121,112,101])then(bif(x1.Xr==[105,115])then some (((y1.2.m_.Xd==y1.1),y1.2))else(bif(x1.Xr==[105,115,110])then some (((!(y1.2.m_.Xd==y1.1)),y1.2))else(bif(x1.Xr==[115,101,116])then some ((true,(plumb_state.mk (Xw.mk y1.2.m_.Xu y1.2.m_.Xa y1.2.m_.Yz y1.1 y1.2.m_.Xn y1.2.m_.Xt) y1.2.text_ y1.2.caps_ y1.2.port_)))else(bl_ x1.Xe).bind λy9=>(bif(y9.2.2 != 0)then some ((false,y1.2))else(eT_ y9.1 y1.2.m_.Xd).bind λy10=>Option.bind ( (bif y10.2 then some (y1.2.m_.Xu,y1.2.m_.Xa,y1.2.m_.Yz,y1.2.m_.Xd,y1.2.m_.Xn,y1.2.m_.Xt,y1.2.m_.Xd,y10.1,y1.2.port_)else some (y1.2.m_.Xu,y1.2.m_.Xa,y1.2.m_.Yz,y1.2.m_.Xd,y1.2.m_.Xn,y1.2.m_.Xt,y1.2.text_,y1.2.caps_,y1.2.port_)) ) λ(o4:Str×Str×Str×Str×(List Xk)×Str×Str×(List Int)×Str)=>some ((y10.2,(plumb_state.mk (Xw.mk o4.1 o4.2.1 o4.2.2.1 o4.2.2.2.1 o4.2.2.2.2.1 o4.2.2.2.2.2.1) o4.2.2.2.2.2.2.1 o4.2.2.2.2.2.2.2.1 o4.2.2.2.2.2.2.2.2)))))))else(bif(x1.Xr==[105,115])then some (((y1.2.m_.Xt==y1.1),y1.2))else(bif(x1.Xr==[105,115,110])then some (((!(y1.2.m_.Xt==y1.1)),y1.2))else(bif(x1.Xr==[115,101,116])then some ((true,(plumb_state.mk (Xw.mk y1.2.m_.Xu y1.2.m_.Xa y1.2.m_.Yz y1.2.m_.Xd y1.2.m_.Xn y1.1) y1.2.text_ y1.2.caps_ y1.2.port_)))else(bl_ x1.Xe).bind λy11=>(bif(y11.2.2 != 0)then some ((false,y1.2))else(eT_ y11.1 y1.2.m_.Xt).bind λy12=>Option.bind ( (bif y12.2 then some (y1.2.m_.Xu,y1.2.m_.Xa,y1.2.m_.Yz,y1.2.m_.Xd,y1.2.m_.Xn,y1.2.m_.Xt,y1.2.m_.Xt,y12.1,y1.2.port_)else some (y1.2.m_.Xu,y1.2.m_.Xa,y1.2.m_.Yz,y1.2.m_.Xd,y1.2.m_.Xn,y1.2.m_.Xt,y1.2.text_,y1.2.caps_,y1.2.port_)) ) λ(o5:Str×Str×Str×Str×(List Xk)×Str×Str×(List Int)×Str)=>some ((y12.2,(plumb_state.mk (Xw.mk o5.1 o5.2.1 o5.2.2.1 o5.2.2.2.1 o5.2.2.2.2.1 o5.2.2.2.2.2.1) o5.2.2.2.2.2.2.1 o5.2.2.2.2.2.2.2.1 o5.2.2.2.2.2.2.2.2))))))))))))))
def qp_(x0:Xh)(s2:Int×Str×Str×Str×Str×(List Xk)×Str×Str×(List Int)×Str):Option (Step (Int×Str×Str×Str×Str×(List Xk)×Str×Str×(List Int)×Str) (Out plumb_state (Xw×Str×Bool))):=(bif(decide (s2.1<(x0.Xg.length:Int)))then(ag_ x0.Xg s2.1).bind λy7=>(gH_ (plumb_state.mk (Xw.mk s2.2.1 s2.2.2.1 s2.2.2.2.1 s2.2.2.2.2.1 s2.2.2.2.2.2.1 s2.2.2.2.2.2.2.1) s2.2.2.2.2.2.2.2.1 s2.2.2.2.2.2.2.2.2.1 s2.2.2.2.2.2.2.2.2.2) y7).bind λy8=>(bif(!y8.1)then some (.done (.ret (((Xw.mk [] [] [] [] [] []),[],false))))else some (.next ((w64 (s2.1+1)),y8.2.m_.Xu,y8.2.m_.Xa,y8.2.m_.Yz,y8.2.m_.Xd,y8.2.m_.Xn,y8.2.m_.Xt,y8.2.text_,y8.2.caps_,y8.2.port_)))else some (.done (.fall (plumb_state.mk (Xw.mk s2.2.1 s2.2.2.1 s2.2.2.2.1 s2.2.2.2.2.1 s2.2.2.2.2.2.1 s2.2.2.2.2.2.2.1) s2.2.2.2.2.2.2.2.1 s2.2.2.2.2.2.2.2.2.1 s2.2.2.2.2.2.2.2.2.2))))
def nQ_(x0:Xh)(x1:Xw):Option (Xw×Str×Bool):=(f4_ x0).bind λy1=>Option.bind (bif(!y1)then some true else(d6_ x1).bind λy2=>some (y2 != 0) ) λ(y3:Bool)=>(bif y3 then some (((Xw.mk [] [] [] [] [] []),[],false))else(bh_ x1.Xn).bind λy4=>Option.bind (af_ (qp_ x0) BIG (0,x1.Xu,x1.Xa,x1.Yz,x1.Xd,y4,x1.Xt,[],[],[])) λ(wo1:Out plumb_state (Xw×Str×Bool))=>match wo1 with | .ret r1=>some r1 | .fall o1=>(d6_ o1.m_).bind λy9=>(bif(y9 != 0)then some (((Xw.mk [] [] [] [] [] []),[],false))else some ((o1.m_,o1.port_,true))))
def qq_(x0:List Xh)(x1:Xw)(s2:Int):Option (Step Int (Out Unit (Xw×Str×Bool))):=(bif(decide (s2<(x0.length:Int)))then(ag_ x0 s2).bind λy3=>(nQ_ y3 x1).bind λy4=>(bif y4.2.2 then some (.done (.ret ((y4.1,y4.2.1,true))))else some (.next (w64 (s2+1))))else some (.done (.fall ())))
def f5_(x0:List Xh)(x1:Xw):Option (Xw×Str×Bool):=(af_ (qq_ x0 x1) BIG 0).bind λwo1=>match wo1 with | .ret r1=>some r1 | .fall _=>some (((Xw.mk [] [] [] [] [] []),[],false))
def bu_(x0:List Xv)(x1:Xv->Option Bool)(s2:Int):Option (Step Int (Out Unit Int)):=(bif(decide (s2<(x0.length:Int)))then(ag_ x0 s2).bind λy3=>(x1 y3).bind λy4=>(bif y4 then some (.done (.ret (s2)))else some (.next (w64 (s2+1))))else some (.done (.fall ())))
def aD_(x0:List Xv)(x1:Xv->Option Bool):Option Int:=(af_ (bu_ x0 x1) BIG 0).bind λwo1=>match wo1 with | .ret r1=>some r1 | .fall _=>some ((-1))
def fE_(x0:Xv)(x1:Str):Option Bool:=some ((x0.Xy==x1))
def cG_(x0:Xw):Option Bool:=(di_ x0).bind λy1=>some (((y1.2==0)&&(decide ((y1.1.length:Int)<=65536))))
def fg_(x0:Xj)(x1:Xw):Option (Xj×Int):=(cA_ x0).bind λy1=>(di_ x1).bind λy2=>(bif(y2.2 != 0)then some ((y1,y2.2))else(f5_ x0.Xc x1).bind λy3=>Option.bind ( (bif(!y3.2.2)then some (x1,x1.Xa)else some (y3.1,y3.2.1)) ) λ(o1:Xw×Str)=>(aD_ y1.Xq (λ(u1:Xv)=>Option.bind (fE_ u1 o1.2) λ(v1:Bool)=>some v1)).bind λy4=>(bif(decide (y4<0))then some ((y1,51))else(ag_ y1.Xq y4).bind λy5=>(bif(y5.Xl==0)then some ((y1,51))else(cG_ o1.1).bind λy6=>(bif(!y6)then some ((y1,4))else(ag_ y1.Xq y4).bind λy7=>(bif(decide ((y7.Xf.length:Int)>=64))then some ((y1,22))else(ag_ y1.Xq y4).bind λy8=>(dE_ o1.1).bind λy9=>(room 104 y8.Xf [y9]).bind λy10=>(ag_ y1.Xq y4).bind λy11=>some (((Xj.mk y1.Xc (y1.Xq.set y4.toNat (Xv.mk y11.Xy y10 y11.Xl))),0)))))))
def iw_(x0:Xj)(x1:Int)(x2:Int)(x3:Str):Option (Xj×Int×Int):=(cA_ x0).bind λy1=>(bW_ x0 x1).bind λy2=>(bif(!y2)then some ((y1,0,8))else(bif(x1==1)then some ((y1,0,10))else(bif(decide (x2<0))then some ((y1,0,1))else(bif(decide (x1>=4))then some ((y1,0,11))else(bif(x1==2)then(nO_ x3).bind λy3=>(bif(y3.2.2 != 0)then some ((y1,0,y3.2.2))else some (((Xj.mk y3.1 y1.Xq),(x3.length:Int),0)))else(nP_ x3).bind λy4=>(bif(y4.2 != 0)then some ((y1,0,y4.2))else(fg_ x0 y4.1).bind λy5=>(bif(y5.2 != 0)then some ((y5.1,0,y5.2))else some ((y5.1,(x3.length:Int),0)))))))))
def iC_(x0:Int)(x1:Int):Option Bool:=(bif(x0==2)then some ((((x1==0)||(x1==1))||(x1==2)))else(bif(x0==3)then some ((x1==1))else some ((x1==0))))
def mM_(x0:Xj)(x1:Int)(x2:Int):Option (Xj×Int):=(cA_ x0).bind λy1=>(bW_ x0 x1).bind λy2=>(bif(!y2)then some ((y1,8))else(bif((decide ((andNotI .i64 x2 80)<0))||(decide ((andNotI .i64 x2 80)>3)))then some ((y1,12))else(bif((x1==1)&&(x2 != 0))then some ((y1,10))else(bif(x1==1)then some ((y1,0))else Option.bind (bif((andI .i64 x2 64) != 0)then some true else(iC_ x1 (andNotI .i64 x2 80)).bind λy3=>some (!y3) ) λ(y4:Bool)=>(bif y4 then some ((y1,11))else(bif(decide (x1<4))then some ((y1,0))else(ag_ y1.Xq (w64 (x1-4))).bind λy5=>(bif(decide (y5.Xl>=9007199254740991))then some ((y1,22))else(ag_ y1.Xq (w64 (x1-4))).bind λy6=>(ag_ y1.Xq (w64 (x1-4))).bind λy7=>some (((Xj.mk y1.Xc (y1.Xq.set (w64 (x1-4)).toNat (Xv.mk y7.Xy y7.Xf (w64 (y6.Xl+1))))),0)))))))))
def eJ_(y18:Xh)(s6:Int×(List Int)):Option (Step (Int×(List Int)) (List Int)):=(bif(decide (s6.1<(y18.Xg.length:Int)))then(ag_ y18.Xg s6.1).bind λy28=>(cat y28.Xm [32]).bind λy29=>(cat y29 y28.Xr).bind λy30=>(cat y30 [32]).bind λy31=>(cat y31 y28.Xe).bind λy32=>(cat y32 [10]).bind λy33=>(room 1 s6.2 (aG_ y33)).bind λy34=>some (.next ((w64 (s6.1+1)),y34))else some (.done s6.2))
def gn_(x0:List Xh)(s4:Int×(List Int)):Option (Step (Int×(List Int)) (Out (List Int) (Str×Int))):=(bif(decide (s4.1<(x0.length:Int)))then(ag_ x0 s4.1).bind λy18=>(f4_ y18).bind λy19=>(bif(!y19)then some (.done (.ret (([],50))))else Option.bind ( (bif(decide (s4.1>0))then(room 1 s4.2 (aG_ [10])).bind λy20=>some y20 else some s4.2) ) λ(o3:(List Int))=>(af_ (eJ_ y18) BIG (0,o3)).bind λo4=>some (.next ((w64 (s4.1+1)),o4)))else some (.done (.fall s4.2)))
def fF_(x0:List Xh):Option (Str×Int):=(bif(decide ((x0.length:Int)>64))then some (([],22))else(af_ (gn_ x0) BIG (0,[])).bind λwo5=>match wo5 with | .ret r5=>some r5 | .fall o5=>some (((bytesS o5),0)))
def jx_(x0:Xj)(x1:Int)(x2:Int)(x3:Int):Option (Xj×Str×Bool×Int):=(cA_ x0).bind λy1=>(bW_ x0 x1).bind λy2=>(bif(!y2)then some ((y1,[],false,8))else(bif(x1==1)then some ((y1,[],false,10))else(bif((decide (x2<0))||(decide (x3<0)))then some ((y1,[],false,1))else(bif(x1==3)then some ((y1,[],false,11))else(bif(x1==2)then(fF_ x0.Xc).bind λy3=>(aX_ y3.1 (minI x2 (y3.1.length:Int)) (y3.1.length:Int)).bind λy4=>(aX_ y4 0 (minI (minI x3 65536) (y4.length:Int))).bind λy5=>some ((y1,y5,false,0))else(ag_ y1.Xq (w64 (x1-4))).bind λy6=>(bif((y6.Xf.length:Int)==0)then some ((y1,[],true,0))else(ag_ y6.Xf 0).bind λy7=>(di_ y7).bind λy8=>Option.bind ( (bif((y8.2==0)&&(decide ((y8.1.length:Int)>(minI x3 65536))))then some 3 else some y8.2) ) λ(o1:Int)=>(bif(o1 != 0)then some ((y1,[],false,o1))else(aX_ y6.Xf 1 (y6.Xf.length:Int)).bind λy9=>some (((Xj.mk y1.Xc (y1.Xq.set (w64 (x1-4)).toNat (Xv.mk y6.Xy y9 y6.Xl))),y8.1,false,0)))))))))
def hM_(x0:Xv)(x1:Str):Option Bool:=some ((x0.Xy==x1))
def cr_(x0:Xj)(x1:Int)(x2:Str):Option (Int×Int):=(bW_ x0 x1).bind λy1=>(bif(!y1)then some ((0,8))else(bif(x1 != 1)then some ((0,9))else(bif(x2==[46,46])then some ((1,0))else(bif(x2==[114,117,108,101,115])then some ((2,0))else(bif(x2==[115,101,110,100])then some ((3,0))else(aD_ x0.Xq (λ(u1:Xv)=>Option.bind (hM_ u1 x2) λ(v1:Bool)=>some v1)).bind λy2=>(bif(decide (y2<0))then some ((0,8))else some (((w64 (4+y2)),0))))))))
def bn_(x0:List Xw)(x1:Xw->Option Bool)(s2:Int):Option (Step Int (Out Unit Int)):=(bif(decide (s2<(x0.length:Int)))then(ag_ x0 s2).bind λy3=>(x1 y3).bind λy4=>(bif y4 then some (.done (.ret (s2)))else some (.next (w64 (s2+1))))else some (.done (.fall ())))
def be_(x0:List Xw)(x1:Xw->Option Bool):Option Int:=(af_ (bn_ x0 x1) BIG 0).bind λwo1=>match wo1 with | .ret r1=>some r1 | .fall _=>some ((-1))
def bR_(x0:List Xw)(x1:Xw->Option Bool):Option Bool:=(be_ x0 x1).bind λy1=>some ((decide (y1>=0)))
def dv_(x0:Xw):Option Bool:=(cG_ x0).bind λy1=>some ((!y1))
def eb_(x0:Xv):Option Bool:=(ei_ x0.Xy).bind λy1=>(bif(((((!y1)||(decide (x0.Xl<0)))||(decide (x0.Xl>9007199254740991)))||(decide ((x0.Xf.length:Int)>64)))||((x0.Xl==0)&&(decide ((x0.Xf.length:Int)>0))))then some (false)else(bR_ x0.Xf (λ(u1:Xw)=>Option.bind (dv_ u1) λ(v1:Bool)=>some v1)).bind λy2=>some ((!y2)))
def ez_(x0:Xj)(s2:Int):Option (Step Int (Out Unit Bool)):=(bif(decide (s2<(x0.Xq.length:Int)))then(ag_ x0.Xq s2).bind λy7=>(eb_ y7).bind λy8=>Option.bind (bif(!y8)then some true else Option.bind (bif(decide (s2>0))then(ag_ x0.Xq (w64 (s2-1))).bind λy9=>some (!(Op.bytesLess y9.Xy y7.Xy))else some false) λ(y10:Bool)=>some y10 ) λ(y11:Bool)=>(bif y11 then some (.done (.ret (false)))else some (.next (w64 (s2+1))))else some (.done (.fall ())))
def eK_(x0:Xj):Option Bool:=(fF_ x0.Xc).bind λy1=>(bif((y1.2 != 0)||(decide ((x0.Xq.length:Int)>16)))then some (false)else(af_ (ez_ x0) BIG 0).bind λwo1=>match wo1 with | .ret r1=>some r1 | .fall _=>some (true))
def br_:Option Bool:=(f2_ [[119,101,98],[101,100,105,116]]).bind λy1=>(bif(y1.2 != 0)then some (false)else(bif((y1.1.Xq.length:Int) != 2)then some (false)else(ag_ y1.1.Xq 0).bind λy2=>(bif(!(y2.Xy==[101,100,105,116]))then some (false)else(iw_ y1.1 3 0 [97,10,101,100,105,116,10,10,116,101,120,116,10,10,50,10,104,105]).bind λy3=>(bif(y3.2.2 != 51)then some (false)else(mM_ y1.1 4 0).bind λy4=>(bif(y4.2 != 0)then some (false)else(iw_ y4.1 3 0 [97,10,101,100,105,116,10,10,116,101,120,116,10,10,50,10,104,105]).bind λy5=>(bif((y5.2.2 != 0)||(y5.2.1 != ([97,10,101,100,105,116,10,10,116,101,120,116,10,10,50,10,104,105].length:Int)))then some (false)else(jx_ y5.1 4 0 100).bind λy6=>(bif(((!(y6.2.1==[97,10,101,100,105,116,10,10,116,101,120,116,10,10,50,10,104,105]))||y6.2.2.1)||(y6.2.2.2 != 0))then some (false)else(jx_ y6.1 4 0 100).bind λy7=>(cr_ y6.1 1 [119,101,98]).bind λy8=>Option.bind (bif(((y7.2.2.1&&(y7.2.2.2==0))&&(y8.1==5))&&(y8.2==0))then(eK_ y6.1).bind λy9=>some y9 else some false) λ(y10:Bool)=>some (y10))))))))
def fG_(x0:Str)(s2:Int):Option (Step Int (Out Unit Bool)):=(bif(decide (s2<(x0.length:Int)))then(an_ x0 s2).bind λy2=>(bif((!((decide (y2>=97))&&(decide (y2<=122))))&&((s2==0)||(((!((decide (y2>=48))&&(decide (y2<=57))))&&(y2 != 45))&&(y2 != 95))))then some (.done (.ret (false)))else some (.next (w64 (s2+1))))else some (.done (.fall ())))
def h6_(x0:Str):Option Bool:=(bif((decide ((x0.length:Int)<1))||(decide ((x0.length:Int)>32)))then some (false)else(af_ (fG_ x0) BIG 0).bind λwo1=>match wo1 with | .ret r1=>some r1 | .fall _=>some (true))
def el_(x0:Str):Option Bool:=(h6_ x0).bind λy1=>some (((y1&&(!(x0==[114,117,108,101,115])))&&(!(x0==[115,101,110,100]))))
def hd_(s4:(List Xv)×Int)(x0:List Str)(s6:Int):Option (Step Int Int):=Option.bind (bif(decide (s6<(s4.1.length:Int)))then(ag_ s4.1 s6).bind λy15=>(ag_ x0 s4.2).bind λy16=>some (Op.bytesLess y15.Xy y16)else some false) λ(y17:Bool)=>(bif y17 then some (.next (w64 (s6+1)))else some (.done s6))
def he_(x0:List Str)(s4:(List Xv)×Int):Option (Step ((List Xv)×Int) (Out (List Xv) (Xj×Int))):=(bif(decide (s4.2<(x0.length:Int)))then(ag_ x0 s4.2).bind λy10=>(el_ y10).bind λy11=>(bif(!y11)then some (.done (.ret (((Xj.mk [] []),6))))else(af_ (hd_ s4 x0) BIG 0).bind λo2=>Option.bind (bif(decide (o2<(s4.1.length:Int)))then(ag_ s4.1 o2).bind λy18=>(ag_ x0 s4.2).bind λy19=>some (y18.Xy==y19)else some false) λ(y20:Bool)=>(bif y20 then some (.done (.ret (((Xj.mk [] []),7))))else(aX_ s4.1 0 o2).bind λy21=>(room 48 ([]:List Xv) y21).bind λy22=>(ag_ x0 s4.2).bind λy23=>Option.bind (room 48 y22 [(Xv.mk y23 [] 0)]) λ(y24:List Xv)=>(aX_ s4.1 o2 (s4.1.length:Int)).bind λy25=>(room 48 y24 y25).bind λy26=>some (.next (y26,(w64 (s4.2+1))))))else some (.done (.fall s4.1)))
def jR_(x0:List Str):Option (Xj×Int):=(bif(decide ((x0.length:Int)>16))then some (((Xj.mk [] []),22))else Option.bind (af_ (he_ x0) BIG ([],0)) λ(wo3:Out (List Xv) (Xj×Int))=>match wo3 with | .ret r3=>some r3 | .fall o3=>some (((Xj.mk [] o3),0)))
def dQ_(x0:List Xh)(s4:Int)(x1:List Xh)(s6:Int):Option (Step Int (Out Unit Bool)):=(ag_ x0 s4).bind λy20=>(bif(decide (s6<(y20.Xg.length:Int)))then(ag_ x0 s4).bind λy21=>(ag_ y21.Xg s6).bind λy22=>(ag_ x1 s4).bind λy23=>(ag_ y23.Xg s6).bind λy24=>(bif(!(decide (y22=y24)))then some (.done (.ret (false)))else some (.next (w64 (s6+1))))else some (.done (.fall ())))
def dR_(x0:List Xh)(x1:List Xh)(s4:Int):Option (Step Int (Out Unit Bool)):=(bif(decide (s4<(x0.length:Int)))then(ag_ x0 s4).bind λy13=>(ag_ x1 s4).bind λy14=>(bif((y13.Xg.length:Int) != (y14.Xg.length:Int))then some (.done (.ret (false)))else(af_ (dQ_ x0 s4 x1) BIG 0).bind λwo2=>match wo2 with | .ret r2=>some (.done (.ret r2)) | .fall _=>some (.next (w64 (s4+1))))else some (.done (.fall ())))
def e3_(x0:List Xh)(x1:List Xh):Option Bool:=(bif((x0.length:Int) != (x1.length:Int))then some (false)else(af_ (dR_ x0 x1) BIG 0).bind λwo3=>match wo3 with | .ret r3=>some r3 | .fall _=>some (true))
def dS_(x0:List Xk)(x1:List Xk)(s2:Int):Option (Step Int (Out Unit Bool)):=(bif(decide (s2<(x0.length:Int)))then(ag_ x0 s2).bind λy3=>(ag_ x1 s2).bind λy4=>(bif(!(decide (y3=y4)))then some (.done (.ret (false)))else some (.next (w64 (s2+1))))else some (.done (.fall ())))
def e4_(x0:List Xk)(x1:List Xk):Option Bool:=(bif((x0.length:Int) != (x1.length:Int))then some (false)else(af_ (dS_ x0 x1) BIG 0).bind λwo1=>match wo1 with | .ret r1=>some r1 | .fall _=>some (true))
def iX_(x0:Xw)(x1:Xw):Option Bool:=Option.bind (bif(((((x0.Xu==x1.Xu)&&(x0.Xa==x1.Xa))&&(x0.Yz==x1.Yz))&&(x0.Xd==x1.Xd))&&(x0.Xt==x1.Xt))then(e4_ x0.Xn x1.Xn).bind λy1=>some y1 else some false) λ(y2:Bool)=>some (y2)
def go_(y10:Xv)(y11:Xv)(s6:Int):Option (Step Int (Out Unit Bool)):=(bif(decide (s6<(y10.Xf.length:Int)))then(ag_ y10.Xf s6).bind λy15=>(ag_ y11.Xf s6).bind λy16=>(iX_ y15 y16).bind λy17=>(bif(!y17)then some (.done (.ret (false)))else some (.next (w64 (s6+1))))else some (.done (.fall ())))
def gp_(x0:Xj)(x1:Xj)(s4:Int):Option (Step Int (Out Unit Bool)):=(bif(decide (s4<(x0.Xq.length:Int)))then(ag_ x0.Xq s4).bind λy10=>(ag_ x1.Xq s4).bind λy11=>(bif(((!(y10.Xy==y11.Xy))||(y10.Xl != y11.Xl))||((y10.Xf.length:Int) != (y11.Xf.length:Int)))then some (.done (.ret (false)))else(af_ (go_ y10 y11) BIG 0).bind λwo2=>match wo2 with | .ret r2=>some (.done (.ret r2)) | .fall _=>some (.next (w64 (s4+1))))else some (.done (.fall ())))
def iY_(x0:Xj)(x1:Xj):Option Bool:=(e3_ x0.Xc x1.Xc).bind λy1=>(bif((!y1)||((x0.Xq.length:Int) != (x1.Xq.length:Int)))then some (false)else(af_ (gp_ x0 x1) BIG 0).bind λwo3=>match wo3 with | .ret r3=>some r3 | .fall _=>some (true))
def da_(x0:List Str)(s2:Int):Option (Step Int (Out Unit Bool)):=(bif(decide (s2<(x0.length:Int)))then(ag_ x0 s2).bind λy4=>(bif(decide ((y4.length:Int)>1000))then(br_).bind λy5=>some (.done (.ret (y5)))else some (.next (w64 (s2+1))))else some (.done (.fall ())))
def c2_(x0:List Str):Option Bool:=(bif(decide ((x0.length:Int)>30))then(br_).bind λy1=>some (y1)else(af_ (da_ x0) BIG 0).bind λwo1=>match wo1 with | .ret r1=>some r1 | .fall _=>(f2_ x0).bind λy6=>(jR_ x0).bind λy7=>(iY_ y6.1 y7.1).bind λy8=>Option.bind (bif(y8&&(y6.2==y7.2))then(br_).bind λy9=>some y9 else some false) λ(y10:Bool)=>some (y10))
def fH_(x0:Xw)(s2:Int):Option (Step Int (Out Unit Bool)):=(bif(decide (s2<(x0.Xn.length:Int)))then(ag_ x0.Xn s2).bind λy4=>Option.bind (bif(decide ((y4.Xy.length:Int)>1100))then some true else(ag_ x0.Xn s2).bind λy5=>some (decide ((y5.Xp.length:Int)>1100)) ) λ(y6:Bool)=>(bif y6 then some (.done (.ret (false)))else some (.next (w64 (s2+1))))else some (.done (.fall ())))
def h7_(x0:Xw):Option Bool:=(bif((((((decide ((x0.Xu.length:Int)>1100))||(decide ((x0.Xa.length:Int)>1100)))||(decide ((x0.Yz.length:Int)>1100)))||(decide ((x0.Xd.length:Int)>1100)))||(decide ((x0.Xn.length:Int)>40)))||(decide ((x0.Xt.length:Int)>70000)))then some (false)else(af_ (fH_ x0) BIG 0).bind λwo1=>match wo1 with | .ret r1=>some r1 | .fall _=>some (true))
def fI_(y8:Xh)(x0:Xj)(s4:Int)(s6:Int):Option (Step Int (Out Unit Bool)):=(bif(decide (s6<(y8.Xg.length:Int)))then(ag_ x0.Xc s4).bind λy11=>(ag_ y11.Xg s6).bind λy12=>(bif(((decide ((y12.Xm.length:Int)>300))||(decide ((y12.Xr.length:Int)>300)))||(decide ((y12.Xe.length:Int)>300)))then some (.done (.ret (false)))else some (.next (w64 (s6+1))))else some (.done (.fall ())))
def fJ_(x0:Xj)(s4:Int):Option (Step Int (Out Unit Bool)):=(bif(decide (s4<(x0.Xc.length:Int)))then(ag_ x0.Xc s4).bind λy7=>(bif(decide ((y7.Xg.length:Int)>20))then some (.done (.ret (false)))else(ag_ x0.Xc s4).bind λy8=>(af_ (fI_ y8 x0 s4) BIG 0).bind λwo2=>match wo2 with | .ret r2=>some (.done (.ret r2)) | .fall _=>some (.next (w64 (s4+1))))else some (.done (.fall ())))
def fK_(y26:Xv)(x0:Xj)(s10:Int×Int)(s12:Int×Int):Option (Step (Int×Int) (Out Int Bool)):=(bif(decide (s12.2<(y26.Xf.length:Int)))then(ag_ x0.Xq s10.2).bind λy30=>(ag_ y30.Xf s12.2).bind λy31=>(h7_ y31).bind λy32=>(bif((!y32)||(decide ((w64 (s12.1+(y31.Xt.length:Int)))>200000)))then some (.done (.ret (false)))else some (.next ((w64 (s12.1+(y31.Xt.length:Int))),(w64 (s12.2+1)))))else some (.done (.fall s12.1)))
def fL_(x0:Xj)(s10:Int×Int):Option (Step (Int×Int) (Out Unit Bool)):=(bif(decide (s10.2<(x0.Xq.length:Int)))then(ag_ x0.Xq s10.2).bind λy23=>Option.bind (bif(decide ((y23.Xf.length:Int)>70))then some true else(ag_ x0.Xq s10.2).bind λy24=>some (decide ((y24.Xy.length:Int)>1000)) ) λ(y25:Bool)=>(bif y25 then some (.done (.ret (false)))else(ag_ x0.Xq s10.2).bind λy26=>(af_ (fK_ y26 x0 s10) BIG (s10.1,0)).bind λwo5=>match wo5 with | .ret r5=>some (.done (.ret r5)) | .fall o5=>some (.next (o5,(w64 (s10.2+1)))))else some (.done (.fall ())))
def d7_(x0:Xj):Option Bool:=(bif((decide ((x0.Xq.length:Int)>20))||(decide ((x0.Xc.length:Int)>70)))then some (false)else(af_ (fJ_ x0) BIG 0).bind λwo3=>match wo3 with | .ret r3=>some r3 | .fall _=>(af_ (fL_ x0) BIG (0,0)).bind λwo6=>match wo6 with | .ret r6=>some r6 | .fall _=>some (true))
def gq_(x0:Str)(s2:Int):Option (Step Int (Out Unit Int)):=(bif(decide (s2<(x0.length:Int)))then(an_ x0 s2).bind λy2=>(bif(y2==10)then some (.done (.ret (2)))else some (.next (w64 (s2+1))))else some (.done (.fall ())))
def hf_(x0:Str):Option Int:=(bif(decide ((x0.length:Int)>1024))then some (4)else(af_ (gq_ x0) BIG 0).bind λwo1=>match wo1 with | .ret r1=>some r1 | .fall _=>some (0))
def f6_(x0:Str):Option Bool:=some ((((((x0==[115,114,99])||(x0==[100,115,116]))||(x0==[119,100,105,114]))||(x0==[116,121,112,101]))||(x0==[100,97,116,97])))
def aL_(x0:Xx)(x1:Xz):Option Xx:=(room 56 x0.L_ [x1]).bind λy1=>some ((Xx.mk y1 x0.At_ x0.N_ x0.Xi))
def bF_(x0:Str)(x1:Xx)(x2:Int):Option (Bool×Xx):=Option.bind (bif((!x1.Xi)&&(decide (x1.At_<(x0.length:Int))))then(an_ x0 x1.At_).bind λy1=>some (y1==x2)else some false) λ(y2:Bool)=>some ((y2,x1))
def fM_(x0:Str)(s2:Int×Int×Bool×(List Xz)×(List Int)):Option (Step (Int×Int×Bool×(List Xz)×(List Int)) (Out (Int×Int×Bool×(List Xz)×(List Int)) Xx)):=Option.bind (bif(decide (s2.1<(x0.length:Int)))then(an_ x0 s2.1).bind λy17=>some ((y17 != 93)||((s2.2.2.2.2.length:Int)==0))else some false) λ(y18:Bool)=>(bif y18 then(an_ x0 s2.1).bind λy19=>Option.bind (bif(y19==93)then some true else(an_ x0 s2.1).bind λy20=>some (y20==45) ) λ(y21:Bool)=>(bif y21 then some (.done (.ret ((Xx.mk s2.2.2.2.1 s2.1 s2.2.1 true))))else Option.bind ( (an_ x0 s2.1).bind λy22=>(bif(y22 != 92)then some (y22,s2.2.2.2.1,(w64 (s2.1+1)),s2.2.1,s2.2.2.1)else(bif((w64 (s2.1+1))==(x0.length:Int))then some (0,s2.2.2.2.1,(w64 (s2.1+1)),s2.2.1,true)else(an_ x0 (w64 (s2.1+1))).bind λy23=>(bif(y23==110)then some (10,s2.2.2.2.1,(w64 ((w64 (s2.1+1))+1)),s2.2.1,s2.2.2.1)else(bif(y23==116)then some (9,s2.2.2.2.1,(w64 ((w64 (s2.1+1))+1)),s2.2.1,s2.2.2.1)else some (y23,s2.2.2.2.1,(w64 ((w64 (s2.1+1))+1)),s2.2.1,s2.2.2.1))))) ) λ(o5:Int×(List Xz)×Int×Int×Bool)=>Option.bind ( (bF_ x0 (Xx.mk o5.2.1 o5.2.2.1 o5.2.2.2.1 o5.2.2.2.2) 45).bind λy24=>(bif y24.1 then Option.bind (bif((w64 (o5.2.2.1+1))==(x0.length:Int))then some true else(an_ x0 (w64 (o5.2.2.1+1))).bind λy25=>some (y25==93) ) λ(y26:Bool)=>Option.bind (bif y26 then some true else(an_ x0 (w64 (o5.2.2.1+1))).bind λy27=>some (y27==45) ) λ(y28:Bool)=>(bif y28 then some (.ret ((Xx.mk y24.2.L_ (w64 (o5.2.2.1+1)) o5.2.2.2.1 true)))else Option.bind ( (an_ x0 (w64 (o5.2.2.1+1))).bind λy29=>(bif(y29 != 92)then some (y29,y24.2.L_,(w64 ((w64 (o5.2.2.1+1))+1)),o5.2.2.2.1,o5.2.2.2.2)else(bif((w64 ((w64 (o5.2.2.1+1))+1))==(x0.length:Int))then some (0,y24.2.L_,(w64 ((w64 (o5.2.2.1+1))+1)),o5.2.2.2.1,true)else(an_ x0 (w64 ((w64 (o5.2.2.1+1))+1))).bind λy30=>(bif(y30==110)then some (10,y24.2.L_,(w64 ((w64 ((w64 (o5.2.2.1+1))+1))+1)),o5.2.2.2.1,o5.2.2.2.2)else(bif(y30==116)then some (9,y24.2.L_,(w64 ((w64 ((w64 (o5.2.2.1+1))+1))+1)),o5.2.2.2.1,o5.2.2.2.2)else some (y30,y24.2.L_,(w64 ((w64 ((w64 (o5.2.2.1+1))+1))+1)),o5.2.2.2.1,o5.2.2.2.2))))) ) λ(o6:Int×(List Xz)×Int×Int×Bool)=>(bif((!o6.2.2.2.2)&&(decide (o6.1<o5.1)))then some (.fall (o6.1,o6.2.1,(maxI (w64 (o5.2.2.1+1)) (w64 (o6.2.2.1-1))),o6.2.2.2.1,true))else some (.fall (o6.1,o6.2.1,o6.2.2.1,o6.2.2.2.1,o6.2.2.2.2))))else some (.fall (o5.1,y24.2.L_,o5.2.2.1,o5.2.2.2.1,o5.2.2.2.2))) ) λ(wo7:Out (Int×(List Xz)×Int×Int×Bool) Xx)=>match wo7 with | .ret r7=>some (.done (.ret r7)) | .fall o7=>(bif o7.2.2.2.2 then some (.done (.ret ((Xx.mk o7.2.1 o7.2.2.1 o7.2.2.2.1 o7.2.2.2.2))))else(room 1 s2.2.2.2.2 [o5.1,o7.1]).bind λy31=>some (.next (o7.2.2.1,o7.2.2.2.1,o7.2.2.2.2,o7.2.1,y31))))else some (.done (.fall (s2.1,s2.2.1,s2.2.2.1,s2.2.2.2.1,s2.2.2.2.2))))
def f7_(x0:Str)(x1:Xx):Option Xx:=Option.bind ( (bF_ x0 (Xx.mk x1.L_ (w64 (x1.At_+1)) x1.N_ x1.Xi) 94).bind λy1=>(bif y1.1 then some ((w64 ((w64 (x1.At_+1))+1)),x1.N_,x1.Xi,y1.2.L_,(Xz.mk 3 0 [] true 0 0))else some ((w64 (x1.At_+1)),x1.N_,x1.Xi,y1.2.L_,(Xz.mk 3 0 [] false 0 0))) ) λ(o1:Int×Int×Bool×(List Xz)×Xz)=>Option.bind (af_ (fM_ x0) BIG (o1.1,o1.2.1,o1.2.2.1,o1.2.2.2.1,[])) λ(wo8:Out (Int×Int×Bool×(List Xz)×(List Int)) Xx)=>match wo8 with | .ret r8=>some r8 | .fall o8=>(bif(o8.1==(x0.length:Int))then some ((Xx.mk o8.2.2.2.1 o8.1 o8.2.1 true))else(aL_ (Xx.mk o8.2.2.2.1 (w64 (o8.1+1)) o8.2.1 o8.2.2.1) (Xz.mk o1.2.2.2.2.Op_ o1.2.2.2.2.C_ (bytesS o8.2.2.2.2) o1.2.2.2.2.Yj o1.2.2.2.2.X_ o1.2.2.2.2.Y_)).bind λy32=>some (y32))
def gI_(x0:Int)(s2:Int):Option (Step Int (Out Unit Bool)):=(bif(decide (s2<([40,41,124,42,43,63,46,94,36,91,92].length:Int)))then(an_ [40,41,124,42,43,63,46,94,36,91,92] s2).bind λy2=>(bif(y2==x0)then some (.done (.ret (true)))else some (.next (w64 (s2+1))))else some (.done (.fall ())))
def gr_(x0:Int):Option Bool:=(af_ (gI_ x0) BIG 0).bind λwo1=>match wo1 with | .ret r1=>some r1 | .fall _=>some (false)
def bf_(f182:Str->Xx->Option Xx)(x0:Str)(x1:Xx):Option Xx:=(an_ x0 x1.At_).bind λy1=>Option.bind ( (bif(y1==40)then(bif(decide (x1.N_>=9))then some (.ret ((Xx.mk x1.L_ x1.At_ x1.N_ true)))else Option.bind (aL_ (Xx.mk x1.L_ (w64 (x1.At_+1)) (w64 (x1.N_+1)) x1.Xi) (Xz.mk 8 0 [] false (w64 (2*(w64 (x1.N_+1)))) 0)) λ(y2:Xx)=>(f182 x0 y2).bind λy3=>(bF_ x0 y3 41).bind λy4=>(bif(!y4.1)then some (.ret ((Xx.mk y4.2.L_ y3.At_ y3.N_ true)))else Option.bind (aL_ (Xx.mk y4.2.L_ y3.At_ y3.N_ y3.Xi) (Xz.mk 8 0 [] false (w64 ((w64 (2*(w64 (x1.N_+1))))+1)) 0)) λ(y5:Xx)=>some (.fall (y5.At_,y5.N_,y5.Xi,y5.L_))))else(bif(y1==46)then Option.bind (aL_ x1 (Xz.mk 2 0 [] false 0 0)) λ(y6:Xx)=>some (.fall (y6.At_,y6.N_,y6.Xi,y6.L_))else(bif(y1==94)then Option.bind (aL_ x1 (Xz.mk 4 0 [] false 0 0)) λ(y7:Xx)=>some (.fall (y7.At_,y7.N_,y7.Xi,y7.L_))else(bif(y1==36)then Option.bind (aL_ x1 (Xz.mk 5 0 [] false 0 0)) λ(y8:Xx)=>some (.fall (y8.At_,y8.N_,y8.Xi,y8.L_))else(bif(y1==91)then(f7_ x0 x1).bind λy9=>some (.ret (y9))else(gr_ y1).bind λy10=>(bif(y10&&(y1 != 92))then some (.ret ((Xx.mk x1.L_ x1.At_ x1.N_ true)))else Option.bind ( (an_ x0 x1.At_).bind λy11=>(bif(y11 != 92)then some (y11,(w64 (x1.At_+1)),x1.N_,x1.Xi,x1.L_)else(bif((w64 (x1.At_+1))==(x0.length:Int))then some (0,(w64 (x1.At_+1)),x1.N_,true,x1.L_)else(an_ x0 (w64 (x1.At_+1))).bind λy12=>(bif(y12==110)then some (10,(w64 ((w64 (x1.At_+1))+1)),x1.N_,x1.Xi,x1.L_)else(bif(y12==116)then some (9,(w64 ((w64 (x1.At_+1))+1)),x1.N_,x1.Xi,x1.L_)else some (y12,(w64 ((w64 (x1.At_+1))+1)),x1.N_,x1.Xi,x1.L_))))) ) λ(o1:Int×Int×Int×Bool×(List Xz))=>(bif o1.2.2.2.1 then some (.ret ((Xx.mk o1.2.2.2.2 o1.2.1 o1.2.2.1 o1.2.2.2.1)))else Option.bind (aL_ (Xx.mk o1.2.2.2.2 o1.2.1 o1.2.2.1 o1.2.2.2.1) (Xz.mk 1 o1.1 [] false 0 0)) λ(y13:Xx)=>some (.ret (y13))))))))) ) λ(wo2:Out (Int×Int×Bool×(List Xz)) Xx)=>match wo2 with | .ret r2=>some r2 | .fall o2=>some ((Xx.mk o2.2.2.2 (w64 (o2.1+1)) o2.2.1 o2.2.2.1))
def dT_(s2:Int×(List Xz)×(List Xz)):Option (Step (Int×(List Xz)×(List Xz)) ((List Xz)×(List Xz))):=(bif(decide (s2.1<(s2.2.1.length:Int)))then(ag_ s2.2.1 s2.1).bind λy6=>Option.bind ( (bif((y6.Op_==6)||(y6.Op_==7))then some (Xz.mk y6.Op_ y6.C_ y6.Yx y6.Yj (w64 (y6.X_+1)) y6.Y_)else some y6) ) λ(o3:Xz)=>Option.bind ( (bif(o3.Op_==6)then some (Xz.mk o3.Op_ o3.C_ o3.Yx o3.Yj o3.X_ (w64 (o3.Y_+1)))else some o3) ) λ(o4:Xz)=>(room 56 s2.2.2 [o4]).bind λy7=>some (.next ((w64 (s2.1+1)),s2.2.1,y7))else some (.done (s2.2.1,s2.2.2)))
def em_(x0:Xx)(x1:Int)(x2:Xz):Option Xx:=(aX_ x0.L_ 0 x1).bind λ_=>(room 56 ([]:List Xz) (x0.L_.take x1.toNat)).bind λy2=>(room 56 y2 [x2]).bind λy3=>(af_ dT_ BIG (x1,x0.L_,y3)).bind λo5=>some ((Xx.mk o5.2 x0.At_ x0.N_ x0.Xi))
def cU_(f182:Str->Xx->Option Xx)(x0:Str)(x1:Xx):Option Xx:=(bf_ f182 x0 x1).bind λy1=>Option.bind ( (bF_ x0 y1 42).bind λy2=>(bif y2.1 then Option.bind (em_ (Xx.mk y2.2.L_ (w64 (y1.At_+1)) y1.N_ y1.Xi) (x1.L_.length:Int) (Xz.mk 6 0 [] false (w64 ((x1.L_.length:Int)+1)) 0)) λ(y3:Xx)=>Option.bind (aL_ y3 (Xz.mk 7 0 [] false (x1.L_.length:Int) 0)) λ(y4:Xx)=>(ag_ y4.L_ (x1.L_.length:Int)).bind λy5=>some (y4.At_,y4.N_,y4.Xi,(y4.L_.set (x1.L_.length:Int).toNat (Xz.mk y5.Op_ y5.C_ y5.Yx y5.Yj y5.X_ (y4.L_.length:Int))))else(bF_ x0 (Xx.mk y2.2.L_ y1.At_ y1.N_ y1.Xi) 43).bind λy6=>(bif y6.1 then Option.bind (aL_ (Xx.mk y6.2.L_ (w64 (y1.At_+1)) y1.N_ y1.Xi) (Xz.mk 6 0 [] false (x1.L_.length:Int) (w64 ((y6.2.L_.length:Int)+1)))) λ(y7:Xx)=>some (y7.At_,y7.N_,y7.Xi,y7.L_)else(bF_ x0 (Xx.mk y6.2.L_ y1.At_ y1.N_ y1.Xi) 63).bind λy8=>(bif y8.1 then Option.bind (em_ (Xx.mk y8.2.L_ (w64 (y1.At_+1)) y1.N_ y1.Xi) (x1.L_.length:Int) (Xz.mk 6 0 [] false (w64 ((x1.L_.length:Int)+1)) 0)) λ(y9:Xx)=>(ag_ y9.L_ (x1.L_.length:Int)).bind λy10=>some (y9.At_,y9.N_,y9.Xi,(y9.L_.set (x1.L_.length:Int).toNat (Xz.mk y10.Op_ y10.C_ y10.Yx y10.Yj y10.X_ (y9.L_.length:Int))))else some (y1.At_,y1.N_,y1.Xi,y8.2.L_)))) ) λ(o1:Int×Int×Bool×(List Xz))=>some ((Xx.mk o1.2.2.2 o1.1 o1.2.1 o1.2.2.1))
def bz_(x0:Str)(f182:Str->Xx->Option Xx)(s2:Int×Int×Bool×(List Xz)):Option (Step (Int×Int×Bool×(List Xz)) (Int×Int×Bool×(List Xz))):=Option.bind (bif((!s2.2.2.1)&&(decide (s2.1<(x0.length:Int))))then(an_ x0 s2.1).bind λy6=>some (y6 != 124)else some false) λ(y7:Bool)=>Option.bind (bif y7 then(an_ x0 s2.1).bind λy8=>some (y8 != 41)else some false) λ(y9:Bool)=>(bif y9 then(cU_ f182 x0 (Xx.mk s2.2.2.2 s2.1 s2.2.1 s2.2.2.1)).bind λy10=>some (.next (y10.At_,y10.N_,y10.Xi,y10.L_))else some (.done (s2.1,s2.2.1,s2.2.2.1,s2.2.2.2)))
def en_(f182:Str->Xx->Option Xx)(x0:Str)(x1:Xx):Option Xx:=(af_ (bz_ x0 f182) BIG (x1.At_,x1.N_,x1.Xi,x1.L_)).bind λo1=>some ((Xx.mk o1.2.2.2 o1.1 o1.2.1 o1.2.2.1))
def dF_(rec0:Str->Xx->Option Xx)(x0:Str)(x1:Xx):Option Xx:=(en_ rec0 x0 x1).bind λy1=>(bF_ x0 y1 124).bind λy2=>(bif(!y2.1)then some ((Xx.mk y2.2.L_ y1.At_ y1.N_ y1.Xi))else Option.bind (em_ (Xx.mk y2.2.L_ (w64 (y1.At_+1)) y1.N_ y1.Xi) (x1.L_.length:Int) (Xz.mk 6 0 [] false (w64 ((x1.L_.length:Int)+1)) 0)) λ(y3:Xx)=>Option.bind (aL_ y3 (Xz.mk 7 0 [] false 0 0)) λ(y4:Xx)=>(ag_ y4.L_ (x1.L_.length:Int)).bind λy5=>(rec0 x0 (Xx.mk (y4.L_.set (x1.L_.length:Int).toNat (Xz.mk y5.Op_ y5.C_ y5.Yx y5.Yj y5.X_ (y4.L_.length:Int))) y4.At_ y4.N_ y4.Xi)).bind λy6=>(ag_ y6.L_ (y3.L_.length:Int)).bind λy7=>some ((Xx.mk (y6.L_.set (y3.L_.length:Int).toNat (Xz.mk y7.Op_ y7.C_ y7.Yx y7.Yj (y6.L_.length:Int) y7.Y_)) y6.At_ y6.N_ y6.Xi)))
def aw_:Nat->Str->Xx->Option Xx | 0=>λ_ _=>none|n+1=>dF_ (aw_ n)
def cV_(x0:Str):Option (Yq×Int×Int):=(bif(decide ((x0.length:Int)>256))then some (((Yq.mk [] 0),0,4))else Option.bind (aL_ (Xx.mk [] 0 0 false) (Xz.mk 8 0 [] false 0 0)) λ(y1:Xx)=>(aw_ BIG x0 y1).bind λy2=>(bif(y2.Xi||(decide (y2.At_<(x0.length:Int))))then some (((Yq.mk [] 0),y2.At_,49))else Option.bind (aL_ y2 (Xz.mk 8 0 [] false 1 0)) λ(y3:Xx)=>Option.bind (aL_ y3 (Xz.mk 9 0 [] false 0 0)) λ(y4:Xx)=>some (((Yq.mk y4.L_ (w64 (y4.N_+1))),0,0))))
def gs_(x0:Xb):Option Bool:=Option.bind (bif(x0.Xe==[])then some true else(hf_ x0.Xe).bind λy1=>some (y1 != 0) ) λ(y2:Bool)=>(bif y2 then some (false)else Option.bind ( (bif(x0.Xr==[105,115])then some (x0.Xr==[105,115])else some (x0.Xr==[105,115,110])) ) λ(o1:Bool)=>(bif o1 then(f6_ x0.Xm).bind λy3=>some ((y3||(x0.Xm==[97,116,116,114])))else(bif(x0.Xr==[115,101,116])then(f6_ x0.Xm).bind λy4=>some (y4)else(bif(x0.Xr==[109,97,116,99,104,101,115])then(cV_ x0.Xe).bind λy5=>(f6_ x0.Xm).bind λy6=>some ((y6&&(y5.2.2==0)))else Option.bind ( (bif(x0.Xr==[97,100,100])then some (x0.Xr==[97,100,100])else some (x0.Xr==[100,101,108,101,116,101])) ) λ(o2:Bool)=>(bif o2 then some ((x0.Xm==[97,116,116,114]))else(bif(x0.Xr==[116,111])then some ((x0.Xm==[112,108,117,109,98]))else some (false)))))))
def hN_(x0:Xh)(s2:Int):Option (Step Int (Out Unit Bool)):=(bif(decide (s2<(x0.Xg.length:Int)))then(ag_ x0.Xg s2).bind λy5=>(gs_ y5).bind λy6=>Option.bind (bif(!y6)then some true else(ag_ x0.Xg s2).bind λy7=>some (!((y7.Xm==[112,108,117,109,98])==(s2==(w64 ((x0.Xg.length:Int)-1))))) ) λ(y8:Bool)=>(bif y8 then some (.done (.ret (false)))else some (.next (w64 (s2+1))))else some (.done (.fall ())))
def h8_(x0:Xh):Option Bool:=(bif((decide ((x0.Xg.length:Int)<1))||(decide ((x0.Xg.length:Int)>32)))then some (false)else(af_ (hN_ x0) BIG 0).bind λwo1=>match wo1 with | .ret r1=>some r1 | .fall _=>some (true))
def eL_(x0:List Xh)(s4:Str×Int)(s6:Str×Int):Option (Step (Str×Int) Str):=(ag_ x0 s4.2).bind λy34=>(bif(decide (s6.2<(y34.Xg.length:Int)))then(ag_ x0 s4.2).bind λy35=>(ag_ y35.Xg s6.2).bind λy36=>(cat s6.1 y36.Xm).bind λy37=>(cat y37 [32]).bind λy38=>(cat y38 y36.Xr).bind λy39=>(cat y39 [32]).bind λy40=>(cat y40 y36.Xe).bind λy41=>(cat y41 [10]).bind λy42=>some (.next (y42,(w64 (s6.2+1))))else some (.done s6.1))
def gt_(x0:List Xh)(s4:Str×Int):Option (Step (Str×Int) (Out Str (Str×Int))):=(bif(decide (s4.2<(x0.length:Int)))then(ag_ x0 s4.2).bind λy22=>(h8_ y22).bind λy23=>(bif(!y23)then some (.done (.ret (([],50))))else Option.bind ( (bif(decide (s4.2>0))then(cat s4.1 [10]).bind λy24=>some y24 else some s4.1) ) λ(o3:Str)=>(af_ (eL_ x0 s4) BIG (o3,0)).bind λo4=>some (.next (o4,(w64 (s4.2+1)))))else some (.done (.fall s4.1)))
def iZ_(x0:List Xh):Option (Str×Int):=(bif(decide ((x0.length:Int)>64))then some (([],22))else Option.bind (af_ (gt_ x0) BIG ([],0)) λ(wo5:Out Str (Str×Int))=>match wo5 with | .ret r5=>some r5 | .fall o5=>some ((o5,0)))
def hg_(x0:Str):Option Bool:=Option.bind (bif(decide ((x0.length:Int)>0))then(an_ x0 0).bind λy1=>some (y1==33)else some false) λ(y2:Bool)=>some (y2)
def gu_(o1:Str)(s2:Int):Option (Step Int (Out Unit Bool)):=(bif(decide (s2<(o1.length:Int)))then(an_ o1 s2).bind λy15=>Option.bind (bif(decide (y15>=97))then(an_ o1 s2).bind λy16=>some (decide (y16<=122))else some false) λ(y17:Bool)=>Option.bind (bif(!y17)then Option.bind (bif(s2==0)then some true else(an_ o1 s2).bind λy18=>Option.bind (bif(decide (y18>=48))then(an_ o1 s2).bind λy19=>some (decide (y19<=57))else some false) λ(y20:Bool)=>Option.bind (bif y20 then some true else(an_ o1 s2).bind λy21=>some (y21==45) ) λ(y22:Bool)=>Option.bind (bif y22 then some true else(an_ o1 s2).bind λy23=>some (y23==95) ) λ(y24:Bool)=>some (!y24) ) λ(y25:Bool)=>some y25 else some false) λ(y26:Bool)=>(bif y26 then some (.done (.ret (false)))else some (.next (w64 (s2+1))))else some (.done (.fall ())))
def i0_(x0:Str):Option Bool:=Option.bind ( (hg_ x0).bind λy1=>(bif y1 then(aX_ x0 1 (x0.length:Int)).bind λy2=>some y2 else some x0) ) λ(o1:Str)=>(af_ (gu_ o1) BIG 0).bind λwo2=>match wo2 with | .ret r2=>some r2 | .fall _=>some (((decide ((o1.length:Int)>=1))&&(decide ((o1.length:Int)<=32))))
def fN_(x0:Str)(s2:Int):Option (Step Int (Out Unit Bool)):=(bif(decide (s2<(x0.length:Int)))then(an_ x0 s2).bind λy6=>Option.bind (bif(y6==0)then some true else(an_ x0 s2).bind λy7=>some (y7==10) ) λ(y8:Bool)=>Option.bind (bif y8 then some true else(an_ x0 s2).bind λy9=>some (y9==13) ) λ(y10:Bool)=>(bif y10 then some (.done (.ret (false)))else some (.next (w64 (s2+1))))else some (.done (.fall ())))
def h9_(x0:Str):Option Bool:=(af_ (fN_ x0) BIG 0).bind λwo1=>match wo1 with | .ret r1=>some r1 | .fall _=>some (true)
def hh_(x0:List Xk)(x1:Xk)(s2:Int):Option (Step Int (Out Unit Int)):=(bif(decide (s2<(x0.length:Int)))then(ag_ x0 s2).bind λy5=>(bif(y5.Xy==x1.Xy)then some (.done (.ret (7)))else some (.next (w64 (s2+1))))else some (.done (.fall ())))
def jS_(x0:List Xk)(x1:Xk):Option Int:=(bif(decide ((x0.length:Int)>=32))then some (22)else(i0_ x1.Xy).bind λy1=>(bif(!y1)then some (6)else Option.bind (bif(x1.Xo&&(!(x1.Xp==[])))then some true else(h9_ x1.Xp).bind λy2=>some (!y2) ) λ(y3:Bool)=>(bif y3 then some (2)else(bif(decide ((x1.Xp.length:Int)>1024))then some (4)else(af_ (hh_ x0 x1) BIG 0).bind λwo1=>match wo1 with | .ret r1=>some r1 | .fall _=>some (0)))))
def fO_(x0:List Xk)(s2:Int):Option (Step Int (Out Unit Int)):=(bif(decide (s2<(x0.length:Int)))then(aX_ x0 0 s2).bind λy4=>(ag_ x0 s2).bind λy5=>(jS_ y4 y5).bind λy6=>(bif(y6 != 0)then some (.done (.ret (y6)))else some (.next (w64 (s2+1))))else some (.done (.fall ())))
def f8_(x0:List Xk):Option Int:=(af_ (fO_ x0) BIG 0).bind λwo1=>match wo1 with | .ret r1=>some r1 | .fall _=>some (0)
def fP_(s2:Int×(List Str)):Option (Step (Int×(List Str)) (Out Unit Int)):=(bif(decide (s2.1<(s2.2.length:Int)))then(ag_ s2.2 s2.1).bind λy3=>(hf_ y3).bind λy4=>(bif(y4 != 0)then some (.done (.ret (y4)))else some (.next ((w64 (s2.1+1)),s2.2)))else some (.done (.fall ())))
def fQ_(x0:Xw)(s4:Int):Option (Step Int (Out Unit Int)):=(bif(decide (s4<(x0.Xn.length:Int)))then(ag_ x0.Xn s4).bind λy7=>(bif y7.Xo then some (.done (.ret (2)))else some (.next (w64 (s4+1))))else some (.done (.fall ())))
def ia_(x0:Xw):Option Int:=(af_ fP_ BIG (0,[x0.Xu,x0.Xa,x0.Yz,x0.Xd])).bind λwo1=>match wo1 with | .ret r1=>some r1 | .fall _=>(f8_ x0.Xn).bind λy5=>(bif(y5 != 0)then some (y5)else(af_ (fQ_ x0) BIG 0).bind λwo2=>match wo2 with | .ret r2=>some r2 | .fall _=>(bif(decide ((x0.Xt.length:Int)>65536))then some (4)else some (0)))
def eo_(x0:Str)(s2:Str×Bool×Int):Option (Step (Str×Bool×Int) (Str×Bool)):=(bif(decide (s2.2.2<(x0.length:Int)))then Option.bind ( Option.bind (bif s2.2.1 then some true else(an_ x0 s2.2.2).bind λy11=>some (y11==32) ) λ(y12:Bool)=>Option.bind (bif y12 then some true else(an_ x0 s2.2.2).bind λy13=>some (y13==9) ) λ(y14:Bool)=>Option.bind (bif y14 then some true else(an_ x0 s2.2.2).bind λy15=>some (y15==39) ) λ(y16:Bool)=>(aX_ x0 s2.2.2 (w64 (s2.2.2+1))).bind λy17=>(cat s2.1 y17).bind λy18=>(an_ x0 s2.2.2).bind λy19=>(bif(y19==39)then(cat y18 [39]).bind λy20=>some (y20,y16)else some (y18,y16)) ) λ(o2:Str×Bool)=>some (.next (o2.1,o2.2,(w64 (s2.2.2+1))))else some (.done (s2.1,s2.2.1)))
def ib_(x0:Str):Option Str:=Option.bind (af_ (eo_ x0) BIG ([],(x0==[]),0)) λ(o3:Str×Bool)=>(bif o3.2 then(cat [39] o3.1).bind λy21=>(cat y21 [39]).bind λy22=>some (y22)else some (x0))
def ep_(x0:List Xk)(s2:Str×Int):Option (Step (Str×Int) Str):=(bif(decide (s2.2<(x0.length:Int)))then Option.bind ( Option.bind ( (bif(decide (s2.2>0))then(cat s2.1 [32]).bind λy13=>some y13 else some s2.1) ) λ(o3:Str)=>(ag_ x0 s2.2).bind λy14=>(bif y14.Xo then(ag_ x0 s2.2).bind λy15=>(cat o3 y15.Xy).bind λy16=>(cat y16 [63]).bind λy17=>some y17 else(ag_ x0 s2.2).bind λy18=>(cat o3 y18.Xy).bind λy19=>(cat y19 [61]).bind λy20=>(ag_ x0 s2.2).bind λy21=>(ib_ y21.Xp).bind λy22=>(cat y20 y22).bind λy23=>some y23) ) λ(o4:Str)=>some (.next (o4,(w64 (s2.2+1))))else some (.done s2.1))
def ic_(x0:List Xk):Option (Str×Int):=(f8_ x0).bind λy1=>(bif(y1 != 0)then some (([],y1))else Option.bind (af_ (ep_ x0) BIG ([],0)) λ(o5:Str)=>some ((o5,0)))
def nR_(x0:Int):Option Bool:=some ((((x0==8)||(x0==10))||(x0==16)))
def cO_(x1:Int)(s2:Int×Str):Option (Step (Int×Str) Str):=(bif((decide (s2.1<0))||(s2.2==[]))then(remI s2.1 x1).bind λy5=>(aX_ [48,49,50,51,52,53,54,55,56,57,97,98,99,100,101,102] (w64 (0-y5)) (w64 ((w64 (0-y5))+1))).bind λy6=>(cat y6 s2.2).bind λy7=>(quoI .i64 s2.1 x1).bind λy8=>some (.next (y8,y7))else some (.done s2.2))
def hi_(x0:Int)(x1:Int):Option Str:=Option.bind (af_ (cO_ x1) BIG (x0,[])) λ(o1:Str)=>some (o1)
def i1_(x0:Int)(x1:Int):Option Str:=(nR_ x1).bind λy1=>(bif(!y1)then some ([])else(bif(decide (x0<0))then(hi_ x0 x1).bind λy2=>(cat [45] y2).bind λy3=>some (y3)else(hi_ (w64 (0-x0)) x1).bind λy4=>some (y4)))
def id_(x0:Xw):Option (Str×Int):=(ia_ x0).bind λy1=>(bif(y1 != 0)then some (([],y1))else(ic_ x0.Xn).bind λy2=>(cat x0.Xu [10]).bind λy3=>(cat y3 x0.Xa).bind λy4=>(cat y4 [10]).bind λy5=>(cat y5 x0.Yz).bind λy6=>(cat y6 [10]).bind λy7=>(cat y7 x0.Xd).bind λy8=>(cat y8 [10]).bind λy9=>(cat y9 y2.1).bind λy10=>(cat y10 [10]).bind λy11=>(i1_ (x0.Xt.length:Int) 10).bind λy12=>(cat y11 y12).bind λy13=>(cat y13 [10]).bind λy14=>(cat y14 x0.Xt).bind λy15=>some ((y15,0)))
def fR_(y11:Xv)(s6:Int):Option (Step Int (Out Unit Bool)):=(bif(decide (s6<(y11.Xf.length:Int)))then(ag_ y11.Xf s6).bind λy18=>(id_ y18).bind λy19=>(bif((y19.2 != 0)||(decide ((y19.1.length:Int)>65536)))then some (.done (.ret (false)))else some (.next (w64 (s6+1))))else some (.done (.fall ())))
def fS_(x0:Xj)(s4:Int):Option (Step Int (Out Unit Bool)):=(bif(decide (s4<(x0.Xq.length:Int)))then(ag_ x0.Xq s4).bind λy11=>(el_ y11.Xy).bind λy12=>Option.bind (bif(!y12)then some true else Option.bind (bif(decide (s4>0))then(ag_ x0.Xq (w64 (s4-1))).bind λy13=>some (!(Op.bytesLess y13.Xy y11.Xy))else some false) λ(y14:Bool)=>some y14 ) λ(y15:Bool)=>(bif((((y15||(decide (y11.Xl<0)))||(decide (y11.Xl>9007199254740991)))||(decide ((y11.Xf.length:Int)>64)))||((y11.Xl==0)&&(decide ((y11.Xf.length:Int)>0))))then some (.done (.ret (false)))else(af_ (fR_ y11) BIG 0).bind λwo2=>match wo2 with | .ret r2=>some (.done (.ret r2)) | .fall _=>some (.next (w64 (s4+1))))else some (.done (.fall ())))
def d8_(x0:Xj):Option Bool:=(iZ_ x0.Xc).bind λy1=>(bif((y1.2 != 0)||(decide ((x0.Xq.length:Int)>16)))then some (false)else(af_ (fS_ x0) BIG 0).bind λwo3=>match wo3 with | .ret r3=>some r3 | .fall _=>some (true))
def cH_(x0:Xj):Option Bool:=(d7_ x0).bind λy1=>(bif(!y1)then(br_).bind λy2=>some (y2)else(eK_ x0).bind λy3=>(d8_ x0).bind λy4=>Option.bind (bif(y3==y4)then(br_).bind λy5=>some y5 else some false) λ(y6:Bool)=>some (y6))
def eq_(x0:Xj)(x1:Int):Option Bool:=some (((decide (x1>=1))&&(decide (x1<(w64 (4+(x0.Xq.length:Int)))))))
def bg_(x0:Xj)(x1:Int):Option Xs:=Option.bind ( (bif(x1==1)then some (Xs.mk 5 0 (Yk.mk 128 0 x1) 2147484013 0 0 0 [47] [115,121,115] [115,121,115] [])else(bif(x1==2)then some (Xs.mk 5 0 (Yk.mk 0 0 x1) 438 0 0 0 [114,117,108,101,115] [115,121,115] [115,121,115] [])else(bif(x1==3)then some (Xs.mk 5 0 (Yk.mk 0 0 x1) 146 0 0 0 [115,101,110,100] [115,121,115] [115,121,115] [])else(ag_ x0.Xq (w64 (x1-4))).bind λy1=>some (Xs.mk 5 0 (Yk.mk 0 0 x1) 292 0 0 0 y1.Xy [115,121,115] [115,121,115] [])))) ) λ(o1:Xs)=>some (o1)
def dU_(x0:Xj)(s2:Int×(List Xs)):Option (Step (Int×(List Xs)) (List Xs)):=(bif(decide (s2.1<(w64 (4+(x0.Xq.length:Int)))))then Option.bind ( (bif(decide (s2.1>1))then(bg_ x0 s2.1).bind λy4=>(room 136 s2.2 [y4]).bind λy5=>some y5 else some s2.2) ) λ(o2:(List Xs))=>some (.next ((w64 (s2.1+1)),o2))else some (.done s2.2))
def dr_(x0:Xj)(x1:Int):Option ((List Xs)×Int):=(bW_ x0 x1).bind λy1=>(bif(!y1)then some (([],8))else(bif(x1 != 1)then some (([],9))else(af_ (dU_ x0) BIG (0,[])).bind λo3=>some ((o3,0))))
def cP_(y5:(List Xs)×Int)(x0:Xj)(s2:Int×(List Xs)):Option (Step (Int×(List Xs)) (Out Unit Bool)):=(bif(decide (s2.1<(y5.1.length:Int)))then(ag_ s2.2 s2.1).bind λy9=>(cr_ x0 1 y9.Xy).bind λy10=>(bif(y10.2 != 0)then some (.done (.ret (false)))else(ag_ s2.2 s2.1).bind λy11=>(bif(y10.1 != y11.Yv.Yh)then some (.done (.ret (false)))else some (.next ((w64 (s2.1+1)),s2.2))))else some (.done (.fall ())))
def cI_(x0:Xj):Option Bool:=(d7_ x0).bind λy1=>Option.bind (bif(!y1)then some true else(d8_ x0).bind λy2=>some (!y2) ) λ(y3:Bool)=>(bif y3 then(br_).bind λy4=>some (y4)else(dr_ x0 1).bind λy5=>(bif((y5.2 != 0)||((y5.1.length:Int) != (w64 (2+(x0.Xq.length:Int)))))then some (false)else(af_ (cP_ y5 x0) BIG (0,y5.1)).bind λwo1=>match wo1 with | .ret r1=>some r1 | .fall _=>(br_).bind λy12=>some (y12)))
def eM_(x0:Xj)(x2:Str)(s2:Int):Option (Step Int (Out Unit (Int×Int))):=(bif(decide (s2<(x0.Xq.length:Int)))then(ag_ x0.Xq s2).bind λy3=>(bif(y3.Xy==x2)then some (.done (.ret (((w64 (4+s2)),0))))else some (.next (w64 (s2+1))))else some (.done (.fall ())))
def i2_(x0:Xj)(x1:Int)(x2:Str):Option (Int×Int):=(eq_ x0 x1).bind λy1=>(bif(!y1)then some ((0,8))else(bif(x1 != 1)then some ((0,9))else(bif(x2==[46,46])then some ((1,0))else(bif(x2==[114,117,108,101,115])then some ((2,0))else(bif(x2==[115,101,110,100])then some ((3,0))else(af_ (eM_ x0 x2) BIG 0).bind λwo1=>match wo1 with | .ret r1=>some r1 | .fall _=>some ((0,8)))))))
def fh_(x0:Xj)(x1:Int):Option (Xs×Int):=(bW_ x0 x1).bind λy1=>(bif(!y1)then some (((Xs.mk 0 0 (Yk.mk 0 0 0) 0 0 0 0 [] [] [] []),8))else(bg_ x0 x1).bind λy2=>some ((y2,0)))
def dV_(x0:Xj)(x1:Int):Option (Xs×Int):=(eq_ x0 x1).bind λy1=>(bif(!y1)then some (((Xs.mk 0 0 (Yk.mk 0 0 0) 0 0 0 0 [] [] [] []),8))else Option.bind ( (bif(x1==1)then some (Xs.mk 5 0 (Yk.mk 128 0 x1) 2147484013 0 0 0 [47] [115,121,115] [115,121,115] [])else(bif(x1==2)then some (Xs.mk 5 0 (Yk.mk 0 0 x1) 438 0 0 0 [114,117,108,101,115] [115,121,115] [115,121,115] [])else(bif(x1==3)then some (Xs.mk 5 0 (Yk.mk 0 0 x1) 146 0 0 0 [115,101,110,100] [115,121,115] [115,121,115] [])else(ag_ x0.Xq (w64 (x1-4))).bind λy2=>some (Xs.mk 5 0 (Yk.mk 0 0 x1) 292 0 0 0 y2.Xy [115,121,115] [115,121,115] [])))) ) λ(o1:Xs)=>some ((o1,0)))
def eN_(x0:Xj)(s2:Int×(List Xs)):Option (Step (Int×(List Xs)) (List Xs)):=(bif(decide (s2.1<(w64 (4+(x0.Xq.length:Int)))))then(dV_ x0 s2.1).bind λy4=>(room 136 s2.2 [y4.1]).bind λy5=>some (.next ((w64 (s2.1+1)),y5))else some (.done s2.2))
def i3_(x0:Xj)(x1:Int):Option ((List Xs)×Int):=(eq_ x0 x1).bind λy1=>(bif(!y1)then some (([],8))else(bif(x1 != 1)then some (([],9))else Option.bind (af_ (eN_ x0) BIG (2,[])) λ(o1:(List Xs))=>some ((o1,0))))
def ci_(y9:(List Xs)×Int)(s2:Int×(List Xs)×(List Xs)):Option (Step (Int×(List Xs)×(List Xs)) (Out Unit Bool)):=(bif(decide (s2.1<(y9.1.length:Int)))then(ag_ s2.2.1 s2.1).bind λy13=>(ag_ s2.2.2 s2.1).bind λy14=>(bif(!(decide (y13=y14)))then some (.done (.ret (false)))else some (.next ((w64 (s2.1+1)),s2.2.1,s2.2.2)))else some (.done (.fall ())))
def cJ_(x0:Xj)(x1:Int)(x2:Str):Option Bool:=(d7_ x0).bind λy1=>Option.bind (bif((!y1)||(decide ((x2.length:Int)>1000)))then some true else(d8_ x0).bind λy2=>some (!y2) ) λ(y3:Bool)=>(bif y3 then(br_).bind λy4=>some (y4)else(cr_ x0 x1 x2).bind λy5=>(i2_ x0 x1 x2).bind λy6=>(fh_ x0 x1).bind λy7=>(dV_ x0 x1).bind λy8=>(dr_ x0 x1).bind λy9=>(i3_ x0 x1).bind λy10=>(bif((y9.1.length:Int) != (y10.1.length:Int))then some (false)else(af_ (ci_ y9) BIG (0,y9.1,y10.1)).bind λwo1=>match wo1 with | .ret r1=>some r1 | .fall _=>Option.bind (bif(((((y5.1==y6.1)&&(y5.2==y6.2))&&(decide (y7.1=y8.1)))&&(y7.2==y8.2))&&(y9.2==y10.2))then(br_).bind λy15=>some y15 else some false) λ(y16:Bool)=>some (y16)))
def teS:Nat->Type | 0=>Xb | 1=>Xh | 2=>Xk | 3=>Xw | 4=>Xv | 5=>Xj | 6=>Xz | 7=>Yq | 8=>regex_parser | 9=>plumb_state | 10=>regex_thread | 11=>regex_machine | 12=>Xx | 13=>Zq | 14=>Yw | 15=>Yu | 16=>Yr | 17=>Yo | 18=>Zz | 19=>Yk | 20=>Xs | 21=>Yt|_=>Int
def teCs:Nat->List Ty | 0=>[.str,.str,.str] | 1=>[.sl (.st 0)] | 2=>[.str,.str,.bool] | 3=>[.str,.str,.str,.str,.sl (.st 2),.str] | 4=>[.str,.sl (.st 3),.int .i64] | 5=>[.sl (.st 1),.sl (.st 4)] | 6=>[.int .i64,.int .u8,.str,.bool,.int .i64,.int .i64] | 7=>[.sl (.st 6),.int .i64] | 8=>[.str,.int .i64,.int .i64,.sl (.st 6),.int .i64] | 9=>[.str,.str,.str,.str,.sl (.st 2),.str,.str,.sl (.int .i64),.str] | 10=>[.int .i64,.sl (.int .i64)] | 11=>[.sl (.st 6),.int .i64,.str,.int .i64,.sl (.int .i64),.sl (.st 10)] | 12=>[.sl (.st 6),.int .i64,.int .i64,.bool] | 13=>[.int .i64,.int .i64,.int .i64,.int .i64,.str,.str,.str,.str,.str,.sl (.st 2),.str] | 14=>[.int .i64,.str,.bool,.int .i64] | 15=>[.str,.sl (.int .i64)] | 16=>[.int .i64,.sl (.int .i64)] | 17=>[.sl (.st 16),.sl .bool] | 18=>[.sl (.int .i64),.int .i64,.int .i64,.bool] | 19=>[.int .i64,.int .i64,.int .i64] | 20=>[.int .i64,.int .i64,.int .i64,.int .i64,.int .i64,.int .i64,.int .i64,.int .i64,.int .i64,.str,.str,.str,.str] | 21=>[.int .u64,.int .u64,.int .u64,.int .u64,.int .u64,.int .u64,.int .u64,.int .u64,.int .u64,.int .u64,.int .u64,.int .u64,.int .u64,.int .u64,.int .u64,.int .u64,.int .u64,.int .u64,.int .u64,.int .u64]|_=>[.int .i64]
def teUn:(n:Nat)->teS n->HL teS (teCs n) | 0,d=>(d.Xm,d.Xr,d.Xe,()) | 1,d=>(d.Xg,()) | 2,d=>(d.Xy,d.Xp,d.Xo,()) | 3,d=>(d.Xu,d.Xa,d.Yz,d.Xd,d.Xn,d.Xt,()) | 4,d=>(d.Xy,d.Xf,d.Xl,()) | 5,d=>(d.Xc,d.Xq,()) | 6,d=>(d.Op_,d.C_,d.Yx,d.Yj,d.X_,d.Y_,()) | 7,d=>(d.Yg,d.Yp,()) | 8,d=>(d.s_,d.at_,d.groups_,d.code_,d.bad_,()) | 9,d=>(d.m_.Xu,d.m_.Xa,d.m_.Yz,d.m_.Xd,d.m_.Xn,d.m_.Xt,d.text_,d.caps_,d.port_,()) | 10,d=>(d.at_,d.caps_,()) | 11,d=>(d.r_.Yg,d.r_.Yp,d.s_,d.pos_,d.visited_,d.list_,()) | 12,d=>(d.L_,d.At_,d.N_,d.Xi,()) | 13,d=>(d.Zk,d.Id_,d.Zx,d.N_,d.Xt,d.Yi.Xu,d.Yi.Xa,d.Yi.Yz,d.Yi.Xd,d.Yi.Xn,d.Yi.Xt,()) | 14,d=>(d.N_,d.S_,d.Yb,d.Yl,()) | 15,d=>(d.S_,d.At_,()) | 16,d=>(d.K_,d.At_,()) | 17,d=>(d.L_,d.Zv,()) | 18,d=>(d.At_,d.Zj,d.Zw,d.Ok_,()) | 19,d=>(d.Xd,d.Yn,d.Yh,()) | 20,d=>(d.Xd,d.Ys,d.Yv.Xd,d.Yv.Yn,d.Yv.Yh,d.Yc,d.Yf,d.Ym,d.Yy,d.Xy,d.Ya,d.Ye,d.Yd,()) | 21,d=>(d.a0_,d.a1_,d.a2_,d.a3_,d.a4_,d.a5_,d.a6_,d.a7_,d.a8_,d.a9_,d.Zy,d.Zh,d.Zg,d.Zf,d.Zm,d.Zn,d.Zp,d.Zb,d.Zc,d.Zd,())|_+22,d=>(d,())
def teBd:(n:Nat)->HL teS (teCs n)->teS n | 0,h=>⟨h.1,h.2.1,h.2.2.1⟩ | 1,h=>⟨h.1⟩ | 2,h=>⟨h.1,h.2.1,h.2.2.1⟩ | 3,h=>⟨h.1,h.2.1,h.2.2.1,h.2.2.2.1,h.2.2.2.2.1,h.2.2.2.2.2.1⟩ | 4,h=>⟨h.1,h.2.1,h.2.2.1⟩ | 5,h=>⟨h.1,h.2.1⟩ | 6,h=>⟨h.1,h.2.1,h.2.2.1,h.2.2.2.1,h.2.2.2.2.1,h.2.2.2.2.2.1⟩ | 7,h=>⟨h.1,h.2.1⟩ | 8,h=>⟨h.1,h.2.1,h.2.2.1,h.2.2.2.1,h.2.2.2.2.1⟩ | 9,h=>⟨⟨h.1,h.2.1,h.2.2.1,h.2.2.2.1,h.2.2.2.2.1,h.2.2.2.2.2.1⟩,h.2.2.2.2.2.2.1,h.2.2.2.2.2.2.2.1,h.2.2.2.2.2.2.2.2.1⟩ | 10,h=>⟨h.1,h.2.1⟩ | 11,h=>⟨⟨h.1,h.2.1⟩,h.2.2.1,h.2.2.2.1,h.2.2.2.2.1,h.2.2.2.2.2.1⟩ | 12,h=>⟨h.1,h.2.1,h.2.2.1,h.2.2.2.1⟩ | 13,h=>⟨h.1,h.2.1,h.2.2.1,h.2.2.2.1,h.2.2.2.2.1,⟨h.2.2.2.2.2.1,h.2.2.2.2.2.2.1,h.2.2.2.2.2.2.2.1,h.2.2.2.2.2.2.2.2.1,h.2.2.2.2.2.2.2.2.2.1,h.2.2.2.2.2.2.2.2.2.2.1⟩⟩ | 14,h=>⟨h.1,h.2.1,h.2.2.1,h.2.2.2.1⟩ | 15,h=>⟨h.1,h.2.1⟩ | 16,h=>⟨h.1,h.2.1⟩ | 17,h=>⟨h.1,h.2.1⟩ | 18,h=>⟨h.1,h.2.1,h.2.2.1,h.2.2.2.1⟩ | 19,h=>⟨h.1,h.2.1,h.2.2.1⟩ | 20,h=>⟨h.1,h.2.1,⟨h.2.2.1,h.2.2.2.1,h.2.2.2.2.1⟩,h.2.2.2.2.2.1,h.2.2.2.2.2.2.1,h.2.2.2.2.2.2.2.1,h.2.2.2.2.2.2.2.2.1,h.2.2.2.2.2.2.2.2.2.1,h.2.2.2.2.2.2.2.2.2.2.1,h.2.2.2.2.2.2.2.2.2.2.2.1,h.2.2.2.2.2.2.2.2.2.2.2.2.1⟩ | 21,h=>⟨h.1,h.2.1,h.2.2.1,h.2.2.2.1,h.2.2.2.2.1,h.2.2.2.2.2.1,h.2.2.2.2.2.2.1,h.2.2.2.2.2.2.2.1,h.2.2.2.2.2.2.2.2.1,h.2.2.2.2.2.2.2.2.2.1,h.2.2.2.2.2.2.2.2.2.2.1,h.2.2.2.2.2.2.2.2.2.2.2.1,h.2.2.2.2.2.2.2.2.2.2.2.2.1,h.2.2.2.2.2.2.2.2.2.2.2.2.2.1,h.2.2.2.2.2.2.2.2.2.2.2.2.2.2.1,h.2.2.2.2.2.2.2.2.2.2.2.2.2.2.2.1,h.2.2.2.2.2.2.2.2.2.2.2.2.2.2.2.2.1,h.2.2.2.2.2.2.2.2.2.2.2.2.2.2.2.2.2.1,h.2.2.2.2.2.2.2.2.2.2.2.2.2.2.2.2.2.2.1,h.2.2.2.2.2.2.2.2.2.2.2.2.2.2.2.2.2.2.2.1⟩|_+22,h=>h.1
def teDeq:(n:Nat)->Option (DecidableEq (teS n)) | 0=>some (inferInstanceAs (DecidableEq Xb)) | 2=>some (inferInstanceAs (DecidableEq Xk)) | 14=>some (inferInstanceAs (DecidableEq Yw)) | 20=>some (inferInstanceAs (DecidableEq Xs))|_=>none
def teTy(n:Nat):Option Ty:=au_ n [(2,.int .i64),(3,.int .i64),(4,.bool),(5,.int .u8),(6,.int .u8),(9,.str),(10,.str),(11,.str),(12,.int .u64),(21,.int .i32),(22,.sl .str),(24,.sl (.st 1)),(25,.sl (.st 4)),(27,.st 5),(28,.int .i64),(34,.sl (.st 3)),(37,.sl (.st 2)),(39,.st 3),(47,.st 13),(49,.st 14),(53,.sl (.st 20)),(59,.st 19),(61,.st 20),(66,.st 4),(76,.sl (.st 0)),(78,.st 1),(80,.st 0),(87,.st 2),(105,.int .u64),(108,.sl (.int .u8)),(138,.int .i64),(145,.int .u32),(147,.int .u64),(155,.sl (.int .i64)),(157,.st 9),(163,.sl (.st 6)),(165,.st 7),(173,.int .u64),(191,.st 15),(199,.st 8),(202,.st 6),(210,.st 12),(234,.st 18),(245,.st 21),(252,.sl (.st 10)),(254,.st 11),(259,.st 10),(261,.sl (.st 16)),(262,.sl .bool),(264,.st 17),(268,.st 16),(300,.int .i32)]
abbrev globPT:Ty := .st 21
def teGl:Nat->Option (Σ t:Ty,Den teS t) | 1=>some ⟨.st 21,globP⟩|_=>none
def teSb(n:Nat):Bool:=Nat.beq n 110
def te:TE:=⟨teS,teCs,teUn,teBd,λn x=>by match n with | 0=>rfl | 1=>rfl | 2=>rfl | 3=>rfl | 4=>rfl | 5=>rfl | 6=>rfl | 7=>rfl | 8=>rfl | 9=>rfl | 10=>rfl | 11=>rfl | 12=>rfl | 13=>rfl | 14=>rfl | 15=>rfl | 16=>rfl | 17=>rfl | 18=>rfl | 19=>rfl | 20=>rfl | 21=>rfl|n+22=>rfl,λn x=>by match n with | 0=>rfl | 1=>rfl | 2=>rfl | 3=>rfl | 4=>rfl | 5=>rfl | 6=>rfl | 7=>rfl | 8=>rfl | 9=>rfl | 10=>rfl | 11=>rfl | 12=>rfl | 13=>rfl | 14=>rfl | 15=>rfl | 16=>rfl | 17=>rfl | 18=>rfl | 19=>rfl | 20=>rfl | 21=>rfl|n+22=>rfl,teDeq,teTy,λn=>by match n with | 0=>exact List.cons_ne_nil _ _ | 1=>exact List.cons_ne_nil _ _ | 2=>exact List.cons_ne_nil _ _ | 3=>exact List.cons_ne_nil _ _ | 4=>exact List.cons_ne_nil _ _ | 5=>exact List.cons_ne_nil _ _ | 6=>exact List.cons_ne_nil _ _ | 7=>exact List.cons_ne_nil _ _ | 8=>exact List.cons_ne_nil _ _ | 9=>exact List.cons_ne_nil _ _ | 10=>exact List.cons_ne_nil _ _ | 11=>exact List.cons_ne_nil _ _ | 12=>exact List.cons_ne_nil _ _ | 13=>exact List.cons_ne_nil _ _ | 14=>exact List.cons_ne_nil _ _ | 15=>exact List.cons_ne_nil _ _ | 16=>exact List.cons_ne_nil _ _ | 17=>exact List.cons_ne_nil _ _ | 18=>exact List.cons_ne_nil _ _ | 19=>exact List.cons_ne_nil _ _ | 20=>exact List.cons_ne_nil _ _ | 21=>exact List.cons_ne_nil _ _|n+22=>exact List.cons_ne_nil _ _,teGl,teSb⟩
theorem ol_(x y:Yw):(x=y)=(x.N_=y.N_/\x.S_=y.S_/\x.Yb=y.Yb/\x.Yl=y.Yl):=by cases x;cases y;simp
theorem om_(x y:Yw):((x.N_==y.N_)&&(((⟨x.S_.toArray⟩:ByteArray).toList==(⟨y.S_.toArray⟩:ByteArray).toList)&&((x.Yb==y.Yb)&&((x.Yl==y.Yl)&&true))))=true↔x=y:=by simp[ol_]
theorem mN_:aH_ Tryz.prog te 49 14:=by
 intro d x y l m hl hm;obtain rfl:=qSj hl;obtain rfl:=qSj hm;refine ne_ 10 rfl (by kernel_rfl) (b:=((x.N_==y.N_)&&(((⟨x.S_.toArray⟩:ByteArray).toList==(⟨y.S_.toArray⟩:ByteArray).toList)&&((x.Yb==y.Yb)&&((x.Yl==y.Yl)&&true))))) (by kernel_rfl) ?_;rw[Bool.eq_iff_iff];exact(om_ x y).trans (@decide_eq_true_iff _ (d x y)).symm
theorem api_Qid_ext(x y:Yk):(x=y)=(x.Xd=y.Xd/\x.Yn=y.Yn/\x.Yh=y.Yh):=by cases x;cases y;simp
theorem api_Dir_ext(x y:Xs):(x=y)=(x.Xd=y.Xd/\x.Ys=y.Ys/\x.Yv=y.Yv/\x.Yc=y.Yc/\x.Yf=y.Yf/\x.Ym=y.Ym/\x.Yy=y.Yy/\x.Xy=y.Xy/\x.Ya=y.Ya/\x.Ye=y.Ye/\x.Yd=y.Yd):=by cases x;cases y;simp
theorem eqd_api_Dir(x y:Xs):((x.Xd==y.Xd)&&((x.Ys==y.Ys)&&(((x.Yv.Xd==y.Yv.Xd)&&((x.Yv.Yn==y.Yv.Yn)&&((x.Yv.Yh==y.Yv.Yh)&&true)))&&((x.Yc==y.Yc)&&((x.Yf==y.Yf)&&((x.Ym==y.Ym)&&((x.Yy==y.Yy)&&(((⟨x.Xy.toArray⟩:ByteArray).toList==(⟨y.Xy.toArray⟩:ByteArray).toList)&&(((⟨x.Ya.toArray⟩:ByteArray).toList==(⟨y.Ya.toArray⟩:ByteArray).toList)&&(((⟨x.Ye.toArray⟩:ByteArray).toList==(⟨y.Ye.toArray⟩:ByteArray).toList)&&(((⟨x.Yd.toArray⟩:ByteArray).toList==(⟨y.Yd.toArray⟩:ByteArray).toList)&&true)))))))))))=true↔x=y:=by simp[api_Dir_ext,api_Qid_ext]
theorem rv_:aH_ Tryz.prog te 61 20:=by
 intro d x y l m hl hm;obtain rfl:=qSj hl;obtain rfl:=qSj hm;refine ne_ 10 rfl (by kernel_rfl) (b:=((x.Xd==y.Xd)&&((x.Ys==y.Ys)&&(((x.Yv.Xd==y.Yv.Xd)&&((x.Yv.Yn==y.Yv.Yn)&&((x.Yv.Yh==y.Yv.Yh)&&true)))&&((x.Yc==y.Yc)&&((x.Yf==y.Yf)&&((x.Ym==y.Ym)&&((x.Yy==y.Yy)&&(((⟨x.Xy.toArray⟩:ByteArray).toList==(⟨y.Xy.toArray⟩:ByteArray).toList)&&(((⟨x.Ya.toArray⟩:ByteArray).toList==(⟨y.Ya.toArray⟩:ByteArray).toList)&&(((⟨x.Ye.toArray⟩:ByteArray).toList==(⟨y.Ye.toArray⟩:ByteArray).toList)&&(((⟨x.Yd.toArray⟩:ByteArray).toList==(⟨y.Yd.toArray⟩:ByteArray).toList)&&true)))))))))))) (by kernel_rfl) ?_;rw[Bool.eq_iff_iff]
 exact(eqd_api_Dir x y).trans (@decide_eq_true_iff _ (d x y)).symm
theorem po_(x y:Xb):(x=y)=(x.Xm=y.Xm/\x.Xr=y.Xr/\x.Xe=y.Xe):=by cases x;cases y;simp
theorem pp_(x y:Xb):(((⟨x.Xm.toArray⟩:ByteArray).toList==(⟨y.Xm.toArray⟩:ByteArray).toList)&&(((⟨x.Xr.toArray⟩:ByteArray).toList==(⟨y.Xr.toArray⟩:ByteArray).toList)&&(((⟨x.Xe.toArray⟩:ByteArray).toList==(⟨y.Xe.toArray⟩:ByteArray).toList)&&true)))=true↔x=y:=by simp[po_]
theorem nD_:aH_ Tryz.prog te 80 0:=by
 intro d x y l m hl hm;obtain rfl:=qSj hl;obtain rfl:=qSj hm;refine ne_ 10 rfl (by kernel_rfl) (b:=(((⟨x.Xm.toArray⟩:ByteArray).toList==(⟨y.Xm.toArray⟩:ByteArray).toList)&&(((⟨x.Xr.toArray⟩:ByteArray).toList==(⟨y.Xr.toArray⟩:ByteArray).toList)&&(((⟨x.Xe.toArray⟩:ByteArray).toList==(⟨y.Xe.toArray⟩:ByteArray).toList)&&true)))) (by kernel_rfl) ?_;rw[Bool.eq_iff_iff];exact(pp_ x y).trans (@decide_eq_true_iff _ (d x y)).symm
theorem api_Attr_ext(x y:Xk):(x=y)=(x.Xy=y.Xy/\x.Xp=y.Xp/\x.Xo=y.Xo):=by cases x;cases y;simp
theorem eqd_api_Attr(x y:Xk):(((⟨x.Xy.toArray⟩:ByteArray).toList==(⟨y.Xy.toArray⟩:ByteArray).toList)&&(((⟨x.Xp.toArray⟩:ByteArray).toList==(⟨y.Xp.toArray⟩:ByteArray).toList)&&((x.Xo==y.Xo)&&true)))=true↔x=y:=by simp[api_Attr_ext]
theorem qr_:aH_ Tryz.prog te 87 2:=by
 intro d x y l m hl hm;obtain rfl:=qSj hl;obtain rfl:=qSj hm;refine ne_ 10 rfl (by kernel_rfl) (b:=(((⟨x.Xy.toArray⟩:ByteArray).toList==(⟨y.Xy.toArray⟩:ByteArray).toList)&&(((⟨x.Xp.toArray⟩:ByteArray).toList==(⟨y.Xp.toArray⟩:ByteArray).toList)&&((x.Xo==y.Xo)&&true)))) (by kernel_rfl) ?_;rw[Bool.eq_iff_iff];exact(eqd_api_Attr x y).trans (@decide_eq_true_iff _ (d x y)).symm
def eqL:List (Nat×Nat):=[(49,14),(61,20),(80,0),(87,2)]
theorem ad_:∀p∈eqL,aH_ Tryz.prog te p.1 p.2:=by
 intro p hp;simp only[eqL,List.mem_cons,List.not_mem_nil,or_false]at hp;rcases hp with rfl|rfl|rfl|rfl
 .exact mN_
 .exact rv_
 .exact nD_
 .exact qr_
abbrev OKF(f:FuncId)(C:Con te):Prop:=Con.OK Tryz.prog te f C/\cn_ Tryz.prog f=true
end
open Go.ChangeShapes Go.WideShapes Go.ChangeAt Go.ChangeMaps
abbrev laidAll : List (String × DataW Unit) := [("math/bits.deBruijn32tab", Rows.laid_math_bits_deBruijn32tab), ("math/bits.deBruijn64tab", Rows.laid_math_bits_deBruijn64tab), ("internal/strconv.uint64pow10", Rows.laid_internal_strconv_uint64pow10), ("unicode/utf8.acceptRanges", Rows.laid_unicode_utf8_acceptRanges), ("unicode/utf8.first", Rows.laid_unicode_utf8_first)]
def powL:List Int:=[1,10,100,1000,10000,100000,1000000,10000000,100000000,1000000000,10000000000,100000000000,1000000000000,10000000000000,100000000000000,1000000000000000,10000000000000000,100000000000000000,1000000000000000000,10000000000000000000]
theorem tab_block{W:World}{name:String}{k:IntKind}{zs:List Int}{n:Nat}(h:Lib.TabIs Tryz.prog W name k zs)(hn:(Tryz.prog).globalNamed name=some n):∃e c,W.heap[n]? = some (.cells (zs.map λz=>Value.int k z).toArray e c):=by
 unfold Lib.TabIs World.var? at h;rw[hn]at h;simp only[qBs]at h;split at h
 .rename_i cs e c hh;obtain rfl:=qSj h;exact⟨e,c,hh⟩
 .cases h
theorem tab_glo{W:World}{name:String}{k:IntKind}{zs:List Int}{n:Nat}(h:Lib.TabIs Tryz.prog W name k zs)(hn:(Tryz.prog).globalNamed name=some n){t:Ty}{x:Den te.S t}(hr:RD te (d3_ W) (te.flat t) (te.fl t x) (zs.map (Value.int k))) :
  (d3_ W).F n/\∃r,RD te (d3_ W) (te.flat t) (te.fl t x) r/\(∀j u,r[j]? = some u->(d3_ W).w.cell? ⟨n,j,none⟩=some u)/\∃e c,(d3_ W).w.heap[n]? = some (.cells r.toArray e c):=by
 obtain⟨e,c,hh⟩:=tab_block h hn;refine⟨?_,zs.map (Value.int k),hr,λj u hu => ?_,e,c,hh⟩
 .show n<W.heap.size;rcases Nat.lt_or_ge n W.heap.size with h'|h'
  .exact h'
  .rw[Array.getElem?_eq_none h']at hh;cases hh
 .show W.cell? ⟨n,j,none⟩=some u;rw[cell_of_row W n j _ e c hh,List.getElem?_toArray];exact hu
theorem jT_{W:World}(h:laidMetH Tryz.prog laidAll W):Glo te (d3_ W):=by
 have hm:=(laidMetH_iff.1 h).1
 have h2 : laidMet Tryz.prog (("internal/strconv.uint64pow10", Lib.tabData .u64 powL) :: []) W := by
  have := hm.filter (fun x => x.1 == "internal/strconv.uint64pow10")
  have e : ((laidAll.filter fun x => x.2.handleName?.isNone).filter fun x => x.1 == "internal/strconv.uint64pow10") = [("internal/strconv.uint64pow10", Lib.tabData .u64 powL)] := by kernel_rfl
  rw[e]at this;exact this
 have hP:=Lib.tabIs_of_head (P:=Tryz.prog) (g:=1) (t:=245) (e:=147) (n:=20) (by kernel_rfl) (by kernel_rfl) (by kernel_rfl) (by kernel_rfl) (by kernel_rfl) (by kernel_rfl) h2;intro n t x e;rcases n with _|_|n
 .cases e
 .have e2:(⟨globPT,globP⟩:Sigma λt:Ty=>Den te.S t)=⟨t,x⟩:=qSj e;cases e2
  exact tab_glo hP (by kernel_rfl) (.int (.int (.int (.int (.int (.int (.int (.int (.int (.int (.int (.int (.int (.int (.int (.int (.int (.int (.int (.int .nil))))))))))))))))))))
 .cases e
theorem lw_(os:Os)(args:Array Value):laidMetH Tryz.prog laidAll ((World.laidAll Tryz.prog os laidAll).forCall (λ_ _=>0) ⟨#[],args,[]⟩).memory:=by
 rw[MakeChecks.laidMetH_plain _ _ _ (by kernel_rfl)];exact laidMet_laidAll _ (by kernel_rfl) (by kernel_rfl)
end Go.Proofs.YtfbcbakhdkppoaaGreatDoor
namespace Go
def Code.lf:Code->Code | .seq x _=>x | .block _ x=>x | .loop x=>x | .cond _ x _=>x|c=>c
def Code.rt:Code->Code | .seq _ y=>y | .cond _ _ y=>y|c=>c
def Code.at(c:Code)(j:Nat):Oper:=match c with
 | .region _ ops _ => ops.toList.getD j { op := .move (.const (.int .i64 0)), dst := none, type := 0, pos := "", after := #[], guard := none }
 | _ => { op := .move (.const (.int .i64 0)), dst := none, type := 0, pos := "", after := #[], guard := none }
namespace Rt
open Go.RowKit
section
variable{P:Program}{E:TE}{eqs:List (Nat×Nat)}{tab:Tab E}{z z' z0:Fz}{g g':Ga}{w w' w0:World}{Bs:List Nat}{L L':List Res}{H H':Nat->Option (Obj E)}{F0:Nat->Prop}
def svInt:Option (SV E)->Option Int|some (.v (.one (.dt (.int .i64) n)))=>some n|_=>none
def e5_:Option (SV E)->Option Nat|some (.v (.one (.ptr i 0)))=>some i|_=>none
def svDat(t:Ty):Option (SV E)->Option (Den E.S t)|some (.v (.one (.dt t' x)))=>if h:t'=t then some (h▸x)else none|_=>none
def obRow(e:TypeId)(t:Ty):Option (Obj E)->Option (List (Den E.S t))|some (.row e' t' xs _)=>if h:t'=t then cf_ (Nat.beq e' e) (some (c6_ h xs))else none|_=>none
def obBox(T:TypeId):Option (Obj E)->Option (List (SC E))|some (.box T' cs)=>cf_ (Nat.beq T' T) (some cs)|_=>none
def scOwn:Option (SC E)->Option Nat|some (.own i)=>some i|_=>none
def hj_(t:Ty):Option (SC E)->Option (Den E.S t)|some (.dt t' x)=>if h:t'=t then some (h▸x)else none|_=>none
theorem hk_{s:Option (SV E)}{n:Int}(h:svInt s=some n):s=some (.v (.one (.dt (.int .i64) n))):=by
 unfold svInt at h;split at h
 .obtain rfl:=qSj h;rfl
 .cases h
theorem b6_{s:Option (SV E)}{n:Nat}(h:e5_ s=some n):s=some (.v (.one (.ptr n 0))):=by
 unfold e5_ at h;split at h
 .obtain rfl:=qSj h;rfl
 .cases h
theorem ps_{t:Ty}{s:Option (SV E)}{x:Den E.S t}(h:svDat t s=some x):s=some (.v (.one (.dt t x))):=by
 unfold svDat at h;split at h
 .split at h
  .rename_i ht;subst ht;obtain rfl:=qSj h;rfl
  .cases h
 .cases h
theorem lz_{e:TypeId}{t:Ty}{o:Option (Obj E)}{xs:List (Den E.S t)}(h:obRow e t o=some xs):∃foc,o=some (.row e t xs foc):=by
 unfold obRow at h;split at h
 .split at h
  .rename_i ht;subst ht;obtain⟨h1,h2⟩:=bq_ h;obtain rfl:=qNb h1;obtain rfl:=qSj h2;exact⟨_,rfl⟩
  .cases h
 .cases h
theorem bG_{T:TypeId}{o:Option (Obj E)}{cs:List (SC E)}(h:obBox T o=some cs):o=some (.box T cs):=by
 unfold obBox at h;split at h
 .obtain⟨h1,h2⟩:=bq_ h;obtain rfl:=qNb h1;obtain rfl:=qSj h2;rfl
 .cases h
theorem lA_{c:Option (SC E)}{n:Nat}(h:scOwn c=some n):c=some (.own n):=by
 unfold scOwn at h;split at h
 .obtain rfl:=qSj h;rfl
 .cases h
theorem db_{t:Ty}{s:Option (SC E)}{x:Den E.S t}(h:hj_ t s=some x):s=some (.dt t x):=by
 unfold hj_ at h;split at h
 .split at h
  .rename_i ht;subst ht;obtain rfl:=qSj h;rfl
  .cases h
 .cases h
def thenE{R:Type}(f:St E->Option R):Option Nat->St E->Option R|none,s=>f s|some _,_=>none
theorem frag{N:Nat}{O:Org}(heq:∀p∈eqs,aH_ P E p.1 p.2)(ht:tab.OK P E){c:Code}{pl:Pl}{R:Type}{b:Ba E}{s:St E}{k:Option Nat->St E->Option R}{r:R}{a:Act}{Q:Exit->Act->World->Prop}(hlo:Fresh O.g b.lo)
  (h:evCode P E eqs tab N Unit (λ_ _=>none) c pl R b s k (λ_=>none)=some r) (hR:Rel P E Bs O w0 N (s.L b) (s.H b) s.nx a w)
  (hk:∀ex s' a' w',k ex s'=some r->Rel P E Bs O w0 N (s'.L b) (s'.H b) s'.nx a' w'->Q (g7_ ex) a' w'):c.wp P Q a w :=
 mB_ (RT:=Unit) (rv:=λ_ _=>none) (Qr:=λ_ _ _=>False) heq ht (λ_ _ _ _ _ _ h=>nomatch h) c pl R b s k _ r a w Q hlo h hR hk λ_ _ _ h=>nomatch h
theorem Fz.in_local(z:Fz):Local z.F z.In:=λ_ _ hs hk h k hz=>⟨Nat.lt_of_lt_of_le (h k hz).1 hs,(hk k hz).trans (h k hz).2⟩
theorem Sep.perm(h:Sep Bs w0 w L)(hp:L.Perm L'):Sep Bs w0 w L' :=
 ⟨h.chg,λr hr=>h.hold r (hp.symm.subset hr),λr hr=>h.own r (hp.symm.subset hr),h.apart.perm hp fun{_ _}=>Apart.symm⟩
theorem Sep.sub(h:Sep Bs w0 w L)(hs:List.Sublist L' L):Sep Bs w0 w L' :=
 ⟨h.chg,λr hr=>h.hold r (hs.subset hr),λr hr=>h.own r (hs.subset hr),h.apart.sublist hs⟩
structure Mx(E:TE)(z0:Fz)(w0 w:World)(z:Fz)(L:List Res):Prop where
 le:z0.Le z
 gl:Glo E z
 new:∀k,z.F k->z0.F k\/w0.heap.size<=k
 sep:Sep [] w0 w (.ro z.F z.In::L)
 exc:∀r∈L,r.excl
namespace Mx
theorem start(hz:z.In w)(hg:Glo E z):Mx E z w w z [] :=
 ⟨Fz.Le.refl z,hg,λ_ hk => .inl hk,⟨Chg.of_below (Below.refl _ _),λr hr=>by
  obtain rfl:=List.mem_singleton.1 hr;exact⟨hz,z.in_local,λk hk=>(hz k hk).1⟩,λr hr he=>by
  obtain rfl:=List.mem_singleton.1 hr;exact he.elim,List.pairwise_singleton _ _⟩,λr hr=>nomatch hr⟩
theorem In(h:Mx E z0 w0 w z L):z.In w:=(h.sep.hold _ (List.mem_cons_self ..)).1
theorem lt(h:Mx E z0 w0 w z L){r:Res}(hr:r∈L){k:Nat}(hk:r.fp k):k<w.heap.size:=Res.holds_lt (h.sep.hold r (List.mem_cons_of_mem _ hr)) k hk
theorem nfz(h:Mx E z0 w0 w z L){r:Res}(hr:r∈L){k:Nat}(hk:r.fp k):¬z.F k:=λhz =>
 (List.pairwise_cons.1 h.sep.apart).1 r hr (.inr (h.exc r hr)) k hz hk
theorem perm(h:Mx E z0 w0 w z L)(hp:L.Perm L'):Mx E z0 w0 w z L':=⟨h.le,h.gl,h.new,h.sep.perm (hp.cons _),λr hr=>h.exc r (hp.symm.subset hr)⟩
theorem sub(h:Mx E z0 w0 w z L)(hs:List.Sublist L' L):Mx E z0 w0 w z L':=⟨h.le,h.gl,h.new,h.sep.sub (hs.cons_cons _),λr hr=>h.exc r (hs.subset hr)⟩
theorem hr(h:Mx E z0 w0 w z L)(g:Ga):HR P E [] z.F w w z g (λ_=>none) :=
 ⟨Chg.of_below (Below.refl _ _),(λ_ _ e=>nomatch e),(λ_ _ _ e=>nomatch e),(λ_ _ _ _ _ _ e=>nomatch e),h.In,(λ_ hk => .inl hk),(λ_ _ _ e=>nomatch e),h.gl⟩
end Mx
def ResOf(g:Ga)(w:World)(id:Nat)(o:Obj E)(r:Res):Prop:=r.excl/\r.holds w/\∀k,r.fp k->fpO g id o k
theorem Mx.step(h:Mx E z0 w0 w z L)(hH:HR P E [] z.F w w' z' g' H')(hz:z.Le z')(l:List (Nat×Res))(hl:∀p∈l,∃o,H' p.1=some o/\ResOf g' w' p.1 o p.2)(hn:(l.map (·.1)).Nodup):Mx E z0 w0 w' z' (l.map (·.2)++L):=by
 have hexc:∀r∈l.map (·.2)++L,r.excl:=λr hr=>by
  rcases List.mem_append.1 hr with hr|hr
  .obtain⟨p,hp,rfl⟩:=List.mem_map.1 hr;obtain⟨o,_,h2⟩:=hl p hp;exact h2.1
  .exact h.exc r hr
 have hnew:∀r∈l.map (·.2),∀k,r.fp k->w.heap.size<=k/\¬z'.F k:=λr hr k hk=>by
  obtain⟨p,hp,rfl⟩:=List.mem_map.1 hr;obtain⟨o,h1,h2⟩:=hl p hp;have h3:=h2.2.2 k hk;exact⟨(hH.own _ _ _ h1 h3).resolve_right (by simp),hH.fza _ _ _ h1 h3⟩
 have hold:∀r∈L,∀k,r.fp k->k<w.heap.size/\¬z'.F k:=λr hr k hk=>by
  refine⟨h.lt hr hk,λhz' => ?_⟩;rcases hH.fz0 k hz' with h1|h1|h1
  .exact h.nfz hr hk h1
  .have:=h.lt hr hk;omega
  .simp at h1
 refine⟨h.le.trans hz,hH.gl,λk hk => ?_,⟨⟨h.sep.chg.grow.trans hH.chg.grow,λk hk hn=>(hH.chg.block k (Nat.lt_of_lt_of_le hk h.sep.chg.grow.size) (by simp)).trans (h.sep.chg.block k hk hn)⟩,λr hr => ?_,λr hr he k hk => ?_,?_⟩,hexc⟩
 .rcases hH.fz0 k hk with h1|h1|h1
  .exact h.new k h1
  .exact .inr (Nat.le_trans h.sep.chg.grow.size h1)
  .simp at h1
 .rcases List.mem_cons.1 hr with rfl|hr
  .exact⟨hH.fz,z'.in_local,λk hk=>(hH.fz k hk).1⟩
  .rcases List.mem_append.1 hr with hr|hr
   .obtain⟨p,hp,rfl⟩:=List.mem_map.1 hr;obtain⟨o,_,h2⟩:=hl p hp;exact h2.2.1
   .have h1:=h.sep.hold r (List.mem_cons_of_mem _ hr);cases r with
    | box b T cs=>exact(hH.chg.block b (h.lt hr rfl) (by simp)).trans h1
    | row e c A n cap rows =>
     refine⟨⟨h1.1.1,?_⟩,h1.2⟩;rcases h1.1.2 with h'|⟨b,cap',cur,hv,hb,hh,q⟩
     .exact .inl h'
     .refine .inr ⟨b,cap',cur,hv,hb,?_,q⟩;injection hv with hA;exact(hH.chg.block b (h.lt hr ⟨_,hA,rfl⟩) (by simp)).trans hh
    | ro F φ=>exact(h.exc _ hr).elim
 .rcases List.mem_cons.1 hr with rfl|hr
  .exact he.elim
  .rcases List.mem_append.1 hr with hr|hr
   .exact .inl (Nat.le_trans h.sep.chg.grow.size (hnew r hr k hk).1)
   .exact h.sep.own r (List.mem_cons_of_mem _ hr) he k hk
 .refine List.pairwise_cons.2 ⟨λr hr _ k hk hk' => ?_,List.pairwise_append.2 ⟨?_,(List.pairwise_cons.1 h.sep.apart).2,λr hr s hs _ k hk hk' => ?_⟩⟩
  .rcases List.mem_append.1 hr with hr|hr
   .exact(hnew r hr k hk').2 hk
   .exact(hold r hr k hk').2 hk
  .refine List.pairwise_map.2 ((List.pairwise_map.1 hn).imp_of_mem fun{p q} hp hq hne _ k hk hk' => ?_);obtain⟨o,h1,h2⟩:=hl p hp;obtain⟨o',h1',h2'⟩:=hl q hq;exact hH.apart p.1 q.1 o o' k hne h1 h1' (h2.2.2 k hk) (h2'.2.2 k hk')
  .have:=(hnew r hr k hk).1;have:=(hold s hs k hk').1;omega
theorem ip_{id:Nat}{T:TypeId}{cs:List (SC E)}(h:HR P E Bs F0 w0 w z g H)(hi:H id=some (.box T cs)):∃l vs,g id=some l/\All2 (RC P E z g) cs vs/\ResOf g w id (.box T cs) (.box l.b T vs):=by
 obtain⟨l,vs,h1,h2,h3⟩:=h.hold _ _ hi;exact⟨l,vs,h1,h3,trivial,h2,λk hk=>⟨l,h1,hk⟩⟩
theorem jU_{id:Nat}{e:TypeId}{t:Ty}{xs:List (Den E.S t)}{foc:List (Nat×Int×Den E.S t)}(h:HR P E Bs F0 w0 w z g H)(hi:H id=some (.row e t xs foc)) :
  ∃l rows,g id=some l/\l.n=xs.length/\rows.length=xs.length/\Rows E z t xs rows/\ResOf g w id (.row e t xs foc) (.row e (E.size t) l.A xs.length l.cap rows):=by
 obtain⟨l,rows,h1,hn,hc,h2,h3,h4,h5,_⟩:=h.hold _ _ hi;exact⟨l,rows,h1,hn,h3.trans hn,h5,trivial,⟨by rw[←hn,←hc];exact h2,h3.trans hn,by rw[←hc];exact h4⟩,λk ⟨a,ha,hk⟩=>⟨l,a,h1,ha,hk⟩⟩
theorem Mx.freeze{e c n cap:Nat}{A:Option Addr}{rows:List (List Value)}(h:Mx E z0 w0 w z (.row e c A n cap rows::L)):Mx E z0 w0 w (z.grow (bA_ A) w) L/\z.Le (z.grow (bA_ A) w)/\SlF (z.grow (bA_ A) w).F c A n rows (z.grow (bA_ A) w).w:=by
 have hz:=h.In.grow_le (bA_ A);have hh:=h.sep.hold (.row e c A n cap rows) (by simp);have hlt:∀k,bA_ A k->k<w.heap.size:=λk hk=>h.lt (List.mem_cons_self ..) (r := .row e c A n cap rows) hk
 have hap:=List.pairwise_cons.1 h.sep.apart;have hap2:=List.pairwise_cons.1 hap.2;have hin:(z.grow (bA_ A) w).In w:=λk hk=>by
  rcases hk with hk|hk
  .exact⟨(h.In k hk).1,rfl⟩
  .exact⟨hlt k hk,rfl⟩
 refine⟨⟨h.le.trans hz,h.gl.le hz,λk hk => ?_,⟨h.sep.chg,λr hr => ?_,λr hr he k hk => ?_,?_⟩,λr hr=>h.exc r (List.mem_cons_of_mem _ hr)⟩,hz,?_⟩
 .rcases hk with hk|hk
  .exact h.new k hk
  .exact .inr ((h.sep.own (.row e c A n cap rows) (by simp) trivial k hk).resolve_right (by simp))
 .rcases List.mem_cons.1 hr with rfl|hr
  .exact⟨hin,Fz.in_local _,λk hk=>(hin k hk).1⟩
  .exact h.sep.hold r (by simp[hr])
 .rcases List.mem_cons.1 hr with rfl|hr
  .exact he.elim
  .exact h.sep.own r (by simp[hr]) he k hk
 .refine List.pairwise_cons.2 ⟨λr hr he k hk hk' => ?_,hap2.2⟩;rcases hk with hk|hk
  .exact hap.1 r (List.mem_cons_of_mem _ hr) (.inr (h.exc r (List.mem_cons_of_mem _ hr))) k hk hk'
  .exact hap2.1 r hr (.inl trivial) k hk hk'
 .have hr:=cd_ hh;refine⟨hr.1,λhpos => ?_⟩;obtain⟨b,off,hA,hb,hcell⟩:=hr.2 hpos;exact⟨b,off,hA,.inr hb,hcell⟩
theorem Mx.freezeBox{b:Nat}{T:TypeId}{cs:List Value}(h:Mx E z0 w0 w z (.box b T cs::L)):Mx E z0 w0 w (z.grow (λk=>k=b) w) L/\z.Le (z.grow (λk=>k=b) w)/\∀j u,cs[j]? = some u->(z.grow (λk=>k=b) w).w.cell? ⟨b,j,none⟩=some u:=by
 have hz:=h.In.grow_le (λk=>k=b);have hh:=h.sep.hold (.box b T cs) (by simp);have hlt:∀k,k=b->k<w.heap.size:=λk hk=>h.lt (List.mem_cons_self ..) (r := .box b T cs) hk
 have hap:=List.pairwise_cons.1 h.sep.apart;have hap2:=List.pairwise_cons.1 hap.2;have hin:(z.grow (λk=>k=b) w).In w:=λk hk=>by
  rcases hk with hk|hk
  .exact⟨(h.In k hk).1,rfl⟩
  .exact⟨hlt k hk,rfl⟩
 refine⟨⟨h.le.trans hz,h.gl.le hz,λk hk => ?_,⟨h.sep.chg,λr hr => ?_,λr hr he k hk => ?_,?_⟩,λr hr=>h.exc r (List.mem_cons_of_mem _ hr)⟩,hz,?_⟩
 .rcases hk with hk|hk
  .exact h.new k hk
  .exact .inr ((h.sep.own (.box b T cs) (by simp) trivial k hk).resolve_right (by simp))
 .rcases List.mem_cons.1 hr with rfl|hr
  .exact⟨hin,Fz.in_local _,λk hk=>(hin k hk).1⟩
  .exact h.sep.hold r (by simp[hr])
 .rcases List.mem_cons.1 hr with rfl|hr
  .exact he.elim
  .exact h.sep.own r (by simp[hr]) he k hk
 .refine List.pairwise_cons.2 ⟨λr hr he k hk hk' => ?_,hap2.2⟩;rcases hk with hk|hk
  .exact hap.1 r (List.mem_cons_of_mem _ hr) (.inr (h.exc r (List.mem_cons_of_mem _ hr))) k hk hk'
  .exact hap2.1 r hr (.inl trivial) k hk hk'
 .intro j u hu;show w.cell? _=_;rw[cell_of_row w b j cs.toArray T (0,0) hh];simpa using hu
inductive EnvR(P:Program)(E:TE)(z:Fz)(g:Ga):List (Nat×Option (SV E))->List (Nat×Value)->Prop
 | nil:EnvR P E z g [] []
 | cons {i s v l m} (h:RV P E z g s v) (t:EnvR P E z g l m):EnvR P E z g ((i,some s)::l) ((i,v)::m)
theorem EnvR.get{l:List (Nat×Option (SV E))}{m:List (Nat×Value)}(h:EnvR P E z g l m){t:Nat}{o:Option (SV E)}(ho:au_ t l=some o):∃s v,o=some s/\look t m=some v/\RV P E z g s v:=by
 induction h with
 | nil=>cases ho
 | @cons i s v l m h _ ih =>
  simp only[au_]at ho;simp only[look];cases hb:Nat.beq t i with
  | true =>
   rw[hb]at ho;exact⟨s,v,(qSj ho).symm,rfl,h⟩
  | false =>
   rw[hb]at ho;exact ih ho
theorem Mx.rel{N lo nx:Nat}{a:Act}{l:List (Nat×Option (SV E))}{m:List (Nat×Value)}(h:Mx E z0 w0 w z L)(hE:Env N a m)(hl:EnvR P E z g l m)(hg:Fresh g nx) :
  Rel P E [] ⟨z,g,lo⟩ w N (St.L ⟨λ_=>none,λ_=>none,lo⟩ ⟨l,none,[],none,nx⟩) (St.H ⟨λ_=>none,λ_=>none,lo⟩ ⟨l,none,[],none,nx⟩) nx a w:=by
 refine⟨z,g,⟨hE.size,hE.defers,λt u hu => ?_⟩,(h.hr g).less λi o e => ?_,hg,Fz.Le.refl z,Ga.Le.refl g⟩
 .unfold St.L at hu;simp only at hu;cases ha:au_ t l with
  | none=>rw[ha]at hu;cases hu
  | some o =>
   rw[ha]at hu;obtain⟨s,v,rfl,h2,h3⟩:=hl.get ha;obtain rfl:=qSj hu;exact⟨v,hE.get t v h2,h3⟩
 .unfold St.H at e;cases e
theorem Mx.of_sep(h:Mx E z0 w0 w z L){L2:List Res}(hS:Sep [] w0 w' L2){l:List Res}(hp:List.Sublist (.ro z.F z.In::l) L2)(he:∀r∈l,r.excl):Mx E z0 w0 w' z l:=⟨h.le,h.gl,h.new,hS.sub hp,he⟩
theorem Mx.nilRow(h:Mx E z0 w0 w z L)(e c:Nat):Mx E z0 w0 w z (.row e c none 0 0 []::L):=by
 have hap:=List.pairwise_cons.1 h.sep.apart;refine⟨h.le,h.gl,h.new,⟨h.sep.chg,λr hr => ?_,λr hr he k hk => ?_,?_⟩,λr hr => ?_⟩
 .rcases List.mem_cons.1 hr with rfl|hr
  .exact h.sep.hold _ (List.mem_cons_self ..)
  .rcases List.mem_cons.1 hr with rfl|hr
   .exact⟨⟨by simp,.inl ⟨rfl,rfl⟩⟩,rfl,λr hr=>nomatch hr⟩
   .exact h.sep.hold r (List.mem_cons_of_mem _ hr)
 .rcases List.mem_cons.1 hr with rfl|hr
  .exact he.elim
  .rcases List.mem_cons.1 hr with rfl|hr
   .obtain⟨_,e,_⟩:=hk;cases e
   .exact h.sep.own r (List.mem_cons_of_mem _ hr) he k hk
 .refine List.pairwise_cons.2 ⟨λr hr he k hk hk' => ?_,List.pairwise_cons.2 ⟨λr _ _ k hk _ => ?_,hap.2⟩⟩
  .rcases List.mem_cons.1 hr with rfl|hr
   .obtain⟨_,e,_⟩:=hk';cases e
   .exact hap.1 r hr he k hk hk'
  .obtain⟨_,e,_⟩:=hk;cases e
 .rcases List.mem_cons.1 hr with rfl|hr
  .trivial
  .exact h.exc r hr
theorem Mx.ext(h:Mx E z0 w0 w z L)(hx:Ext w w'):Mx E z0 w0 w' z L:=⟨h.le,h.gl,h.new,h.sep.ext hx,h.exc⟩
theorem Mx.call(h:Mx E z0 w0 w z L)(h':Mx E z w w' z' L'):Mx E z0 w0 w' z' (L'++L):=by
 have hnew:∀r∈L',∀k,r.fp k->w.heap.size<=k:=λr hr k hk=>(h'.sep.own r (List.mem_cons_of_mem _ hr) (h'.exc r hr) k hk).resolve_right (by simp)
 refine⟨h.le.trans h'.le,h'.gl,λk hk => ?_,⟨⟨h.sep.chg.grow.trans h'.sep.chg.grow,λk hk hn=>(h'.sep.chg.block k (Nat.lt_of_lt_of_le hk h.sep.chg.grow.size) (by simp)).trans (h.sep.chg.block k hk hn)⟩,λr hr => ?_,λr hr he k hk => ?_,?_⟩,λr hr => ?_⟩
 .rcases h'.new k hk with h1|h1
  .exact h.new k h1
  .exact .inr (Nat.le_trans h.sep.chg.grow.size h1)
 .rcases List.mem_cons.1 hr with rfl|hr
  .exact h'.sep.hold _ (List.mem_cons_self ..)
  .rcases List.mem_append.1 hr with hr|hr
   .exact h'.sep.hold r (List.mem_cons_of_mem _ hr)
   .have h1:=h.sep.hold r (List.mem_cons_of_mem _ hr);cases r with
    | box b T cs=>exact(h'.sep.chg.block b (h.lt hr rfl) (by simp)).trans h1
    | row e c A n cap rows =>
     refine⟨⟨h1.1.1,?_⟩,h1.2⟩;rcases h1.1.2 with h2|⟨b,cap',cur,hv,hb,hh,q⟩
     .exact .inl h2
     .refine .inr ⟨b,cap',cur,hv,hb,?_,q⟩;injection hv with hA;exact(h'.sep.chg.block b (h.lt hr ⟨_,hA,rfl⟩) (by simp)).trans hh
    | ro F φ=>exact(h.exc _ hr).elim
 .rcases List.mem_cons.1 hr with rfl|hr
  .exact he.elim
  .rcases List.mem_append.1 hr with hr|hr
   .exact .inl (Nat.le_trans h.sep.chg.grow.size (hnew r hr k hk))
   .exact h.sep.own r (List.mem_cons_of_mem _ hr) he k hk
 .refine List.pairwise_cons.2 ⟨λr hr _ k hk hk' => ?_,List.pairwise_append.2 ⟨(List.pairwise_cons.1 h'.sep.apart).2,(List.pairwise_cons.1 h.sep.apart).2,λr hr s hs _ k hk hk' => ?_⟩⟩
  .rcases List.mem_append.1 hr with hr|hr
   .exact h'.nfz hr hk' hk
   .rcases h'.new k hk with h1|h1
    .exact h.nfz hr hk' h1
    .have:=h.lt hr hk';omega
  .have:=hnew r hr k hk;have:=h.lt hs hk';omega
 .rcases List.mem_append.1 hr with hr|hr
  .exact h'.exc r hr
  .exact h.exc r hr
def FbR(E:TE)(z:Fz)(g:Ga)(id:Nat)(o:Obj E):Prop:=∃t x,o = .fb t x/\∃l r,g id=some l/\z.F l.b/\RD E z (E.flat t) (E.fl t x) r/\∀j u,r[j]? = some u->z.w.cell? ⟨l.b,j,none⟩=some u
theorem Mx.relF{N lo nx:Nat}{a:Act}{l:List (Nat×Option (SV E))}{m:List (Nat×Value)}(h:Mx E z0 w0 w z L)(hE:Env N a m)(hl:EnvR P E z g l m)(hg:Fresh g nx)(hF:∀id o,H id=some o->FbR E z g id o) :
  Rel P E [] ⟨z,g,lo⟩ w N (St.L ⟨λ_=>none,H,lo⟩ ⟨l,none,[],none,nx⟩) (St.H ⟨λ_=>none,H,lo⟩ ⟨l,none,[],none,nx⟩) nx a w:=by
 have hfp:∀id o k,H id=some o->¬fpO g id o k:=λid o k e hk=>by
  obtain⟨t,x,rfl,_⟩:=hF id o e;exact hk
 have hHR:HR P E [] z.F w w z g H:=⟨Chg.of_below (Below.refl _ _),λid o e=>by
  obtain⟨t,x,rfl,h1⟩:=hF id o e;exact h1,λid o k e hk=>(hfp id o k e hk).elim,λid _ o _ k _ e _ hk=>(hfp id o k e hk).elim,h.In,λ_ hk => .inl hk,λid o k e hk=>(hfp id o k e hk).elim,h.gl⟩
 refine⟨z,g,⟨hE.size,hE.defers,λt u hu => ?_⟩,hHR,hg,Fz.Le.refl z,Ga.Le.refl g⟩;unfold St.L at hu;simp only at hu;cases ha:au_ t l with
 | none=>rw[ha]at hu;cases hu
 | some o =>
  rw[ha]at hu;obtain⟨s,v,rfl,h2,h3⟩:=hl.get ha;obtain rfl:=qSj hu;exact⟨v,hE.get t v h2,h3⟩
theorem Fz.Le.cell(h:z.Le z'){b j:Nat}{u:Value}(hF:z.F b)(hc:z.w.cell? ⟨b,j,none⟩=some u):z'.w.cell? ⟨b,j,none⟩=some u:=(World.cell?_of_block (w:=z.w) (h b hF).2).trans hc
theorem Fz.In.cell(h:z.In w){b j:Nat}{u:Value}(hF:z.F b)(hc:z.w.cell? ⟨b,j,none⟩=some u):w.cell? ⟨b,j,none⟩=some u:=(World.cell?_of_block (w:=z.w) (h b hF).2).trans hc
section
variable{N i:Nat}{a:Act}{env:List (Nat×Value)}{o:Oper}{l:List Oper}{tl:List Nat}{I:World->Prop}{Q:Exit->Act->World->Prop}{rest:List (Nat×Bool)}
theorem f9_(hE:Env N a env)(ho:l[i]? = some o)(hg:gate l env o=some true)(d:Nat)(hd:o.dst=some d)(hN:Nat.blt d N=true)(v:Value)(hr:∀w',I w'->(execOp a.eval o).run P w' = .ok (.value v) w')
  (h:∀a',Env N a' ((d,v)::env)->aO_ P l.toArray tl [] I Q rest a' w):aO_ P l.toArray tl [] I Q ((i,false)::rest) a w :=
 dn_ o ho λK hK=>by
  rw[if_pos (hV_ hE hg)];refine⟨v,λw' hI => ?_,by rw[hd];exact hK _ (h _ (hE.put hN v))⟩;rw[hr w' hI];exact⟨rfl,rfl⟩
theorem jc_(ho:l[i]? = some o)(h:∀w',Ext w w'->wpList P l.toArray (Exit.then (λa' w''=>(tl.contains i=false->I w->I w'')/\aO_ P l.toArray tl [] I Q rest a' w'') (bU_ Q)) [o] a w'):aO_ P l.toArray tl [] I Q ((i,true)::rest) a w:=by
 have ho':l.toArray[i]? = some o:=by simpa using ho
 simp only[aO_,ho'];exact λX d=>h _ ⟨X,d,rfl⟩
end
theorem Env.of_er{N:Nat}{a:Act}{Ls:Nat->Option (SV E)}(h:ER P E z g N a Ls):Env N a []:=⟨h.size,h.defers,λ_ _ e=>nomatch e⟩
theorem Env.add{N:Nat}{a:Act}{m:List (Nat×Value)}(h:Env N a m){t:Nat}{v:Value}(hv:a.tmps[t]? = some v):Env N a ((t,v)::m):=by
 refine⟨h.size,h.defers,λu x e => ?_⟩;simp only[look]at e;cases hb:Nat.beq u t with
 | true =>
  rw[hb]at e;obtain rfl:=qNb hb;obtain rfl:=qSj e;exact hv
 | false =>
  rw[hb]at e;exact h.get u x e
end
end Rt
end Go
namespace Go.Proofs
open Go.Shelf
def Tryz.laysCount_ren:Go.Shelf.Ren:=⟨λ | 138=>177 | 195=>212 | 218=>214 | 143=>153 | 219=>185 | 217=>220 | 225=>221 | 224=>222 | 267=>223 | 266=>247 | 314=>248|n=>n,λ | 9=>9 | 3=>3 | 4=>4 | 5=>5 | 0=>0 | 46=>105 | 146=>272 | 51=>145|n=>n,λ | 1=>0|n=>n⟩
theorem Tryz.laysCount:Go.Proofs.Lays.n138 Tryz.prog Tryz.laysCount_ren:={
 mixed:=by kernel_rfl
 f138:=Tryz.func177.trans (congrArg some (by kernel_rfl))
 f143:=Tryz.func153.trans (congrArg some (by kernel_rfl))
 f195:=Tryz.func212.trans (congrArg some (by kernel_rfl))
 f217:=Tryz.func220.trans (congrArg some (by kernel_rfl))
 f218:=Tryz.func214.trans (congrArg some (by kernel_rfl))
 f219:=Tryz.func185.trans (congrArg some (by kernel_rfl))
 f224:=Tryz.func222.trans (congrArg some (by kernel_rfl))
 f225:=Tryz.func221.trans (congrArg some (by kernel_rfl))
 f266:=Tryz.func247.trans (congrArg some (by kernel_rfl))
 f267:=Tryz.func223.trans (congrArg some (by kernel_rfl))
 f314:=Tryz.func248.trans (congrArg some (by kernel_rfl))
 t0:=Tryz.underlying0
 a0:=Tryz.isAgg0
 z0:=Tryz.sizeOf0
 v0:=Tryz.zeroValue0
 t3:=Tryz.underlying3
 a3:=Tryz.isAgg3
 z3:=Tryz.sizeOf3
 v3:=Tryz.zeroValue3
 t4:=Tryz.underlying4
 a4:=Tryz.isAgg4
 z4:=Tryz.sizeOf4
 v4:=Tryz.zeroValue4
 t5:=Tryz.underlying5
 a5:=Tryz.isAgg5
 z5:=Tryz.sizeOf5
 v5:=Tryz.zeroValue5
 t9:=Tryz.underlying9
 a9:=Tryz.isAgg9
 z9:=Tryz.sizeOf9
 v9:=Tryz.zeroValue9
 t46:=Tryz.underlying105
 a46:=Tryz.isAgg105
 z46:=Tryz.sizeOf105
 v46:=Tryz.zeroValue105
 t51:=Tryz.underlying145
 a51:=Tryz.isAgg145
 z51:=Tryz.sizeOf145
 v51:=Tryz.zeroValue145
 t146:=Tryz.underlying272
 a146:=Tryz.isAgg272
 z146:=Tryz.sizeOf272
 v146:=Tryz.zeroValue272
 g1:=by kernel_rfl }
end Go.Proofs
namespace Go.Proofs.YtfbcbakhdkppoaaGreatDoor
open Go.Shelf Go.RowKit Go.Rt
theorem fCount:Tryz.laysCount_ren.f 138=177:=by kernel_rfl
theorem pt_(x0 x1:Str)(r:Int)(hF:strings_Count x0 x1=some r)(w0:World):Ret Tryz.prog 177 #[S x0,S x1] w0 λv w=>v = .int .i64 r/\Ext w0 w:=by
 unfold strings_Count at hF;split at hF
 .rename_i c;simp only[qOi]at hF;subst hF;have hh:=Any.strings_Count_one Tryz.laysCount ⟨x0.toArray⟩ c w0;rw[fCount]at hh;refine Calls.mono hh λe w ⟨he,hb⟩=>⟨_,he,?_,?_⟩
  .simp[Lib.countByte]
  .subst hb;exact Ext.refl _
 .cases hF
def iD_:Con te:=ae_ te [.d .str,.d .str] [(.int .i64,[])] false λa=>strings_Count a.1 a.2.1
theorem hl_:Con.OK Tryz.prog te 177 iD_/\cn_ Tryz.prog 177=true:=by
 refine⟨λR a k r hr => ?_,by kernel_rfl⟩;obtain⟨y,h1,h2⟩:=bind_some hr;exact⟨_,_,h2,kd_ (y:=y) rfl rfl rfl rfl rfl λw=>pt_ a.1 a.2.1 y h1 w⟩
end Go.Proofs.YtfbcbakhdkppoaaGreatDoor
namespace Go.Proofs
open Go.Shelf
def Tryz.laysFormatInt_ren:Go.Shelf.Ren:=⟨λ | 173=>124 | 246=>159 | 283=>190 | 284=>191 | 285=>192 | 286=>193 | 129=>112 | 317=>224 | 318=>225 | 319=>226 | 320=>227 | 337=>249 | 338=>250|n=>n,λ | 2=>2 | 3=>3 | 9=>9 | 4=>4 | 171=>218 | 0=>0 | 53=>147 | 37=>108 | 5=>5 | 173=>220 | 212=>245 | 51=>145 | 20=>20 | 213=>246 | 46=>105 | 232=>282 | 233=>283|n=>n,λ | 17=>1 | 18=>4 | 19=>5|n=>n⟩
theorem Tryz.laysFormatInt:Go.Proofs.LaysM.n173 Tryz.prog Tryz.laysFormatInt_ren:={
 mixed:=by kernel_rfl
 f129:=Tryz.func112.trans (congrArg some (by kernel_rfl))
 f173:=Tryz.func124.trans (congrArg some (by kernel_rfl))
 f246:=Tryz.func159.trans (congrArg some (by kernel_rfl))
 f283:=Tryz.func190.trans (congrArg some (by kernel_rfl))
 f284:=Tryz.func191.trans (congrArg some (by kernel_rfl))
 f285:=Tryz.func192.trans (congrArg some (by kernel_rfl))
 f286:=Tryz.func193.trans (congrArg some (by kernel_rfl))
 f317:=Tryz.func224.trans (congrArg some (by kernel_rfl))
 f318:=Tryz.func225.trans (congrArg some (by kernel_rfl))
 f319:=Tryz.func226.trans (congrArg some (by kernel_rfl))
 f320:=Tryz.func227.trans (congrArg some (by kernel_rfl))
 f337:=Tryz.func249.trans (congrArg some (by kernel_rfl))
 f338:=Tryz.func250.trans (congrArg some (by kernel_rfl))
 t0:=Tryz.underlying0
 a0:=Tryz.isAgg0
 z0:=Tryz.sizeOf0
 v0:=Tryz.zeroValue0
 t2:=Tryz.underlying2
 a2:=Tryz.isAgg2
 z2:=Tryz.sizeOf2
 v2:=Tryz.zeroValue2
 t3:=Tryz.underlying3
 a3:=Tryz.isAgg3
 z3:=Tryz.sizeOf3
 v3:=Tryz.zeroValue3
 t4:=Tryz.underlying4
 a4:=Tryz.isAgg4
 z4:=Tryz.sizeOf4
 v4:=Tryz.zeroValue4
 t5:=Tryz.underlying5
 a5:=Tryz.isAgg5
 z5:=Tryz.sizeOf5
 v5:=Tryz.zeroValue5
 t9:=Tryz.underlying9
 a9:=Tryz.isAgg9
 z9:=Tryz.sizeOf9
 v9:=Tryz.zeroValue9
 t20:=Tryz.underlying20
 a20:=Tryz.isAgg20
 z20:=Tryz.sizeOf20
 v20:=Tryz.zeroValue20
 t37:=Tryz.underlying108
 a37:=Tryz.isAgg108
 z37:=Tryz.sizeOf108
 v37:=Tryz.zeroValue108
 t46:=Tryz.underlying105
 a46:=Tryz.isAgg105
 z46:=Tryz.sizeOf105
 v46:=Tryz.zeroValue105
 t51:=Tryz.underlying145
 a51:=Tryz.isAgg145
 z51:=Tryz.sizeOf145
 v51:=Tryz.zeroValue145
 t53:=Tryz.underlying147
 a53:=Tryz.isAgg147
 z53:=Tryz.sizeOf147
 v53:=Tryz.zeroValue147
 t171:=Tryz.underlying218
 a171:=Tryz.isAgg218
 z171:=Tryz.sizeOf218
 v171:=Tryz.zeroValue218
 t173:=Tryz.underlying220
 a173:=Tryz.isAgg220
 z173:=Tryz.sizeOf220
 v173:=Tryz.zeroValue220
 t212:=Tryz.underlying245
 a212:=Tryz.isAgg245
 z212:=Tryz.sizeOf245
 v212:=Tryz.zeroValue245
 t213:=Tryz.underlying246
 a213:=Tryz.isAgg246
 z213:=Tryz.sizeOf246
 t232:=Tryz.underlying282
 a232:=Tryz.isAgg282
 z232:=Tryz.sizeOf282
 v232:=Tryz.zeroValue282
 t233:=Tryz.underlying283
 a233:=Tryz.isAgg283
 z233:=Tryz.sizeOf283
 v233:=Tryz.zeroValue283
 g17:=by kernel_rfl
 g18:=by kernel_rfl
 g19:=by kernel_rfl
 i0:=by kernel_rfl
 i2:=by kernel_rfl
 i3:=by kernel_rfl
 i4:=by kernel_rfl
 i5:=by kernel_rfl
 i9:=by kernel_rfl
 i20:=by kernel_rfl
 i37:=by kernel_rfl
 i46:=by kernel_rfl
 i51:=by kernel_rfl
 i53:=by kernel_rfl
 i171:=by kernel_rfl
 i173:=by kernel_rfl
 i212:=by kernel_rfl
 i232:=by kernel_rfl
 i233:=by kernel_rfl
 m17:=by kernel_rfl
 m18:=by kernel_rfl
 m19:=by kernel_rfl }
end Go.Proofs
