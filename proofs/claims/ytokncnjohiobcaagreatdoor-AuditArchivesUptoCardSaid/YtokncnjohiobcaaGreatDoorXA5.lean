/-
 What the statements of this seat hang on,part 5: Si Sj Sk St Sn Open So Ms.
-/
import Derived.Test.YtokncnjohiobcaaGreatDoorXA4
import Derived.Deep.Slices
import Derived.ChangeSame
import Derived.ProofKit
import Derived.OpenShut
import Derived.Sort.Statements
import Derived.Lib.SlicesCompact
import Derived.Lib.BitFns
namespace Go
namespace Rt
open Go.RowKit
section
variable{P:tT}{E:TE}{H:Nat->tO (Obj E)}
theorem backM_ok {m:Mk} {I:tL Nat}:∀{ts:tL Ty} {h x:HL E.S ts} {n:Nat},mb_ E H m ts h n=some x->∀i o,(i,o)∈aT_ E m ts x n->∃y o2,H i=some y/\o=some o2/\Cor E H I y o2:=by
 induction m with
 | nil=>
  intro ts h x n _ i o hm;cases ts<;>simp[aT_]at hm
 | cons a m C=>
  intro ts h x n f i o hm;cases ts with
  | nil=>cases a<;>simp[aT_]at hm
  | cons t ts=>
   cases a with
   | none=>
    simp only[mb_]at f;cases j:mb_ E H m ts h.2 n with
    | none=>rw[j]at f;cases f
    | some q=>
     rw[j]at f;obtain rfl:=qSj f;simp only[aT_]at hm;exact C j i o hm
   | some e=>
    cases t with
    | sl t=>
     simp only[mb_]at f;cases s:H n with
     | none=>rw[s]at f;cases f
     | some p=>
      cases p with
      | row e' J xs foc=>
       rw[s]at f;simp only at f;split at f
       .rename_i D;subst D;cases u:Nat.beq e e' with
        | false=>rw[u]at f;cases f
        | true=>
         cases j:mb_ E H m ts h.2 (n+1)with
         | none=>rw[u,j]at f;cases f
         | some q=>
          rw[u,j]at f;obtain rfl:=qSj f;obtain rfl:=qNb u;simp only[aT_,qV]at hm;rcases hm with hm|hm
          .injection hm with G F;subst G;subst F;exact⟨_,_,s,rfl,rfl⟩
          .exact C j i o hm
       .cases f
      | _=>rw[s]at f;cases f
    | _=>simp[aT_]at hm
theorem backH_ok {I:tL Nat}:∀{ps:tL Pm} {a:PA E ps} {bh:HL E.S (aI_ ps)×tL Nat} {n k:Nat},dk_ E H ps a n=some bh->(∀i,i<n+ar_ E ps->n<=i->I[i]? = some i)->(∀j id,bh.2[j]? = some id->I[k+j]? = some id) ->
  (∀i o,(i,o)∈aM_ E ps (dE_ E ps a bh.1) n k->∃id o1 o2,I[i]? = some id/\H id=some o1/\o=some o2/\Cor E H I o1 o2)/\bh.2.length=cU_ E ps:=by
 intro ps
 induction ps with
 | nil=>
  intro a bh n k f _ _;obtain rfl:=qSj f;exact⟨(λi o hm=>nomatch hm),rfl⟩
 | cons p ps G=>
  intro a bh n k f C J;cases p with
  | d t=>exact G f C J
  | p t=>exact G f C J
  | g t m=>
   simp only[ar_]at C;exact G f (λi h1 u=>C i (by omega) (by omega)) J
  | f1 x r=>exact G f C J
  | f2 x y r=>exact G f C J
  | l t m=>
   simp only[ar_]at C;simp only[dk_]at f;cases h1:mb_ E H m (E.flat t) (E.fl t a.1) n with
   | none=>rw[h1]at f;cases f
   | some h=>
    cases u:dk_ E H ps a.2 (n+aC_ m (E.flat t))with
    | none=>rw[h1,u]at f;cases f
    | some q=>
     rw[h1,u]at f;obtain rfl:=qSj f;obtain⟨g1,O⟩:=G (k:=k) u (λi h1 u=>C i (by omega) (by omega)) J;refine⟨λi o hm=>?_,O⟩;have s:(i,o)∈aT_ E m (E.flat t) (E.fl t (E.ufl t h)) n++aM_ E ps (dE_ E ps a.2 q.1) (n+aC_ m (E.flat t)) k:=hm;rw[E.fl_ufl]at s;rcases qW.1 s with s|s
     .obtain⟨o1,o2,h6,h7,h8⟩:=backM_ok (I:=I) h1 i o s;obtain⟨_,_,_,h9,ZW⟩:=aZ_ i o s;exact⟨i,o1,o2,C i (by omega) h9,h6,h7,h8⟩
     .exact g1 i o s
  | mp T kt v=>
   simp only[ar_]at C;simp only[dk_]at f;cases D:H n with
   | none=>rw[D]at f;cases f
   | some p=>
    cases p with
    | map T' k' v' ks vs foc=>
     cases u:dk_ E H ps a.2 (n+1)with
     | none=>rw[D,u]at f;cases f
     | some q=>
      rw[D,u]at f;simp only at f;split at f
      .rename_i ht;obtain⟨rfl,rfl⟩:=ht;cases F:Nat.beq T T' with
       | false=>rw[F]at f;cases f
       | true=>
        rw[F]at f;obtain rfl:=qSj f;obtain rfl:=qNb F;obtain⟨g1,O⟩:=G (k:=k) u (λi h1 u=>C i (by omega) (by omega)) J;refine⟨λi o hm=>?_,O⟩;have s:(i,o)∈(n,some (Obj.map T k' v' ks vs []))::aM_ E ps (dE_ E ps a.2 q.1) (n+1) k:=hm;rcases qV.1 s with s|s
        .injection s with Z Y;subst Z;subst Y;exact⟨_,_,_,C _ (by omega) (qA _),D,rfl,rfl⟩
        .exact g1 i o s
      .cases f
    | _=>rw[D]at f;cases f
  | b T t=>
   simp only[ar_]at C;simp only[dk_]at f;cases D:H n with
   | none=>rw[D]at f;cases f
   | some p=>
    cases p with
    | box T' cs=>
     cases u:dk_ E H ps a.2 (n+1)with
     | none=>rw[D,u]at f;cases f
     | some q=>
      rw[D,u]at f;simp only at f;cases F:Nat.beq T T' with
      | false=>rw[F]at f;cases f
      | true=>
       cases M:bP_ E H (E.flat t) cs with
       | none=>rw[F,M]at f;cases f
       | some h=>
        rw[F,M]at f;obtain rfl:=qSj f;obtain rfl:=qNb F;obtain⟨g1,O⟩:=G (k:=k) u (λi h1 u=>C i (by omega) (by omega)) J;refine⟨λi o hm=>?_,O⟩;have s:(i,o)∈(n,some (Obj.box T (E.cells t (E.ufl t h))))::aM_ E ps (dE_ E ps a.2 q.1) (n+1) k:=hm;rcases qV.1 s with s|s
        .injection s with Z Y;subst Z;subst Y;exact⟨_,_,_,C _ (by omega) (qA _),D,rfl,false,_,[],0,t,[],(h,[]),0,rfl,(λ_ _ e=>nomatch e),takeM_nil M,by rw[ownC_nil];unfold TE.cells;rw[E.fl_ufl];rfl,λj id' hj=>by simp at hj⟩
        .exact g1 i o s
    | _=>rw[D]at f;cases f
  | bm T t m px=>
   simp only[ar_]at C;simp only[dk_]at f;cases D:H n with
   | none=>rw[D]at f;cases f
   | some p=>
    cases p with
    | box T' ZY=>
     cases u:dk_ E H ps a.2 (n+1+aC_ m (E.flat t))with
     | none=>rw[D,u]at f;cases f
     | some q=>
      rw[D,u]at f;simp only at f;cases V:ji_ (pxB px ps) ZY with
      | none=>rw[V]at f;cases f
      | some c2=>
       obtain⟨cs,U⟩:=c2;rw[V]at f;simp only at f;cases F:Nat.beq T T'&&hidI U (n+1+aC_ m (E.flat t))with
       | false=>rw[F]at f;cases f
       | true=>
        cases M:bK_ E H m (E.flat t) cs with
        | none=>rw[F,M]at f;cases f
        | some d=>
         rw[F,M]at f;obtain rfl:=qSj f;simp only[qAn]at F;obtain⟨F,hh⟩:=F;obtain rfl:=qNb F;obtain⟨i1,i2⟩:=mz_ J;obtain⟨e7,e8⟩:=mG_ (n:=k) M i1;obtain⟨g1,O⟩:=G (k:=k+d.2.length) u (λi h1 u=>C i (by omega) (by omega)) i2;refine⟨λi o hm=>?_,by simp only[qLa,e8,O,cU_]⟩;have s:(i,o)∈(n,some (Obj.box T (ptrC E (pxB px ps) (n+1+aC_ m (E.flat t))++bp_ E m (E.flat t) (E.fl t (E.ufl t d.1)) k)))::(aT_ E m (E.flat t) (E.fl t (E.ufl t d.1)) k++aM_ E ps (dE_ E ps a.2 q.1) (n+1+aC_ m (E.flat t)) (k+aC_ m (E.flat t))):=hm;rw[E.fl_ufl]at s;rw[e8]at g1;rcases qV.1 s with s|s
         .injection s with Z Y;subst Z;subst Y;refine⟨_,_,_,C _ (by omega) (qA _),D,rfl,_,cs,U,_,t,m,d,k,V,(λZX o2 e=>?_),M,rfl,i1⟩;subst e;simp only[hidI]at hh;have h9:=qNb hh;rw[h9];have ZZ:pxB px ps=true:=by
           cases hx:pxB px ps with
           | true=>rfl
           | false=>rw[hx]at V;simp[ji_]at V
          have:=pxB_cnt (E:=E) ZZ;exact C _ (by omega) (by omega)
         .rcases qW.1 s with s|s
          .exact e7 i o s
          .exact g1 i o s
    | _=>rw[D]at f;cases f
end
section
variable{P:tT}{E:TE}{eqs:tL (Nat×Nat)}{tab:Tab E}{z:Fz}{g:Ga}{w w0:tS}{Bs:tL Nat}{N:Nat}
def EndIs(P:tT)(E:TE)(z:Fz)(g:Ga)(Bs:tL Nat)(w:tS)(ps:tL Pm)(rs:Rs)(a:PA E ps)(rh:HL E.S rs.ts)(bh:HL E.S (aI_ ps))(v:tW)(w':tS):Prop:=∃z' g' svr,z.Le z'/\g.Le g'/\resV E rs rh (ar_ E ps)=some svr/\RV P E z' g' (oneV E svr) v/\HR P E Bs z.F w w' z' g' (upH (λ_=>none) (cA_ E rs rh (ar_ E ps)++aM_ E ps (dE_ E ps a bh) 0 (ar_ E ps+cj_ E rs)))
theorem oneV_ok{svr:tL (V1 E)}{us:tL tW}(h:All2 (R1 P E z g) svr us):RV P E z g (oneV E svr) (tupleOf us):=by
 cases h with
 | nil=>exact⟨[],rfl,.nil⟩
 | cons h1 m=>
  cases m with
  | nil=>exact h1
  | cons j f=>exact⟨_,rfl,.cons h1 (.cons j f)⟩
theorem dJ_:∀{ps:tL Pm} {a:PA E ps} {n k i:Nat} {o:tO (Obj E)},(i,o)∈aM_ E ps a n k->i∈dl_ E ps n\/(k<=i/\i<k+cU_ E ps)
 | [],_,_,_,_,_,h=>by cases h
 | .l t m::ps,a,n,k,i,o,h=>by
  rcases qW.1 h with h|h
  .obtain⟨_,_,_,h1,f⟩:=aZ_ i _ h;exact .inl (qW.2 (.inl (List.mem_range'_1.2 ⟨h1,f⟩)))
  .exact(dJ_ (ps:=ps) h).imp (λh=>qW.2 (.inr h)) id
 | .g _ _::ps,_,_,_,_,_,h=>dJ_ (ps:=ps) h
 | .b _ _::ps,_,_,_,_,_,h=>by
  rcases qV.1 h with h|h
  .injection h with e;subst e;exact .inl (qV.2 (.inl rfl))
  .exact(dJ_ (ps:=ps) h).imp (λh=>qV.2 (.inr h)) id
 | .bm _ t m _::ps,a,n,k,i,o,h=>by
  simp only[cU_];rcases qV.1 h with h|h
  .injection h with e;subst e;exact .inl (qV.2 (.inl rfl))
  .rcases qW.1 h with h|h
   .obtain⟨_,_,_,h1,f⟩:=aZ_ i _ h;exact .inr ⟨h1,by omega⟩
   .rcases dJ_ (ps:=ps) h with h|h
    .exact .inl (qV.2 (.inr h))
    .exact .inr ⟨by omega,by omega⟩
 | .mp _ _ _::ps,_,_,_,_,_,h=>by
  rcases qV.1 h with h|h
  .injection h with e;subst e;exact .inl (qV.2 (.inl rfl))
  .exact(dJ_ (ps:=ps) h).imp (λh=>qV.2 (.inr h)) id
 | .d _::ps,_,_,_,_,_,h=>dJ_ (ps:=ps) h
 | .p _::ps,_,_,_,_,_,h=>dJ_ (ps:=ps) h
 | .f1 _ _::ps,_,_,_,_,_,h=>dJ_ (ps:=ps) h
 | .f2 _ _ _::ps,_,_,_,_,_,h=>dJ_ (ps:=ps) h
theorem ez_:∀{ps:tL Pm} {n i:Nat},i∈dl_ E ps n->i<n+ar_ E ps
 | [],_,_,h=>by cases h
 | .l t m::ps,n,i,h=>by
  simp only[ar_];rcases qW.1 h with h|h
  .have:=List.mem_range'_1.1 h;omega
  .have:=ez_ (ps:=ps) h;omega
 | .g t m::ps,n,i,h=>by
  simp only[ar_];have:=ez_ (ps:=ps) h;omega
 | .b _ _::ps,n,i,h=>by
  simp only[ar_];rcases qV.1 h with h|h
  .omega
  .have:=ez_ (ps:=ps) h;omega
 | .bm _ t m _::ps,n,i,h=>by
  simp only[ar_];rcases qV.1 h with h|h
  .omega
  .have:=ez_ (ps:=ps) h;omega
 | .mp _ _ _::ps,n,i,h=>by
  simp only[ar_];rcases qV.1 h with h|h
  .omega
  .have:=ez_ (ps:=ps) h;omega
 | .d _::ps,_,_,h=>ez_ (ps:=ps) h
 | .p _::ps,_,_,h=>ez_ (ps:=ps) h
 | .f1 _ _::ps,_,_,h=>ez_ (ps:=ps) h
 | .f2 _ _ _::ps,_,_,h=>ez_ (ps:=ps) h
theorem retF_ok {ps:tL Pm} {rs:Rs} {a:PA E ps} {fn:Func} {b:Ba E} {s:St E} {act:Act} {w':tS} {y:Tp E.S (rs.ts++aI_ ps)} (ZX:Fresh g (ar_ E ps))
  (hR:Rel P E Bs ⟨z,g,ar_ E ps⟩ w N (s.L b) (s.H b) s.nx act w') (h:retF E P ps rs a fn.results.toList b s=some y) :
  act.defers=[]/\∃v,(results fn act.tmps).run P w' = .ok v w'/\EndIs P E z g Bs w ps rs a (ft_ rs.ts (aI_ ps) (bs_ _ y)) (hsnd rs.ts (aI_ ps) (bs_ _ y)) v w':=by
 obtain⟨z1,g1,hE,hH,ZY,V,ZZ⟩:=hR;refine⟨hE.defers,?_⟩;unfold retF at h;cases f:resXs E P b s fn.results.toList with
 | none=>rw[f]at h;cases h
 | some M=>
  rw[f]at h;simp only at h;obtain⟨xs,u0,n0,J,p1,O,_,p4,p5,_,_⟩:=prepRs_ok rs M hH ZY;rw[p1]at h;generalize ZT:upH (s.H b) u0=Hu at h p4;cases Z:takeR E (upH Hu (frzA E Hu ps rs xs)) rs xs with
  | none=>rw[Z]at h;cases h
  | some q=>
   rw[Z]at h;simp only at h;cases hb:dk_ E (upH Hu (frzA E Hu ps rs xs)) ps a 0 with
   | none=>rw[hb]at h;cases h
   | some bq=>
    rw[hb]at h;obtain⟨bh,ids⟩:=bq;obtain⟨hn,h⟩:=c3_ h;obtain rfl:=qSj h;simp only at hn;rw[db_,mP_,mQ_];obtain⟨us,h1,ZU⟩:=uV_ hE hH f;have h2:=p5 z1 J us (Ga.Le.refl J) (ZU.mono λ_ _ h=>R1.le h (Fz.Le.refl z1) O);obtain⟨z2,x,F⟩:=frzA_ok p4 ps rs xs;have ZV:∀j id,(q.2++ids)[j]? = some id->(List.range (ar_ E ps)++(q.2++ids))[ar_ E ps+j]? = some id:=λj id hj=>by
     rw[zH (by simp)];simpa using hj
    obtain⟨ZW,D⟩:=mz_ ZV;have m:∀i,i<ar_ E ps->(List.range (ar_ E ps)++(q.2++ids))[i]? = some i:=λi hi=>by
     rw[ze (by simpa using hi)];simp[hi]
    obtain⟨⟨svr,h3,h4⟩,h5,Y⟩:=takeR_ok F (n:=ar_ E ps) Z ZW (h2.mono λ_ _ h=>R1.le h x (Ga.Le.refl J));rw[Y]at D;obtain⟨h6,_⟩:=backH_ok (I:=List.range (ar_ E ps)++(q.2++ids)) (k:=ar_ E ps+cj_ E rs) hb (λi h1 _=>m i (by omega)) D;refine⟨_,tuple_out rfl h1,z2,gOf J (List.range (ar_ E ps)++(q.2++ids)),svr,V.trans x,λi l hl=>?_,h3,oneV_ok h4,F.leave (λi j o p id hi hj e1 e2=>?_) λi o hm=>?_⟩
    .have hi:i<ar_ E ps:=by
      rcases qb i (ar_ E ps)with h9|h9
      .exact h9
      .rw[ZX i h9]at hl;cases hl
     unfold gOf;rw[m i hi];exact O i l (ZZ i l hl)
    .have far:∀i,ar_ E ps<=i->(List.range (ar_ E ps)++(q.2++ids))[i]? = some id->∃p,(dl_ E ps 0++(q.2++ids))[p]? = some id/\((p<(dl_ E ps 0).length/\i=id/\i<ar_ E ps)\/(ar_ E ps<=i/\p=(dl_ E ps 0).length+(i-ar_ E ps))):=λi u e=>by
      rw[zH (by simpa using u)]at e;refine⟨(dl_ E ps 0).length+(i-ar_ E ps),?_,.inr ⟨u,rfl⟩⟩;rw[zH (by omega)];simpa using e
     have key:∀i o,(i,o)∈cA_ E rs q.1 (ar_ E ps)++aM_ E ps (dE_ E ps a bh) 0 (ar_ E ps+cj_ E rs)->(List.range (ar_ E ps)++(q.2++ids))[i]? = some id->∃p,(dl_ E ps 0++(q.2++ids))[p]? = some id/\((p<(dl_ E ps 0).length/\i=id/\i<ar_ E ps)\/(ar_ E ps<=i/\p=(dl_ E ps 0).length+(i-ar_ E ps))):=λi o hm e=>by
      rcases qW.1 hm with hm|hm
      .obtain⟨_,_,_,u,_⟩:=fq_ i o hm;exact far i u e
      .rcases dJ_ hm with hm|hm
       .have G:=ez_ hm;rw[m i (by omega)]at e;obtain rfl:=qSj e;obtain⟨p,hp⟩:=qH.1 hm;have C:p<(dl_ E ps 0).length:=(qK.1 hp).1;exact⟨p,by rw[ze C];exact hp,.inl ⟨C,rfl,by omega⟩⟩
       .exact far i (by omega) e
     obtain⟨p1,u,G⟩:=key i o hi e1;obtain⟨O,k3,U⟩:=key j p hj e2;have hp:=r4_ hn u k3;rcases G with G|G<;>rcases U with U|U<;>omega
    .rcases qW.1 hm with hm|hm
     .exact h5 i o hm
     .exact h6 i o hm
theorem slots_in{svs:tL (V1 E)}{vs:tL tW}(h:All2 (R1 P E z g) svs vs):∀(i t:Nat) (o:tO (SV E)),aF_ t (slotsOf i svs)=some o->∃x v,o=some (.v x)/\look t (mD_ i vs)=some v/\R1 P E z g x v:=by
 induction h with
 | nil=>intro i t o f;cases f
 | @cons x v la bs h1 _ m=>
  intro i t o f;simp only[slotsOf,aF_]at f;simp only[mD_,look];cases j:Nat.beq t i with
  | true=>
   rw[j]at f;exact⟨x,v,(qSj f).symm,rfl,h1⟩
  | false=>
   rw[j]at f;exact m (i+1) t o f
theorem evFun_ok(M:∀p∈eqs,aG_ P E p.1 p.2)(ht:tab.OK P E){f:FuncId}{fn:Func}(hf:P.funcs[f]? = some fn){ps:tL Pm}{rs:Rs}{pl:Pl}{a:PA E ps}{y:Tp E.S (rs.ts++aI_ ps)}(h:kS_ P E eqs tab fn ps rs pl a=some y) :
  CallOK P E f ps rs true a (ft_ rs.ts (aI_ ps) (bs_ _ y)) (hsnd rs.ts (aI_ ps) (bs_ _ y)):=by
 intro w z g Bs svs vs U hH j hv;unfold kS_ at h;cases O:fn.body with
 | none=>rw[O]at h;cases h
 | some c=>
  rw[O,U]at h;simp only at h;obtain⟨J,h⟩:=c3_ h;refine Ret.mono (R:=λv w'=>EndIs P E z g Bs w ps rs a (ft_ rs.ts (aI_ ps) (bs_ _ y)) (hsnd rs.ts (aI_ ps) (bs_ _ y)) v w') ?_ λv w' ⟨z',g',svr,h1,q,m,h4,h5⟩=>⟨z',g',svr,h1,(λe=>nomatch e),q,m,h4,h5⟩
  refine enter hf O rfl (by rw[zq,←hv.len];exact J) λact Z=>?_
  refine evCode_ok (Bs:=Bs) (F0:=⟨z,g,ar_ E ps⟩) (w0:=w) (Qr:=λF D w'=>D.defers=[]/\∃v,(results fn D.tmps).run P w' = .ok v w'/\EndIs P E z g Bs w ps rs a (ft_ rs.ts (aI_ ps) (bs_ _ F)) (hsnd rs.ts (aI_ ps) (bs_ _ F)) v w') M ht
   (λb s D w' F hR hy=>retF_ok j hR hy) c pl _ _ _ _ _ y act w _ j h ?_ ?_ ?_
  .refine⟨z,g,⟨Z.size,Z.defers,λt u C=>?_⟩,hH,j,Fz.Le.refl z,Ga.Le.refl g⟩;unfold St.L at C;simp only at C;cases V:aF_ t (slotsOf 0 svs)with
   | none=>rw[V]at C;cases C
   | some o=>
    rw[V]at C;obtain⟨x,v,h1,q,m⟩:=slots_in hv 0 t o V;subst h1;obtain rfl:=qSj C;exact⟨v,Z.get t v (by simpa using q),m⟩
  .intro ex s' D w' G Y;cases ex with
   | some i=>cases G
   | none=>
    obtain⟨h1,v,q,m⟩:=retF_ok j Y G;exact⟨h1,_,q,v,rfl,m⟩
  .intro F D w' G hq;obtain rfl:=qSj G;obtain⟨h1,v,q,m⟩:=hq;exact⟨h1,_,q,v,rfl,m⟩
end
section
variable{P:tT}{E:TE}{eqs:tL (Nat×Nat)}{tab:Tab E}
theorem CallOK.flat{f:FuncId}{ps:tL Pm}{rs:Rs}{ali:tV}{a:PA E ps}{rh:HL E.S rs.ts}{bh:HL E.S (aI_ ps)}(hr:jj_ E rs=true)(hp:eT_ E ps=true)(h:CallOK P E f ps rs ali a rh bh):CallOK P E f ps rs false a rh bh:=by
 intro w z g Bs svs vs D U C Z;refine Ret.mono (h w z g Bs svs vs D U C Z) λv w' ⟨z',g',svr,h1,_,h3,F,h5,j⟩=>⟨z,g',svr,Fz.Le.refl z,(λ_=>rfl),h3,F,?_,?_⟩
 .exact r9_ (z:=z') (g:=g') rfl h5 λvs x=>nH_ F F x (λi l _ y=>y) (.inr hr)
 .have key:∀i o,upH (λ_=>none) (cA_ E rs rh (ar_ E ps)++aM_ E ps (dE_ E ps a bh) 0 (ar_ E ps+cj_ E rs)) i=some o->Plain E (λ_=>True) o/\kl_ E o:=λi o e=>by
   rcases qW.1 (i0_ e)with hm|hm
   .obtain⟨p,M,J⟩:=r7_ hr i _ hm;obtain⟨V,G,q,_⟩:=fq_ i _ hm;obtain rfl:=qSj M;obtain rfl:=qSj G;exact⟨q _,J⟩
   .obtain⟨p,M,J⟩:=cB_ hp i _ hm;obtain⟨V,G,q,_⟩:=bY_ i _ hm;obtain rfl:=qSj M;obtain rfl:=qSj G;refine⟨?_,J⟩;cases o with
    | box T cs=>
     intro c hc;have:=q c hc;cases c<;>first|trivial|exact this.elim
    | _=>exact q
  refine⟨j.chg,λi o e=>?_,j.own,j.apart,λk m=>?_,λk m=>.inl m,λi o k e m Y=>j.fza i o k e m (h1 k Y).1,U.gl⟩
  .obtain⟨u,s⟩:=key i o e;exact(ObjR.move u (λ_ _ _ y=>y) (.inr s) rfl (j.hold i o e)).1
  .obtain⟨u,s⟩:=h1 k m;have O:=j.fz k u;exact⟨O.1,O.2.trans s⟩
def af_(E:TE)(ps:tL Pm)(rs:Rs)(ali:tV)(f:PA E ps->tO (Tp E.S (rs.ts++aI_ ps))):Con E:=⟨ps,rs,ali,λ_ a k=>(f a).bind λy=>k (ft_ rs.ts (aI_ ps) (bs_ _ y)) (hsnd rs.ts (aI_ ps) (bs_ _ y)),none⟩
theorem aa_(m:∀p∈eqs,aG_ P E p.1 p.2)(s:tab.OK P E){fid:FuncId}{fn:Func}(u:P.funcs[fid]? = some fn){ps:tL Pm}{rs:Rs}{ali:tV}(j:(ali||(jj_ E rs&&eT_ E ps))=true){pl:Pl}{f:PA E ps->tO (Tp E.S (rs.ts++aI_ ps))}
  (h:∀a,f a=kS_ P E eqs tab fn ps rs pl a):(af_ E ps rs ali f).OK P E fid:=by
 intro R a k r hr;obtain⟨y,h1,x⟩:=bind_some (show(f a).bind (λy=>k (ft_ rs.ts (aI_ ps) (bs_ _ y)) (hsnd rs.ts (aI_ ps) (bs_ _ y)))=some r from hr);rw[h a]at h1;have q:=evFun_ok m s u h1;refine⟨_,_,x,?_⟩;cases ali with
 | true=>exact q
 | false=>
  simp only[zt,qAn]at j;exact q.flat j.1 j.2
def idsC:tL (SC E)->tL Nat|[]=>[]|.own id::cs=>id::idsC cs|.ptr id _::cs=>id::idsC cs|.pre id _::cs=>id::idsC cs|.suf id _::cs=>id::idsC cs|.mp id::cs=>id::idsC cs|.clo _ ids::cs=>ids++idsC cs|_::cs=>idsC cs
def idsX:tL (V1 E)->tL Nat|[]=>[]|x::xs=>idsC x.cs++idsX xs
def pe_(H:Nat->tO (Obj E)):Nat->tL Nat->tL Nat
 | 0,l=>l
 | d+1,l=>l++pe_ H d (l.flatMap λi=>match H i with
  | some (.box _ cs)=>idsC cs
  | _=>[])
def onlyH(l:tL Nat)(H:Nat->tO (Obj E)):Nat->tO (Obj E):=λi=>match ay_ i l with|true=>H i|false=>none
abbrev EndI(E:TE):=tL (V1 E)×(Nat->tO (Obj E))×tL Nat×Nat
def resI(P:tT)(E:TE)(vs:tL ResultVar)(b:Ba E)(s:St E):tO (EndI E):=match resXs E P b s vs with|some xs=>some (xs,s.H b,s.heap.map (·.1),s.nx)|none=>none
def chsI(l:tL Nat)(H:Nat->tO (Obj E)):Chs E:=l.map λi=>(i,H i)
def finI(E:TE)(cand:tL Nat){R:Type}(k:tO (SV E)->Chs E->tO R)(y:EndI E):tO R:=k (some (oneV E y.1)) ((y.2.2.2+200,none)::chsI (cand++y.2.2.1) y.2.1)
noncomputable def inlF(P:tT)(E:TE)(eqs:tL (Nat×Nat))(tab:Tab E)(fn:Func)(pl:Pl):InlF E:=λH nx xs R k=>match fn.body with
 | none=>none
 | some c=>ef_ (Nat.ble xs.length fn.ntmps)<|evCode P E eqs tab fn.ntmps (EndI E) (resI P E fn.results.toList) c pl R ⟨λ_=>none,onlyH (pe_ H 3 (idsX xs)) H,nx⟩ ⟨slotsOf 0 xs,none,[],none,nx⟩ (λf s=>match(match f with
    | none=>true
    | some i=>Nat.beq i 0)with
   | true=>match resI P E fn.results.toList ⟨λ_=>none,onlyH (pe_ H 3 (idsX xs)) H,nx⟩ s with
    | some y=>finI E (pe_ H 3 (idsX xs)) k y
    | none=>none
   | false=>none) (finI E (pe_ H 3 (idsX xs)) k)
theorem chsI_look{H H':Nat->tO (Obj E)}{i:Nat}:∀{l:tL Nat},upH H (chsI l H') i=match ay_ i l with
  | true=>H' i
  | false=>H i
 | []=>rfl
 | j::l=>by
  simp only[chsI,zY,upH,ay_];cases f:Nat.beq i j with
  | true=>
   obtain rfl:=qNb f;rfl
  | false=>exact chsI_look
theorem md_{l:tL Nat}{H:Nat->tO (Obj E)}{i:Nat}{o:Obj E}(h:onlyH l H i=some o):i∈l/\H i=some o:=by
 unfold onlyH at h;split at h
 .rename_i hm;exact⟨memN_true.1 hm,h⟩
 .cases h
theorem fS_(ZS:∀p∈eqs,aG_ P E p.1 p.2)(ht:tab.OK P E){f:FuncId}{fn:Func}(hf:P.funcs[f]? = some fn){pl:Pl}:l5_ P E f (inlF P E eqs tab fn pl):=by
 intro z g nx H xs vs R k r Bs F0 w0 w ZZ hH hv h;unfold inlF at h;cases hb:fn.body with
 | none=>rw[hb]at h;cases h
 | some c=>
  rw[hb]at h;simp only at h;obtain⟨V,h⟩:=c3_ h;generalize ZR:pe_ H 3 (idsX xs)=cand at h
  -- the memory that is known, seen from ZP
  let B:tL Nat:=(cand.map (blk (onlyH cand H) g)).flatten
  have hB:∀i p k,onlyH cand H i=some p->fpO g i p k->k∈B:=λi p k e M=>zg.2 ⟨_,zZ.2 ⟨i,(md_ e).1,rfl⟩,mem_blk.2 ⟨p,e,M⟩⟩
  have ZQ:∀k,k∈B->∃i p,i∈cand/\H i=some p/\fpO g i p k:=λk M=>by
   obtain⟨_,i,p,_,Z,h6⟩:=kk_ M;exact⟨i,p,(md_ Z).1,(md_ Z).2,h6⟩
  have hp:=hH.part (λ_ _ e=>(md_ e).2) hB
  -- what is to be shown of the end
  let Q:EndI E->tW->tS->Prop:=λy v w'=>∃z2 J,z.Le z2/\g.Le J/\Fresh J y.2.2.2/\RV P E z2 J (oneV E y.1) v/\HR P E B z.F w w' z2 J y.2.1
  have G:∀(b:Ba E) (s:St E) (act:Act) (w':tS) (y:EndI E),Rel P E B ⟨z,g,nx⟩ w fn.ntmps (s.L b) (s.H b) s.nx act w'->resI P E fn.results.toList b s=some y ->
    act.defers=[]/\∃v,(results fn act.tmps).run P w' = .ok v w'/\Q y v w':=by
   intro b s act w' y hR m;obtain⟨z1,g1,hE,ZX,ZT,ZW,ZU⟩:=hR;unfold resI at m;split at m
   .rename_i ys ZV;obtain rfl:=qSj m;obtain⟨us,h1,C⟩:=uV_ hE ZX ZV;exact⟨hE.defers,_,tuple_out rfl h1,z1,g1,ZW,ZU,ZT,oneV_ok C,ZX⟩
   .cases m
  have D:∀(y:EndI E) (v:tW) (w':tS),finI E cand k y=some r->Q y v w'->∃s u z2 J,k (some s) u=some r/\z.Le z2/\g.Le J/\Fresh J (nxU nx u)/\RV P E z2 J s v/\HR P E Bs F0 w0 w' z2 J (upH H u):=by
   intro y v w' m ⟨z2,J,h1,C,U,h4,Z⟩;refine⟨_,_,z2,J,m,h1,C,λi hi=>U i ?_,h4,?_⟩
   .simp only[nxU]at hi;split at hi<;>rename_i hb
    .omega
    .have:¬(nx+1+((chsI (cand++y.2.2.1) y.2.1).length+1)<=y.2.2.2+200+1):=λV=>by
      rw[zC V]at hb;cases hb
     omega
   refine hH.back (I:=cand) (s:=λj i=>j=i) Z (λk M=>ZQ k M) C (λj p Y=>?_) (λj j' i O h8=>O.trans h8.symm) (λj i p O h8=>by subst O;exact⟨Z.hold _ _ h8,λ_=>Iff.rfl⟩) h1 Z.fz λk M=>?_
   .simp only[upH]at Y;split at Y
    .cases Y
    .rw[chsI_look]at Y;split at Y
     .exact .inl ⟨j,rfl,Y⟩
     .rename_i hm;refine .inr ⟨λhc=>?_,Y⟩;rw[memN_true.2 (qW.2 (.inl hc))]at hm;cases hm
   .rcases Z.fz0 k M with O|O|O
    .exact .inl O
    .exact .inr ⟨.inl O,M⟩
    .exact .inr ⟨.inr O,M⟩
  refine enter hf hb rfl (by rw[zq,←hv.len];exact V) λact hE=>?_
  refine evCode_ok (Bs:=B) (F0:=⟨z,g,nx⟩) (w0:=w) (Qr:=λy' a' w'=>a'.defers=[]/\∃v,(results fn a'.tmps).run P w' = .ok v w'/\Q y' v w') ZS ht
   (λb s a' w' y' hR m=>G b s a' w' y' hR m) c pl _ _ _ _ _ r act w _ ZZ h ?_ ?_ ?_
  .refine⟨z,g,⟨hE.size,hE.defers,λt u hu=>?_⟩,hp,ZZ,Fz.Le.refl z,Ga.Le.refl g⟩;unfold St.L at hu;simp only at hu;cases ha:aF_ t (slotsOf 0 xs)with
   | none=>rw[ha]at hu;cases hu
   | some o=>
    rw[ha]at hu;obtain⟨x,v,h1,C,U⟩:=slots_in hv 0 t o ha;subst h1;obtain rfl:=qSj hu;exact⟨v,hE.get t v (by simpa using C),U⟩
  .intro ex s' a' w' q ZY;rcases ex with _|_|i
   .simp only at q;split at q
    .rename_i y m;obtain⟨h1,v,C,U⟩:=G _ _ _ _ _ ZY m;exact⟨h1,_,C,v,rfl,D y v w' q U⟩
    .cases q
   .simp only at q;split at q
    .rename_i y m;obtain⟨h1,v,C,U⟩:=G _ _ _ _ _ ZY m;exact⟨h1,_,C,v,rfl,D y v w' q U⟩
    .cases q
   .simp only[Nat.beq]at q;cases q
  .intro y' a' w' q hq;obtain⟨h1,v,C,U⟩:=hq;exact⟨h1,_,C,v,rfl,D y' v w' q U⟩
end
section
variable{P:tT}{E:TE}
theorem i4_:∀{ps:tL Pm} {a:PA E ps} {n:Nat},l4_ ps=false->aY_ E ps a n=[]
 | [],_,_,_=>rfl
 | .l _ _::_,_,_,h=>by cases h
 | .g _ _::_,_,_,h=>by cases h
 | .mp _ _ _::_,_,_,h=>by cases h
 | .b _ _::_,_,_,h=>by cases h
 | .bm _ _ _ _::_,_,_,h=>by cases h
 | .d _::ps,a,n,h=>i4_ (ps:=ps) (a:=a.2) (n:=n) h
 | .p _::ps,a,n,h=>i4_ (ps:=ps) (a:=a.2) (n:=n) h
 | .f1 _ _::ps,a,n,h=>i4_ (ps:=ps) (a:=a.2) (n:=n) h
 | .f2 _ _ _::ps,a,n,h=>i4_ (ps:=ps) (a:=a.2) (n:=n) h
theorem lk_:∀{ps:tL Pm} {a:PA E ps} {n k:Nat},l4_ ps=false->aM_ E ps a n k=[]
 | [],_,_,_,_=>rfl
 | .l _ _::_,_,_,_,h=>by cases h
 | .g _ _::_,_,_,_,h=>by cases h
 | .mp _ _ _::_,_,_,_,h=>by cases h
 | .b _ _::_,_,_,_,h=>by cases h
 | .bm _ _ _ _::_,_,_,_,h=>by cases h
 | .d _::ps,a,n,k,h=>lk_ (ps:=ps) (a:=a.2) (n:=n) (k:=k) h
 | .p _::ps,a,n,k,h=>lk_ (ps:=ps) (a:=a.2) (n:=n) (k:=k) h
 | .f1 _ _::ps,a,n,k,h=>lk_ (ps:=ps) (a:=a.2) (n:=n) (k:=k) h
 | .f2 _ _ _::ps,a,n,k,h=>lk_ (ps:=ps) (a:=a.2) (n:=n) (k:=k) h
theorem sj_{f:FuncId}{ps:tL Pm}{r:Ty}{a:PA E ps}{y:Den E.S r}{bh:HL E.S (aI_ ps)}(hr:r.flatB=true)(q:l4_ ps=false){svs0:tL (V1 E)}{us:tL tW}{v:tW}(F:bA_ E ps a 0=some svs0)(D:encVs svs0=some us)(s:(V1.one (.dt r y):V1 E).enc=some v)
  (h:∀w z,z.In w->Glo E z->Ret P f us.toArray w λu w'=>u=v/\Ext w w'):CallOK P E f ps [(r,[])] false a (y,()) bh:=by
 intro w z g Bs svs vs j p C m;rw[F]at j;obtain rfl:=qSj j;obtain rfl:=(mL_ D).1 m;refine(h w z p.fz p.gl).mono λu w' ⟨x,hx⟩=>?_
 subst x;refine⟨z,g,[.one (.dt r y)],Fz.Le.refl z,λ_=>rfl,Ga.Le.refl g,?_,(show R1 P E z g (.one (.dt r y)) u from(V1.enc_ok s).2 rfl),?_⟩
 .cases r with
  | int k=>rfl
  | bool=>rfl
  | str=>rfl
  | _=>cases hr
 .have h1:=p.ext hx;rw[i4_ q]at h1;rw[lk_ q];have G:cA_ E [(r,([]:Mk))] (y,()) (ar_ E ps)=[]:=by
   cases r with
   | int k=>rfl
   | bool=>rfl
   | str=>rfl
   | _=>cases hr
  rw[G];exact h1
theorem os_{f:FuncId}{ps:tL Pm}{r:Ty}{a:PA E ps}{y:Den E.S r}{bh:HL E.S (aI_ ps)}(hr:r.flatB=true)(m:l4_ ps=false){svs0:tL (V1 E)}{us:tL tW}{v:tW}(q:bA_ E ps a 0=some svs0)(p:encVs svs0=some us)(j:(V1.one (.dt r y):V1 E).enc=some v)
  (h:∀w,Ret P f us.toArray w λu w'=>u=v/\Ext w w'):CallOK P E f ps [(r,[])] false a (y,()) bh:=
 sj_ hr m q p j λw _ _ _=>h w
theorem bf_{f:FuncId}{ps:tL Pm}{rs:Rs}{ali:tV}{F:PA E ps->tO (Tp E.S (rs.ts++aI_ ps))}(h:∀a,F a=none):(af_ E ps rs ali F).OK P E f:=λR a k r hr=>by
 have:(F a).bind (λy=>k (ft_ rs.ts (aI_ ps) (bs_ _ y)) (hsnd rs.ts (aI_ ps) (bs_ _ y)))=some r:=hr;rw[h a]at this;cases this
theorem sk_{f:FuncId}{ps:tL Pm}{rs:Rs}{ali:tV}{g:Nat->PA E ps->tO (Tp E.S (rs.ts++aI_ ps))}(h:∀n,(af_ E ps rs ali (g n)).OK P E f/\cr_ P f=true):(af_ E ps rs ali λa=>limO λn=>g n a).OK P E f/\cr_ P f=true:=⟨λR a k r hr=>by
 obtain⟨y,h1,m⟩:=bind_some (show(limO λn=>g n a).bind (λy=>k (ft_ rs.ts (aI_ ps) (bs_ _ y)) (hsnd rs.ts (aI_ ps) (bs_ _ y)))=some r from hr);obtain⟨n,j⟩:=limO_some h1;exact(h n).1 R a k r (show(g n a).bind (λy=>k (ft_ rs.ts (aI_ ps) (bs_ _ y)) (hsnd rs.ts (aI_ ps) (bs_ _ y)))=some r by rw[j];exact m),(h 0).2⟩
def fu_:Tab E:=λ_=>none
theorem ab_:(fu_:Tab E).OK P E:=λ_ _ h=>by cases h
def tb(f:Nat)(C:Con E)(r:Tab E):Tab E:=λn=>match Nat.beq n f with|true=>some C|false=>r n
theorem ac_{f:Nat}{C:Con E}{r:Tab E}(h:Con.OK P E f C/\cr_ P f=true)(hr:r.OK P E)(p:C.I=none:=by rfl):(tb f C r).OK P E:=λn D j=>by
 unfold tb at j;split at j
 .rename_i m;obtain rfl:=qNb m;obtain rfl:=qSj j;exact⟨h.1,h.2,λI e=>by rw[p]at e;cases e⟩
 .exact hr n D j
def inlC(I:InlF E):Con E:=⟨[.b 0 .bool],[],true,λ_ _ _=>none,some I⟩
def ti(f:Nat)(I:InlF E)(r:Tab E):Tab E:=tb f (inlC I) r
theorem dm_{f:Nat}{I:InlF E}{r:Tab E}(h:l5_ P E f I/\cr_ P f=true)(hr:r.OK P E):(ti f I r).OK P E:=λn D j=>by
 unfold ti tb at j;split at j
 .rename_i m;obtain rfl:=qNb m;obtain rfl:=qSj j;refine⟨(λR a k r hr=>nomatch hr),h.2,λJ e=>⟨rfl,?_⟩⟩;obtain rfl:=qSj e;exact h.1
 .exact hr n D j
end
open Go.ChangeShapes Go.WideShapes Go.Deep
def InK(k:IntKind)(n:Int):Prop:=k.min<=n/\n<=k.max
abbrev I64(n:Int):Prop:=-9223372036854775808<=n/\n<=9223372036854775807
def FitL{S:Nat->Type}(f:(t:Ty)->Den S t->Prop):(ts:tL Ty)->HL S ts->Prop|[],_=>True|t::ts,h=>f t h.1/\FitL f ts h.2
def FitC(B:Nat)(E:TE):Nat->(t:Ty)->Den E.S t->Prop|_,.int k,x=>InK k x|_,.bool,_=>True|_,.str,s=>s.length<=B|0,.sl _,xs=>xs.length<=B|k+1,.sl e,xs=>xs.length<=B/\∀x∈xs,FitL (FitC B E k) (E.flat e) (E.fl e x)|_,.st _,_=>True
def Fit(B:Nat)(E:TE)(t:Ty)(x:Den E.S t):Prop:=∀k,FitL (FitC B E k) (E.flat t) (E.fl t x)
structure Bulk{H:Type}(bk:DataW H->Nat):Prop where
 str:∀s,s.length<=bk (.lit (.string s))
 len:∀es sp,es.length<=bk (.slice es sp)
 el:∀es sp e,e∈es->bk e<=bk (.slice es sp)
 part:∀ps e,e∈ps->bk e<=bk (.agg ps)
theorem FitL.app{S:Nat->Type}{f:(t:Ty)->Den S t->Prop}:∀{ts us:tL Ty} {h:HL S ts} {k:HL S us},FitL f ts h->FitL f us k->FitL f (ts++us) (hap h k)
 | [],_,_,_,_,j=>j
 | _::_,_,_,_,h1,j=>⟨h1.1,h1.2.app j⟩
section
variable{E:TE}{z:Fz}
theorem RD.app:∀{ts us:tL Ty} {h:HL E.S ts} {k:HL E.S us} {vs f:tL tW},RD E z ts h vs->RD E z us k f->RD E z (ts++us) (hap h k) (vs++f)
 | [],_,_,_,_,_,h1,j=>by rw[h1.nil_inv];exact j
 | t::ts,us,h,k,vs,f,h1,j=>by
  obtain⟨v,vs',rfl,p,m⟩:=h1.uncons;exact RD.cons p (m.app j)
def prefB(ts us:tL Ty):tV:=decide (us.take ts.length=ts)
theorem prefB_eq{ts us:tL Ty}(h:prefB ts us=true):us=ts++us.drop ts.length:=by
 unfold prefB at h;have h1:=of_decide_eq_true h;have f:=zD ts.length us;rw[h1]at f;exact f.symm
def mR_(P:tT)(E:TE)(f:tA->Ty->tV)(total:Nat):Nat->tL Field->tL Ty->tV
 | off,[],ts=>Nat.beq off total&&ts.isEmpty
 | off,g::gs,ts=>match E.ty g.type with
  | some t=>Nat.beq g.offset off&&(f g.type t&&(prefB (E.flat t) ts&&mR_ P E f total (off+P.cellsOf g.type) gs (ts.drop (E.flat t).length)))
  | none=>false
def arrTy(E:TE)(t:Ty):Nat->tL Ty->tV|0,ts=>ts.isEmpty|n+1,ts=>prefB (E.flat t) ts&&arrTy E t n (ts.drop (E.flat t).length)
def inT(E:TE)(ids:tL tA)(T:tA)(t:Ty):tV:=(ids.any λn=>Nat.beq n T)&&decide (E.ty T=some t)
def tyB(P:tT)(E:TE)(ids:tL tA)(T:tA)(t:Ty):tV:=match P.underlying T,t with
  | some (.int k),.int f=>decide (k=f)
  | some .bool,.bool=>true
  | some .string,.str=>true
  | some (.slice e),.sl t=>inT E ids e t&&Nat.beq (P.cellsOf e) (E.size t)
  | some (.struct fs),.st m=>mR_ P E (inT E ids) (P.cellsOf T) 0 fs.toList (E.cs m)
  | some (.array c e),.st m=>match E.ty e with
   | some t=>inT E ids e t&&(Nat.beq (c*P.cellsOf e) (P.cellsOf T)&&arrTy E t c (E.cs m))
   | none=>false
  | _,_=>false
def tyOK(P:tT)(E:TE)(ids:tL tA):tV:=ids.all λT=>match E.ty T with|some t=>tyB P E ids T t|none=>false
theorem tyOK_at{P:tT}{E:TE}{ids:tL tA}{T:tA}{t:Ty}(h:tyOK P E ids=true)(hi:inT E ids T t=true):tyB P E ids T t=true:=by
 unfold inT at hi;rw[qAn,zy]at hi;obtain⟨⟨n,j,e⟩,f⟩:=hi;obtain rfl:=qNb e;have:=qm.1 h n j;rw[of_decide_eq_true f]at this;exact this
end
section
variable{H:Type}{enc:tA×tW->H}{P:tT}{E:TE}{w:tS}{spare:Nat->tV}{held:tV}
def eA_(w:tS):Fz:=⟨λk=>k<w.heap.size,w⟩
def Opens(B:Nat)(E:TE)(w:tS)(ts:tL Ty)(cs:tL tW):Prop:=∃h:HL E.S ts,RD E (eA_ w) ts h cs/\∀k,FitL (FitC B E k) ts h
theorem Opens.app{B:Nat}{ts us:tL Ty}{cs ds:tL tW}(h1:Opens B E w ts cs)(q:Opens B E w us ds):Opens B E w (ts++us) (cs++ds):=by
 obtain⟨h,p,m⟩:=h1;obtain⟨k,j,f⟩:=q;exact⟨hap h k,p.app j,λn=>(m n).app (f n)⟩
theorem sm_{B:Nat}{bk:DataW H->Nat}{f:tA->Ty->tV}{total m:Nat}(u:∀T t cs (x:DataW H×tL MemPlace),f T t=true->DataW.trod enc P w 0 spare held m T cs=some x->bk x.1<=B->Opens B E w (E.flat t) cs){cs:tL tW}(j:cs.length=total) :
  ∀{gs:tL Field} {off:Nat} {ts:tL Ty} {xs:tL (DataW H×tL MemPlace)},mR_ P E f total off gs ts=true->xs.length=gs.length->(∀x∈xs,bk x.1<=B) ->
   (∀(i:Nat) (g:Field),gs[i]? = some g->DataW.trod enc P w 0 spare held m g.type ((cs.drop g.offset).take (P.cellsOf g.type))=xs[i]?)->Opens B E w ts (cs.drop off)
 | [],off,ts,xs,h,_,_,_=>by
  simp only[mR_,qAn]at h;obtain rfl:off=total:=qNb h.1;obtain rfl:ts=[]:=by simpa using h.2
  rw[List.drop_eq_nil_of_le (by omega)];exact⟨(),.nil,λ_=>trivial⟩
 | g::gs,off,ts,xs,h,q,s,p=>by
  simp only[mR_]at h;split at h
  .rename_i t y;simp only[qAn]at h;obtain⟨h1,M,J,G⟩:=h;obtain rfl:g.offset=off:=qNb h1;cases xs with
   | nil=>simp at q
   | cons x xs=>
    have h0:=p 0 g rfl;simp only[jG]at h0;have F:=u _ _ _ _ M h0 (s x (qR ..));have D:=sm_ u j G (by simpa using q) (λx hx=>s x (qL _ hx)) (λi g' C=>by simpa using p (i+1) g' (by simpa using C));have:=F.app D;rw[←prefB_eq J,←jW,zD]at this;exact this
  .cases h
theorem arr_opens{B c m e n:Nat}{t:Ty}{cs:tL tW}(f:cs.length=n*c)(j:∀i,i<n->Opens B E w (E.flat t) ((cs.drop (i*c)).take c)):∀{k:Nat} {ts:tL Ty},k<=n->arrTy E t k ts=true->Opens B E w ts (cs.drop ((n-k)*c))
 | 0,ts,_,h=>by
  obtain rfl:ts=[]:=by simpa[arrTy]using h
  rw[List.drop_eq_nil_of_le (by rw[f,Nat.sub_zero];exact qA _)];exact⟨(),.nil,λ_=>trivial⟩
 | k+1,ts,u,h=>by
  simp only[arrTy,qAn]at h;have q:=j (n-(k+1)) (by omega);have p:=arr_opens (m:=m) (e:=e) f j (k:=k) (by omega) h.2;have:=q.app p;rw[←prefB_eq h.1]at this;have s:(n-k)*c=(n-(k+1))*c+c:=by
   rw[show n-k=n-(k+1)+1 by omega,zK]
  rw[s,←jW,zD]at this;exact this
theorem me_ {B:Nat} {bk:DataW H->Nat} (M:Bulk bk) {ids:tL tA} (hT:tyOK P E ids=true):∀(fuel:Nat) {T:tA} {t:Ty} {cs:tL tW} {x:DataW H×tL MemPlace},inT E ids T t=true->DataW.trod enc P w 0 spare held fuel T cs=some x->bk x.1<=B->Opens B E w (E.flat t) cs
 | 0,_,_,_,_,_,O,_=>by simp[DataW.trod]at O
 | fuel + 1,T,t,cs,x,hi,O,hB=>by
  have h:=tyOK_at hT hi;unfold tyB at h;split at h
  .rename_i k k' p;obtain rfl:=of_decide_eq_true h;obtain⟨m,rfl,rfl,hw⟩:=DataW.trod_int p O;exact⟨(m,()),.int .nil,λ_=>⟨by simpa[Lit.wf,InK,FitC]using hw,trivial⟩⟩
  .rename_i p;obtain⟨b,rfl,rfl⟩:=DataW.trod_bool p O;exact⟨(b,()),.bool .nil,λk=>⟨by cases k<;>trivial,trivial⟩⟩
  .rename_i p;obtain⟨s,rfl,rfl,hs⟩:=DataW.trod_string p O;refine⟨(s.data.toList,()),?_,λk=>⟨?_,trivial⟩⟩
   .have:Value.string s=S s.data.toList:=by simp[S]
    rw[this];exact .str .nil
   .have e:FitC B E k .str s.data.toList=(s.data.toList.length<=B):=by cases k<;>rfl
    show FitC B E k .str s.data.toList;rw[e];exact qN (M.str _) hB
  .rename_i e t p;simp only[qAn]at h;have hC:P.cellsOf e=E.size t:=qNb h.2;rcases DataW.trod_slice p O with⟨rfl,_⟩|⟨a,len,cap,elems,rest,n,G,rfl,hx,_,hl,hm,ZS,hi,_,_⟩
   .exact⟨([],()),.sl (rows:=[]) (SlF.nil _ _ _ _) (qA _) (λi x r h=>by simp at h) .nil,λk=>⟨by cases k<;>simp[FitC],trivial⟩⟩
   .obtain rfl:fuel=n:=Nat.succ.inj G;rw[hx]at hB;have ZU:len<=B:=by
     have:=M.len (elems.map (·.1)) (rest.map (·.1));rw[zj]at this;exact qN (by omega) (qN this hB)
    have hc:0<E.size t:=E.size_pos t
    let row:Nat->tL tW:=λi=>(w.cells? 0 (a.add (i*E.size t)) (E.size t)).getD []
    have D:∀i,i<len->w.cells? 0 (a.add (i*E.size t)) (E.size t)=some (row i)/\Opens B E w (E.flat t) (row i):=λi y=>by
     have h0:=hi i y;rw[qQ (by omega:i<elems.length)]at h0;obtain⟨cs',h1,C⟩:=qOb.1 h0;rw[hC]at h1;simp only[row,h1,zf];exact⟨trivial,me_ M hT fuel h.1 C (qN (M.el _ _ _ (zZ.2 ⟨_,zU _,rfl⟩)) hB)⟩
    have J:∀j,j<=len->∃xs:tL (Den E.S t),xs.length=j/\∀i x,xs[i]? = some x->RD E (eA_ w) (E.flat t) (E.fl t x) (row i)/\∀k,FitL (FitC B E k) (E.flat t) (E.fl t x):=by
     intro j
     induction j with
     | zero=>intro _;exact⟨[],rfl,λi x h=>by simp at h⟩
     | succ j ih=>
      intro hj;obtain⟨xs,h1,C⟩:=ih (by omega);obtain⟨hh,h3,h4⟩:=(D j (by omega)).2;refine⟨xs++[E.ufl t hh],by simp[h1],λi x hx=>?_⟩;rw[List.getElem?_append]at hx;split at hx
      .exact C i x hx
      .rename_i ZT;have ZX:i=j:=by
        have:i-xs.length<1:=by
         rcases qb (i-xs.length) 1 with h5|h5
         .exact h5
         .rw[qe (by simpa using h5)]at hx;cases hx
        omega
       subst ZX;rw[h1,Nat.sub_self]at hx;simp only[jG,qOi]at hx;subst hx;rw[E.fl_ufl];exact⟨h3,h4⟩
    obtain⟨xs,f,J⟩:=J len (qA _);have hr:∀(i:Nat) x r,xs[i]? = some x->((List.range len).map row)[i]? = some r->RD E (eA_ w) (E.flat t) (E.fl t x) r:=λi x r h1 C=>by
     have ZY:i<len:=by rw[←f];exact(qK.1 h1).1
     rw[qt,List.getElem?_range ZY]at C;simp only[qS,qOi]at C;subst C;exact(J i x h1).1
    refine⟨(xs,()),?_,λk=>⟨?_,trivial⟩⟩
    .have hs:SlF (eA_ w).F (E.size t) (some a) xs.length ((List.range len).map row) (eA_ w).w:=by
      refine⟨by simp[f],λhn=>?_⟩;obtain⟨b,off,spot⟩:=a;rw[f]at hn;have g0:=(World.cells?_some (D 0 hn).1).2;have Y:=g0.2 0 hc;obtain⟨c0,ZW⟩:∃c0,(row 0)[0]? = some c0:=⟨(row 0)[0]'(by rw[g0.1];exact hc),qQ _⟩;rw[ZW]at Y;have V:spot=none:=by simpa[Addr.add]using World.cell?_spot Y
      subst V;refine⟨b,off,rfl,?_,λi r hr=>?_⟩
      .have U:((Addr.add ⟨b,off,none⟩ (0*E.size t)).add 0).block=b:=by rw[Addr.add_mk,Addr.add_mk]
       unfold World.cell? at Y;split at Y
       .rename_i heap _ _ hh;rw[U]at hh;show b<w.heap.size;rcases qb b w.heap.size with h'|h'
        .exact h'
        .rw[qi h']at hh;cases hh
       .cases Y
      .rw[qt]at hr;by_cases y:i<len
       .rw[List.getElem?_range y]at hr;simp only[qS,qOi]at hr;subst hr;obtain⟨_,C,h3⟩:=World.cells?_some (D i y).1;refine⟨C,λj u p=>?_⟩;have hj:j<E.size t:=by rw[←C];exact(qK.1 p).1
        have:=h3 j hj;rw[Addr.add_mk,Addr.add_mk]at this;show w.cell? _=_;rw[this];exact p
       .rw[qe (by simp;omega)]at hr;cases hr
     have:=RD.sl (E:=E) (z:=eA_ w) (e:=t) (xs:=xs) (cap:=cap) (ts:=[]) (h:=()) hs (by rw[f];exact hl) hr .nil;rw[f]at this;exact this
    .have U:xs.length<=B:=by omega
     cases k with
     | zero=>exact U
     | succ k=>
      refine⟨U,λx hx=>?_⟩;obtain⟨i,y⟩:=qH.1 hx;exact(J i x y).2 k
  .rename_i fs m p;obtain⟨xs,q,G,rfl,Z,f,hf⟩:=DataW.trod_struct p O;obtain rfl:fuel=q:=Nat.succ.inj G;have U:∀x∈xs,bk x.1<=B:=λx hx=>qN (M.part _ _ (zZ.2 ⟨x,hx,rfl⟩)) hB
   have:=sm_ (bk:=bk) (λT t cs x hi ht U=>me_ M hT fuel hi ht U) Z h (by simpa using f) U (λi g Y=>hf i g (by simpa using Y));rw[jK]at this;exact this
  .rename_i c e m p;split at h
   .rename_i t ZV;simp only[qAn]at h;obtain⟨h1,C,h3⟩:=h;obtain⟨xs,q,G,rfl,Z,f,hf⟩:=DataW.trod_array p O;obtain rfl:fuel=q:=Nat.succ.inj G;have ZZ:cs.length=c*P.cellsOf e:=by rw[Z];exact(qNb C).symm
    have:=arr_opens (c:=P.cellsOf e) (m:=0) (e:=0) (t:=t) ZZ (λi hi=>by
     have:=hf i hi;rw[qQ (by omega)]at this;exact me_ M hT fuel h1 this (qN (M.part _ _ (zZ.2 ⟨_,zU _,rfl⟩)) hB)) (qA c) h3
    rw[Nat.sub_self,Nat.zero_mul,jK]at this;exact this
   .cases h
  .cases h
theorem qx_{B:Nat}{bk:DataW H->Nat}(G:Bulk bk){ids:tL tA}(C:tyOK P E ids=true){r:Reach}{V:Nat}{T:tA}{t:Ty}{v:tW}{d:DataW H}{ps:tL MemPlace}(hi:inT E ids T t=true)(p:Value.okWide P w r V T v)(h:DataW.Trod enc P w 0 spare held T v d ps)(M:bk d<=B) :
  ∃x:Den E.S t,(∃y,asV E t (E.cells t x)=some y/\∀(g:Ga),R1 P E (eA_ w) g y v)/\Fit B E t x:=by
 obtain⟨fuel,J⟩:=h;obtain⟨u,h1,U⟩:=me_ G C fuel hi J M;have s:=tyOK_at C hi;refine⟨E.ufl t u,?_,λk=>by rw[E.fl_ufl];exact U k⟩;have f:RD E (eA_ w) (E.flat t) (E.fl t (E.ufl t u)) v.cells.toList:=by rw[E.fl_ufl];exact h1
 have q:RT E (eA_ w) t (E.ufl t u) v:=by
  .unfold tyB at s;split at s
   .rename_i k Z j;obtain⟨m,rfl⟩:=okWide_int j p;exact f
   .rename_i j;obtain⟨m,rfl⟩:=okWide_bool j p;exact f
   .rename_i j;obtain⟨m,rfl⟩:=okWide_string j p;exact f
   .rename_i e t j;obtain⟨a,len,cap,rfl⟩:=okWide_slice j p;exact f
   .rename_i fs m j;obtain⟨cs,rfl,_⟩:=okWide_struct j p;exact⟨cs.toList,by rw[qw],f⟩
   .rename_i c e m j;simp only[Value.okWide,j]at p;obtain⟨cs,rfl,_⟩:=p;exact⟨cs.toList,by rw[qw],f⟩
   .cases s
 obtain⟨y,F,h4⟩:=o7_ (P:=P) q (λ_=>.none);refine⟨y,F,λg=>?_⟩;obtain⟨Y,D,O⟩:=o7_ (P:=P) q g;rw[F]at D;obtain rfl:=qSj D;exact O
theorem law_of_con{f:FuncId}{ps:tL Pm}{F:PA E ps->tO (Tp E.S (Rs.ts [(.bool,[])]++aI_ ps))}{ali:tV}(M:(af_ E ps [(.bool,[])] ali F).OK P E f)(J:l4_ ps=false){a:PA E ps}{y:Tp E.S (Rs.ts [(.bool,[])]++aI_ ps)}(O:F a=some y)
  (G:(ft_ (Rs.ts [(.bool,[])]) (aI_ ps) (bs_ _ y)).1=true) {svs:tL (V1 E)} (q:bA_ E ps a 0=some svs) {vs:tL tW} (p:All2 (R1 P E (eA_ w) λ_=>none) svs vs) (C:Glo E (eA_ w)) :
  Ret P f vs.toArray w λv w'=>v = .bool true/\Below w.heap.size w w':=by
 obtain⟨rh,bh,u,h⟩:=M tV a (λrh _=>some rh.1) true (by
  show(F a).bind _=_;rw[O];exact qM some G)
 have x:(eA_ w).In w:=λk u=>⟨u,rfl⟩
 refine(h w (eA_ w) (λ_=>none) [] svs vs q (by
  show HR P E [] (eA_ w).F w w (eA_ w) (λ_=>none) (upH (λ_=>none) (aY_ E ps a 0));rw[i4_ J];exact HR.nothing x C _) (λ_ _=>rfl) p).mono λv w' ⟨z',g',svr,_,_,_,m,j,D⟩=>?_
 refine⟨?_,D.chg.below⟩;have s:rh.1=true:=qSj u;have e:svr=[.one (.dt .bool rh.1)]:=(qSj m).symm;subst e;rw[s]at j;exact SV.bool_ok rfl j
end
end Rt
namespace Rt
def hy_{α:Type}[Inhabited α](key:α->Int)(xs:tL α):tO (tL α):=if xs.length<4611686018427387904 then some (Sort.pdq (λx y=>decide (key x<key y)) xs.toArray 0 xs.length (Lib.bitLen xs.length) true true).toList else none
end Rt
end Go
