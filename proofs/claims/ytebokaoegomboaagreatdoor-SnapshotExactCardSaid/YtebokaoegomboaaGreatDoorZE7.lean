/-
 What the statements of this seat hang on,part 7: Ua Ub Hs.
-/
import Derived.Test.YtebokaoegomboaaGreatDoorZE6
import Derived.Sort.AssemblyPlain
namespace Go.Proofs.YtebokaoegomboaaGreatDoor
open Go.Rt Go.RowKit
theorem oc_{xs:List Str}(h:xs.length<=1000):bd_ xs=some xs:=g9_ (n:=16) (by omega) (by omega)
def okU(i:Nat)(b:UInt8):Bool:=(decide (97<=b.toNat)&&decide (b.toNat<=122))||(!(i==0)&&((decide (48<=b.toNat)&&decide (b.toNat<=57))||b.toNat==45||b.toNat==95))
def gU(i:Nat)(b:UInt8):Option Bool:=if okU i b then none else some false
def vU(s:Str):Bool:=decide (1<=s.length)&&(decide (s.length<=32)&&((aL_ gU 0 s).getD true))
theorem gU_if(i:Nat)(b:UInt8){c:Bool}(h:c = !(okU i b)):(bif c then some (Step.done (Out.ret false))else some (Step.next ((i+1:Nat):Int)):Option (Step Int (Out Unit Bool)))=some (stepO (gU i b) i):=by
 subst h;unfold gU;cases okU i b<;>rfl
theorem okU_a(i:Nat)(b:UInt8):((!((decide ((b.toNat:Int)>=97))&&(decide ((b.toNat:Int)<=122))))&&(((i:Int)==0)||(!((((decide ((b.toNat:Int)>=48))&&(decide ((b.toNat:Int)<=57)))||((b.toNat:Int)==45))||((b.toNat:Int)==95))))) = !(okU i b):=by
 unfold okU;rw[Bool.eq_iff_iff];simp only[qAn,Bool.or_eq_true,Bool.not_eq_true',Bool.and_eq_false_iff,Bool.or_eq_false_iff,qDf,beq_iff_eq,beq_eq_false_iff_ne,Bool.not_eq_false'];omega
theorem uh_(s:Str)(h:s.length<=9223372036854775807):ak_ (iz_ s) BIG 0=some (dN_ (aL_ gU 0 s)):=by
 refine aV_ s gU (bE_ h) (λ i hi => ?_) ?_
 .unfold iz_;rw[kD_ hi,bj_ hi,au_ (by omega)];simp only[cond_true,qBs];exact gU_if i s[i] (okU_a i s[i])
 .unfold iz_;rw[br_];rfl
theorem pJ_(s:Str)(h:s.length<=9223372036854775807):e8_ s=some (vU s):=by
 unfold e8_ vU;have e1:(s==[]) = !decide (1<=s.length):=by cases s with|nil=>rfl|cons a l=>rw[Bool.eq_iff_iff];simp
 have e2:decide ((s.length:Int)>32) = !decide (s.length<=32):=by rw[Bool.eq_iff_iff];simp only[qDe,Bool.not_eq_true',qDf];omega
 rw[e1,e2];cases decide (1<=s.length)with
 | false=>rfl
 | true =>
  cases decide (s.length<=32)with
  | false=>rfl
  | true =>
   refine ac_ rfl ?_;exact bm_ (uh_ s h) (λ _=>rfl) rfl
theorem sT_(s:Str)(h:s.length<=9223372036854775807):ak_ (hq_ s) BIG 0=some (dN_ (aL_ gU 0 s)):=by
 refine aV_ s gU (bE_ h) (λ i hi => ?_) ?_
 .unfold hq_;rw[kD_ hi,bj_ hi,au_ (by omega)];simp only[cond_true,qBs];refine gU_if i s[i] ?_;rw[←okU_a];rw[Bool.eq_iff_iff];simp only[qAn,Bool.or_eq_true,Bool.not_eq_true',Bool.and_eq_false_iff,Bool.or_eq_false_iff,qDf,beq_iff_eq,beq_eq_false_iff_ne,bne_iff_ne,ne_eq]
 .unfold hq_;rw[br_];rfl
theorem sg_(s:Str)(h:s.length<=9223372036854775807):ii_ s=some (vU s):=by
 unfold ii_ vU;have e1:decide ((s.length:Int)<1) = !decide (1<=s.length):=by rw[Bool.eq_iff_iff];simp only[qDe,Bool.not_eq_true',qDf];omega
 have e2:decide ((s.length:Int)>32) = !decide (s.length<=32):=by rw[Bool.eq_iff_iff];simp only[qDe,Bool.not_eq_true',qDf];omega
 rw[e1,e2];cases decide (1<=s.length)with
 | false=>rfl
 | true =>
  cases decide (s.length<=32)with
  | false=>rfl
  | true =>
   refine ac_ rfl ?_;exact bm_ (sT_ s h) (λ _=>rfl) rfl
abbrev c2_(name:Str)(u:Xf):Bool:=u.Xy==name
def dW_(l:List Xf)(name:Str):Xf×Bool:=match l.find? (c2_ name)with|some u=>(u,true)|none=>(Xf.mk [] [] [],false)
theorem ld_(l:List Xf)(name:Str)(h:l.length<=1000):iW_ l name=some (at_ (c2_ name) l):=by
 rw[←jn_];refine bm_ (aV_ l _ (bE_ (by omega)) (λ i hi => ?_) ?_) (λ _=>rfl) rfl
 .unfold n5_;rw[aq_ hi,bj_ hi,au_ (by omega)];simp only[cond_true,qBs];unfold c2_;cases l[i].Xy==name<;>rfl
 .unfold n5_;rw[br_];rfl
def d6_(l:List Xf):Prop:=∀u∈l,u.Yp.length<=1000
theorem w0_(l:List Xf)(name:Str)(h:l.length<=1000):px_ l name=some (dW_ l name):=by
 unfold px_ dW_;refine aa_ (ld_ l name h) ?_;rw[jP_];cases hf:l.find? (c2_ name)with
 | none=>rfl
 | some u =>
  refine ac_ rfl ?_;refine aa_ ((nc_ (c2_ name) l (by rw[hf];rfl)).trans hf) rfl
theorem qY_(l:List Xf)(name:Str)(h:l.length<=1000)(hm:d6_ l):jk_ l name=some (dW_ l name):=by
 have e:dW_ l name=((l.find? (c2_ name)).map λ u=>(u,true)).getD (Xf.mk [] [] [],false):=by
  unfold dW_;cases l.find? (c2_ name)<;>rfl
 rw[e,←jm_ _ _ 0];refine bm_ (aV_ l _ (bE_ (by omega)) (λ i hi => ?_) ?_) (λ _=>rfl) rfl
 .unfold g1_;rw[aq_ hi,bj_ hi,au_ (by omega)];simp only[cond_true,qBs];unfold c2_;cases l[i].Xy==name with
  | false=>rfl
  | true =>
   refine ah_ rfl ?_;refine aa_ (oc_ (hm _ (List.getElem_mem hi))) rfl
 .unfold g1_;rw[br_];rfl
theorem sh_(l:List Xf)(name:Str)(hm:d6_ l):(dW_ l name).1.Yp.length<=1000:=by
 unfold dW_;cases hf:l.find? (c2_ name)with
 | none=>exact Nat.zero_le _
 | some u=>exact hm u (List.mem_of_find?_eq_some hf)
def hasM(l:List Str)(s:Str):Bool:=l.any λ m=>m==s
def dX_(l:List Xf)(user group:Str):Bool:=user==group||hasM (dW_ l group).1.Yp user
theorem index_texts(l:List Str)(s:Str)(h:l.length<=1000):ef_ l s=some (at_ (λ m=>m==s) l):=by
 rw[←jn_];refine bm_ (aV_ l _ (bE_ (by omega)) (λ i hi => ?_) ?_) (λ _=>rfl) rfl
 .unfold dv_;rw[aq_ hi,bj_ hi,au_ (by omega)];simp only[cond_true,qBs];have e:(s==l[i])=(l[i]==s):=by rw[Bool.eq_iff_iff,beq_iff_eq,beq_iff_eq];exact⟨Eq.symm,Eq.symm⟩
  rw[e];cases l[i]==s<;>rfl
 .unfold dv_;rw[br_];rfl
theorem at_any{α:Type}(p:α->Bool)(l:List α):decide (at_ p l>=0)=l.any p:=by
 have h:=jP_ p l;have e:l.any p=(l.find? p).isSome:=by
  rw[Bool.eq_iff_iff,List.find?_isSome,List.any_eq_true]
 rw[e];have:decide (at_ p l>=0) = !decide (at_ p l<0):=by rw[Bool.eq_iff_iff];simp
 rw[this,h];cases l.find? p<;>rfl
theorem vx_(l:List Str)(s:Str)(h:l.length<=1000):bZ_ l s=some (hasM l s):=by
 unfold bZ_ hasM;refine aa_ (index_texts l s h) ?_;rw[at_any]
theorem hJ_(l:List Xf)(user group:Str)(h:l.length<=1000)(hm:d6_ l):em_ l user group=some (dX_ l user group):=by
 unfold em_ dX_;cases user==group with
 | true=>rfl
 | false =>
  refine ac_ rfl ?_;refine aa_ (qY_ l group h hm) ?_;have hs:=sh_ l group hm;have hz:(dW_ l group).2=false->(dW_ l group).1.Yp=[]:=by
   unfold dW_;cases l.find? (c2_ group)with
   | none=>exact λ _=>rfl
   | some u=>exact λ h=>nomatch h
  cases h2:(dW_ l group).2 with
  | true=>exact aa_ (ah_ rfl (aa_ (vx_ _ user hs) rfl)) rfl
  | false=>rw[hz h2];exact aa_ (a:=false) rfl rfl
theorem ui_(l:List Xf)(user group:Str)(h:l.length<=1000)(hm:d6_ l):m5_ l user group=some (dX_ l user group):=by
 unfold m5_ dX_;cases user==group with
 | true=>rfl
 | false =>
  refine ac_ rfl ?_;refine aa_ (w0_ l group h) ?_;have hs:=sh_ l group hm;generalize dW_ l group=q at hs;have e:(false||hasM q.1.Yp user)=((q.1.Yp.find? λ m=>m==user).map λ _=>true).getD false:=by
   unfold hasM;rw[Bool.false_or,Bool.eq_iff_iff,List.any_eq_true];cases hf:q.1.Yp.find? λ m=>m==user with
   | none =>
    rw[List.find?_eq_none]at hf;simp only[Option.map_none,Option.getD_none];exact⟨fun⟨x,h1,h2⟩=>absurd h2 (hf x h1),λ h=>nomatch h⟩
   | some x=>exact⟨λ _=>rfl,λ _=>⟨x,List.mem_of_find?_eq_some hf,by simpa using List.find?_some hf⟩⟩
  rw[e,←jm_ _ _ 0];refine bm_ (aV_ _ _ (bE_ (by omega)) (λ i hi => ?_) ?_) (λ _=>rfl) rfl
  .unfold jK_;rw[aq_ hi,bj_ hi,au_ (by omega)];simp only[cond_true,qBs];cases q.1.Yp[i]==user<;>rfl
  .unfold jK_;rw[br_];rfl
theorem eqS_iff(x y:Str):eqS x y=true↔x=y:=beq_iff_eq
def Cnt(ks:List Str)(vs:List Int)(l:List Xf):Prop:=ks.length=vs.length/\∀n,aG_ eqS ks vs n 0=((l.countP (c2_ n):Nat):Int)
theorem Cnt.put{ks:List Str}{vs:List Int}{l:List Xf}{u:Xf}(h:Cnt ks vs l)(hl:l.length<=1000):Cnt (aQ_ eqS ks u.Xy) (bn_ eqS ks vs u.Xy (w64 (aG_ eqS ks vs u.Xy 0+1))) (l++[u]):=by
 refine⟨pE_ h.1,λ n => ?_⟩;have hc:=List.countP_le_length (p:=c2_ u.Xy) (l:=l);rw[pF_ eqS_iff h.1,h.2 u.Xy,h.2 n,au_ (by omega),List.countP_append];have e:List.countP (c2_ n) [u]=if u.Xy==n then 1 else 0:=by simp[List.countP_cons,c2_]
 rw[e];have e2:eqS n u.Xy=(u.Xy==n):=by unfold eqS;rw[Bool.eq_iff_iff,beq_iff_eq,beq_iff_eq];exact⟨Eq.symm,Eq.symm⟩
 rw[e2];cases hn:u.Xy==n with
 | true=>obtain rfl:=beq_iff_eq.1 hn;rfl
 | false=>rfl
def dY_(l:List Xf)(n:Str):Bool:=l.any (c2_ n)
def gM(l:List Xf)(ms:List Str)(k:Nat)(m:Str):Option Int:=if !(dY_ l m)||(decide (0<k) && !(Op.bytesLess (ms.getD (k-1) []) m))then some 26 else none
def memE(l:List Xf)(ms:List Str):Int:=(aL_ (gM l ms) 0 ms).getD 0
def gC(l:List Xf)(i:Nat)(u:Xf):Option Int:=if !(vU u.Xy)then some 25 else if(l.take i).any (c2_ u.Xy)then some 7 else if !(u.Yd==[]) && !(dY_ l u.Yd)then some 26 else if memE l u.Yp != 0 then some (memE l u.Yp)else none
def lx_(l:List Xf):Int:=if l.length>64 then 22 else(aL_ (gC l) 0 l).getD 0
def nd_(l:List Xf):Prop:=∀u∈l,u.Xy.length<=9223372036854775807
theorem any_find{α:Type}(p:α->Bool)(l:List α):l.any p = !((l.find? p).isNone):=by
 rw[Bool.eq_iff_iff,List.any_eq_true];cases hf:l.find? p with
 | none =>
  rw[List.find?_eq_none]at hf;exact⟨fun⟨x,h1,h2⟩=>absurd h2 (hf x h1),λ h=>nomatch h⟩
 | some x=>exact⟨λ _=>rfl,λ _=>⟨x,List.mem_of_find?_eq_some hf,by simpa using List.find?_some hf⟩⟩
theorem at_absent(l:List Xf)(n:Str):decide (at_ (c2_ n) l<0) = !(dY_ l n):=by
 unfold dY_;rw[jP_,any_find,Bool.not_not]
theorem at_before(l:List Xf)(i:Nat)(hi:i<l.length):decide (at_ (c2_ l[i].Xy) l<(i:Int))=(l.take i).any (c2_ l[i].Xy):=by
 rw[Bool.eq_iff_iff,qDe,List.any_eq_true];rcases kE_ (c2_ l[i].Xy) l with⟨h1,_⟩|⟨j,x,h1,h2,h3,h4,h5⟩
 .rw[List.find?_eq_none]at h1;exact absurd (beq_self_eq_true l[i].Xy) (h1 _ (List.getElem_mem hi))
 .rw[h2];constructor
  .intro h;have hj:j<i:=by omega
   refine⟨x,?_,h4⟩;rw[List.mem_take_iff_getElem];have hlt:=(List.getElem?_eq_some_iff.1 h3).1;exact⟨j,by omega,(List.getElem?_eq_some_iff.1 h3).2⟩
  .rintro⟨y,hy,hp⟩;rw[List.mem_take_iff_getElem]at hy;obtain⟨q,hq,rfl⟩:=hy;rcases Nat.lt_or_ge q j with h|h
   .have:=h5 q _ h (List.getElem?_eq_getElem (by omega));rw[hp]at this;cases this
   .omega
theorem w1_(l:List Xf)(u:Xf)(h:l.length<=1000)(hu:u.Yp.length<=1000):ak_ (fu_ u l) BIG 0=some (dN_ (aL_ (gM l u.Yp) 0 u.Yp)):=by
 refine aV_ _ _ (bE_ (by omega)) (λ i hi => ?_) ?_
 .unfold fu_;rw[aq_ hi,bj_ hi,au_ (by omega)];simp only[cond_true,qBs];refine aa_ (ld_ l _ h) ?_;rw[at_absent];unfold gM;cases hp:dY_ l u.Yp[i]with
  | false=>rfl
  | true =>
   rcases Nat.eq_zero_or_pos i with rfl|h0
   .rfl
   .have e:decide ((i:Int)>0)=true:=by simpa using h0
    have e2:decide (0<i)=true:=by simpa using h0
    rw[e,e2,iZ_ [] h0 hi (by omega)];simp only[Bool.not_true,cond_false,cond_true,qBs,Bool.false_or,Bool.true_and];cases Op.bytesLess (u.Yp.getD (i-1) []) u.Yp[i]<;>rfl
 .unfold fu_;rw[br_];rfl
theorem ref05_one(l:List Xf)(i:Nat)(hi:i<l.length)(h:l.length<=1000)(hm:d6_ l)(hs:nd_ l):hr_ l (i:Int)=some ((gC l i l[i]).getD 0):=by
 unfold hr_ gC;rw[aq_ hi];refine aa_ rfl (aa_ (sg_ _ (hs _ (List.getElem_mem hi))) ?_);cases hv:vU l[i].Xy with
 | false=>rfl
 | true =>
  refine ac_ rfl (aa_ (ld_ l _ h) ?_);rw[at_before l i hi];cases hb:(l.take i).any (c2_ l[i].Xy)with
  | true=>rfl
  | false =>
   refine ac_ rfl ?_;have e:Option.bind (bif(!(l[i].Yd==[]))then Option.bind (iW_ l l[i].Yd) fun(y4:Int)=>some (decide (y4<0))else some false)=Option.bind (some (!(l[i].Yd==[]) && !(dY_ l l[i].Yd)):Option Bool) (β:=Int):=by
    congr 1
    cases l[i].Yd==[]with
    | true=>rfl
    | false =>
     refine ah_ rfl (aa_ (ld_ l _ h) ?_);rw[at_absent];rfl
   rw[e];refine aa_ rfl ?_;cases hl : !(l[i].Yd==[]) && !(dY_ l l[i].Yd)with
   | true=>rfl
   | false =>
    refine ac_ rfl ?_;refine(bm_ (w1_ l l[i] h (hm _ (List.getElem_mem hi))) (λ _=>rfl) rfl).trans ?_;show some (memE l l[i].Yp)=_;cases hz:memE l l[i].Yp != 0 with
    | true=>simp
    | false=>simp;simpa using hz
theorem gC_ne(l:List Xf)(i:Nat)(u:Xf):(if(gC l i u).getD 0 != 0 then some ((gC l i u).getD 0)else none)=gC l i u:=by
 unfold gC;split
 .rfl
 .split
  .rfl
  .split
   .rfl
   .split
    .rename_i h;simpa using h
    .rfl
theorem vy_(l:List Xf)(h:l.length<=1000)(hm:d6_ l)(hs:nd_ l):k0_ l=some (lx_ l):=by
 unfold k0_ lx_;by_cases hl:l.length>64
 .rw[if_pos hl];exact ah_ (by simp;omega) rfl
 .rw[if_neg hl];refine ac_ (by simp;omega) ?_;refine bm_ (aV_ l _ (bE_ (by omega)) (λ i hi => ?_) ?_) (λ _=>rfl) rfl
  .unfold kw_;rw[bj_ hi,au_ (by omega)];refine ah_ rfl (aa_ (ref05_one l i hi h hm hs) ?_);rw[←gC_ne l i l[i]];cases hz:(gC l i l[i]).getD 0 != 0 with
   | true=>simp[hz,stepO]
   | false=>simp[stepO]
  .unfold kw_;rw[br_];rfl
theorem rY_(l:List Xf)(ms:List Str)(ks:List Str)(vs:List Int)(hc:Cnt ks vs l)(hu:ms.length<=1000):jF_ (ks,vs) ms=some (memE l ms,ks,vs):=by
 have hz:∀n,(aG_ eqS ks vs n 0==0) = !(dY_ l n):=λ n=>by
  rw[hc.2 n];unfold dY_;rw[Bool.eq_iff_iff,beq_iff_eq,Bool.not_eq_true',List.any_eq_false];have:((l.countP (c2_ n):Nat):Int)=0↔l.countP (c2_ n)=0:=by omega
  rw[this,List.countP_eq_zero]
 have hl:ak_ (gH_ ms (ks,vs)) BIG 0=some (dN_ ((aL_ (gM l ms) 0 ms).map λ e=>(e,ks,vs))):=by
  have hmap:∀(k:Nat) (q:List Str),(aL_ (gM l ms) k q).map (λ e=>(e,ks,vs))=aL_ (λ i m=>(gM l ms i m).map λ e=>(e,ks,vs)) k q:=by
   intro k q
   induction q generalizing k with
   | nil=>rfl
   | cons a q ih =>
    simp only[aL_];cases gM l ms k a with
    | some r=>rfl
    | none=>exact ih (k+1)
  rw[hmap];refine aV_ _ _ (bE_ (by omega)) (λ i hi => ?_) ?_
  .unfold gH_;rw[aq_ hi,bj_ hi,au_ (by omega)];simp only[cond_true,qBs];rw[hz];unfold gM;cases hp:dY_ l ms[i]with
   | false=>rfl
   | true =>
    rcases Nat.eq_zero_or_pos i with rfl|h0
    .rfl
    .have e:decide ((i:Int)>0)=true:=by simpa using h0
     have e2:decide (0<i)=true:=by simpa using h0
     rw[e,e2,iZ_ [] h0 hi (by omega)];simp only[Bool.not_true,cond_false,cond_true,qBs,Bool.false_or,Bool.true_and];cases Op.bytesLess (ms.getD (i-1) []) ms[i]<;>rfl
  .unfold gH_;rw[br_];rfl
 unfold jF_ memE;rw[hl];cases aL_ (gM l ms) 0 ms<;>rfl
theorem sV_(l:List Xf)(h:l.length<=1000):∃ks vs,ak_ (iA_ l) BIG (0,([]:List Str),([]:List Int))=some (ks,vs)/\Cnt ks vs l:=by
 let f:List Str×List Int->Nat->Xf->List Str×List Int:=λ s _ u=>(aQ_ eqS s.1 u.Xy,bn_ eqS s.1 s.2 u.Xy (w64 (aG_ eqS s.1 s.2 u.Xy 0+1)))
 have key:∀(i:Nat) (q:List Xf) (s:List Str×List Int) (p:List Xf),p.length+q.length<=1000->Cnt s.1 s.2 p->Cnt (fv_ f s i q).1 (fv_ f s i q).2 (p++q):=by
  intro i q
  induction q generalizing i with
  | nil=>intro s p _ hc;simpa[fv_]using hc
  | cons u q ih =>
   intro s p hl hc;simp only[qLc]at hl;have:=ih (i+1) (f s i u) (p++[u]) (by simp;omega) (hc.put (by omega));simpa[fv_]using this
 refine⟨(fv_ f ([],[]) 0 l).1,(fv_ f ([],[]) 0 l).2,?_,by simpa using key 0 l ([],[]) [] (by simpa using h) ⟨rfl,λ n=>rfl⟩⟩;refine jO_ (τ:=Int×List Str×List Int) l f (λ i s=>((i:Int),s.1,s.2)) (λ _ _=>True) (λ s=>(s.1,s.2)) ([],[]) (bE_ (by omega)) trivial (λ i s hi _=>⟨?_,trivial⟩) (λ s _ => ?_)
 .unfold iA_;simp only;rw[bj_ hi,aq_ hi,au_ (by omega)];rfl
 .unfold iA_;simp only;rw[br_];rfl
theorem w2_(l:List Xf)(h:l.length<=1000)(hm:d6_ l)(hs:nd_ l):hy_ l=some (lx_ l):=by
 unfold hy_ lx_;by_cases hl:l.length>64
 .rw[if_pos hl];exact ah_ (by simp;omega) rfl
 .rw [if_neg hl];refine ac_ (by simp;omega) ?_;obtain⟨ka,va,h1,hca⟩:=sV_ l h;refine aa_ h1 ?_;refine bm_ (o:=aL_ (gC l) 0 l) ?_ (λ _=>rfl) rfl;refine fq_ (body:=gg_ l) (J:=λ i t b=>∃ks vs,t=((i:Int),ka,va,ks,vs)/\Cnt ks vs (l.take i)/\b=dN_ (aL_ (gC l) i (l.drop i))) l.length (bE_ (by omega)) (λ t b hJ => ?_) (λ i t b hi hJ => ?_) ⟨[],[],rfl,⟨rfl,λ n=>by simp[aG_]⟩,by simp⟩
  .obtain⟨ks,vs,rfl,_,rfl⟩:=hJ;unfold gg_;simp only;rw[br_];simp[aL_,dN_]
  .obtain⟨ks,vs,rfl,hc,rfl⟩:=hJ;have hmem:=List.getElem_mem hi;have hput:=hc.put (u:=l[i]) (by rw[List.length_take];omega);rw[←iL_ hi]at hput;rw[List.drop_eq_getElem_cons hi];have hpos:decide (aG_ eqS ks vs l[i].Xy 0>0)=(l.take i).any (c2_ l[i].Xy):=by
    rw[hc.2 l[i].Xy,Bool.eq_iff_iff,qDe,List.any_eq_true];have:((List.countP (c2_ l[i].Xy) (l.take i):Nat):Int)>0↔0<List.countP (c2_ l[i].Xy) (l.take i):=by omega
    rw[this,List.countP_pos_iff]
   have hlead:Option.bind (bif(!(l[i].Yd==[]))then some ((aG_ eqS ka va l[i].Yd 0)==0)else some false)=Option.bind (some (!(l[i].Yd==[]) && !(dY_ l l[i].Yd)):Option Bool) (β:=Step (Int×(List Str)×(List Int)×(List Str)×(List Int)) (Out Unit Int)):=by
    congr 1
    cases l[i].Yd==[]with
    | true=>rfl
    | false =>
     have:(aG_ eqS ka va l[i].Yd 0==0) = !(dY_ l l[i].Yd):=by
      rw[hca.2 l[i].Yd];unfold dY_;rw[Bool.eq_iff_iff,beq_iff_eq,Bool.not_eq_true',List.any_eq_false];have:((l.countP (c2_ l[i].Yd):Nat):Int)=0↔l.countP (c2_ l[i].Yd)=0:=by omega
      rw[this,List.countP_eq_zero]
     rw[this];rfl
   have hbody:gg_ l ((i:Int),ka,va,ks,vs)=some (match gC l i l[i]with|some r => .done (.ret r)|none => .next (((i+1:Nat):Int),ka,va,aQ_ eqS ks l[i].Xy,bn_ eqS ks vs l[i].Xy (w64 (aG_ eqS ks vs l[i].Xy 0+1)))):=by
    unfold gg_ gC;simp only;rw[bj_ hi,aq_ hi];refine ah_ rfl (aa_ rfl (aa_ (pJ_ _ (hs _ hmem)) ?_));cases vU l[i].Xy with
    | false=>rfl
    | true =>
     refine ac_ rfl ?_;rw[hpos];cases(l.take i).any (c2_ l[i].Xy)with
     | true=>rfl
     | false =>
      refine ac_ rfl ?_;rw[hlead];refine aa_ rfl ?_;cases !(l[i].Yd==[]) && !(dY_ l l[i].Yd)with
      | true=>rfl
      | false =>
       refine ac_ rfl (aa_ (rY_ l _ ka va hca (hm _ hmem)) ?_);simp only;cases hz:memE l l[i].Yp != 0 with
       | true=>simp
       | false=>simp only[cond_false];rw[au_ (by omega)];rfl
   cases hg:gC l i l[i]with
   | some r =>
    rw[hg]at hbody;exact .inl (by rw[hbody];simp[aL_,hg,dN_])
   | none =>
    rw[hg]at hbody;exact .inr ⟨_,hbody,_,_,rfl,hput,by simp[aL_,hg]⟩
theorem has_and(x:Int)(k:Nat)(hk:k<63)(h1:x<=9223372036854775807):(decide (x>=0)&&(bV_ .i64 x ((2^k:Nat):Int)) != 0)=am_ x k:=by
 by_cases h0:0<=x
 .obtain⟨n,rfl⟩:∃n:Nat,x=(n:Int):=⟨x.toNat,by omega⟩;have hk2:2^k<2^63:=Nat.pow_lt_pow_right (by omega) hk;have h0':decide ((n:Int)>=0)=true:=by simp
  have e1:(((n&&&2^k:Nat):Int) != 0)=(n&&&2^k != 0):=by
   rw[Bool.eq_iff_iff];simp only[bne_iff_ne,ne_eq];omega
  rw[h0',kC_ (by omega) hk2,e1,bit_and,i0_,tbit];rfl
 .have h0':decide (x>=0)=false:=by simp;omega
  rw[h0',i1_ (by omega)];rfl
theorem ip_(x:Int)(k:Nat)(hk:k<63)(h1:x<=9223372036854775807):ar_ x ((2^k:Nat):Int)=some (am_ x k):=congrArg some (has_and x k hk h1)
theorem fQ_(x:Int)(k:Nat)(hk:k<63)(h1:x<=9223372036854775807):e5_ x ((2^k:Nat):Int)=some (am_ x k):=rK_ x k hk h1
theorem jS_(x:Int)(k:Nat)(hk:k<63)(h1:x<=9223372036854775807):g5_ x ((2^k:Nat):Int)=some (am_ x k):=rK_ x k hk h1
theorem big_succ:BIG=18446744073709551610+6:=rfl
theorem orI_i64{a b:Nat}(ha:a<2^63)(hb:b<2^63):orI .i64 a b=((a|||b:Nat):Int):=by
 have h1:a|||b<2^63:=Nat.or_lt_two_pow ha hb
 show IntKind.i64.wrap (((BitVec.ofInt 64 (a:Int)|||BitVec.ofInt 64 (b:Int)).toNat:Nat):Int)=_;rw[BitVec.toNat_or,fZ_ (by omega),fZ_ (by omega)];exact eW_ ⟨by omega,by omega⟩
def grB(n:Nat)(mem own:Bool)(i:Nat):Bool:=(n.testBit i||(n.testBit (i+3)&&mem))||(n.testBit (i+6)&&own)
def allowsN(n:Nat)(mem own:Bool)(w:Nat):Bool:=(!(w.testBit 0)||grB n mem own 0)&&((!(w.testBit 1)||grB n mem own 1)&&(!(w.testBit 2)||grB n mem own 2))
def oL_(l:List Xf)(user uid gid:Str)(mode want:Int):Bool:=decide (0<=mode)&&(decide (0<=want)&&(decide (want<=7)&&allowsN mode.toNat (dX_ l user gid) (user==uid) want.toNat))
theorem and_self_iff(a w:Nat)(hw:w<8):(a&&&w==w)=((!(w.testBit 0)||a.testBit 0)&&((!(w.testBit 1)||a.testBit 1)&&(!(w.testBit 2)||a.testBit 2))):=by
 rw[Bool.eq_iff_iff,beq_iff_eq];constructor
 .intro h;have k:∀i,(!(w.testBit i)||a.testBit i)=true:=λ i=>by
   have:=congrArg (λ q=>q.testBit i) h;simp only[Nat.testBit_and]at this;cases hw:w.testBit i<;>cases ha:a.testBit i<;>simp_all
  simp only[k,Bool.and_self]
 .intro h;simp only[qAn]at h
  apply Nat.eq_of_testBit_eq;intro i;rw[Nat.testBit_and];have k:∀{x y:Bool},(!x||y)=true->(y&&x)=x:=fun{x y}=>by cases x<;>cases y<;>simp
  match i with
  | 0=>exact k h.1
  | 1=>exact k h.2.1
  | 2=>exact k h.2.2
  | i+3 =>
   have:w.testBit (i+3)=false:=Nat.testBit_lt_two_pow (Nat.lt_of_lt_of_le (by omega:w<2^3) (Nat.pow_le_pow_right (by omega) (by omega)));simp[this]
theorem ne_(n i:Nat)(hi:i<3):(n%8).testBit i=n.testBit i:=by
 rw[show(8:Nat)=2^3 from rfl,Nat.testBit_mod_two_pow];simp[hi]
theorem granted_bits(n:Nat)(mem own:Bool)(i:Nat)(hi:i<3):((if own then(if mem then n%8|||n/8%8 else n%8)|||n/64%8 else(if mem then n%8|||n/8%8 else n%8)):Nat).testBit i=grB n mem own i:=by
 have h8:(n/8%8).testBit i=n.testBit (i+3):=by rw[ne_ _ _ hi,show(8:Nat)=2^3 from rfl,Nat.testBit_div_two_pow]
 have h64:(n/64%8).testBit i=n.testBit (i+6):=by rw[ne_ _ _ hi,show(64:Nat)=2^6 from rfl,Nat.testBit_div_two_pow]
 unfold grB;cases mem<;>cases own<;>simp[Nat.testBit_or,h8,h64,ne_ _ _ hi]
theorem oM_(l:List Xf)(user uid gid:Str)(mode want:Int)(h:l.length<=1000)(hm:d6_ l)(h1:mode<=9223372036854775807):fo_ l user uid gid mode want=some (oL_ l user uid gid mode want):=by
 unfold fo_ oL_;by_cases h0:0<=mode/\0<=want/\want<=7
 .obtain⟨n,rfl⟩:∃n:Nat,mode=(n:Int):=⟨mode.toNat,by omega⟩;obtain⟨w,rfl⟩:∃w:Nat,want=(w:Int):=⟨want.toNat,by omega⟩;refine ac_ (by simp;omega) ?_;rw[hJ_ l user gid h hm];have d0:(n:Int).tmod 8=((n%8:Nat):Int):=rfl;have d8:(IntKind.i64.wrap ((n:Int).tdiv 8)).tmod 8=((n/8%8:Nat):Int):=by
   rw[show(n:Int).tdiv 8=((n/8:Nat):Int)from rfl,eW_ ⟨by omega,by omega⟩];rfl
  have d64:(IntKind.i64.wrap ((n:Int).tdiv 64)).tmod 8=((n/64%8:Nat):Int):=by
   rw[show(n:Int).tdiv 64=((n/64:Nat):Int)from rfl,eW_ ⟨by omega,by omega⟩];rfl
  rw[d0,d8,d64];generalize dX_ l user gid=mem;have b1:n%8<8:=Nat.mod_lt _ (by omega);have b2:n/8%8<8:=Nat.mod_lt _ (by omega);have b3:n/64%8<8:=Nat.mod_lt _ (by omega);have b4:n%8|||n/8%8<2^3:=Nat.or_lt_two_pow (by omega) (by omega)
  refine aa_ (a:=((if mem then n%8|||n/8%8 else n%8:Nat):Int)) ?_ ?_
  .refine aa_ rfl ?_;cases mem with
   | true=>rw[cond_true,orI_i64 (by omega) (by omega)];rfl
   | false=>rfl
  .have b5:(if mem then n%8|||n/8%8 else n%8:Nat)<2^3:=by split<;>omega
   have hg:=λ own i hi=>granted_bits n mem own i hi
   generalize(if mem then n%8|||n/8%8 else n%8:Nat)=q at b5 hg;have b6:q|||n/64%8<2^3:=Nat.or_lt_two_pow b5 (by omega)
   refine aa_ (a:=((if user==uid then q|||n/64%8 else q:Nat):Int)) ?_ ?_
   .cases user==uid with
    | true=>rw[cond_true,orI_i64 (by omega) (by omega)];rfl
    | false=>rfl
   .have hg':=hg (user==uid);have b7:(if user==uid then q|||n/64%8 else q:Nat)<8:=by split<;>omega
    generalize(if user==uid then q|||n/64%8 else q:Nat)=g at hg' b7;rw[kC_ (by omega) (by omega)];have e:(((g&&&w:Nat):Int)==(w:Int))=(g&&&w==w):=by rw[Bool.eq_iff_iff,beq_iff_eq,beq_iff_eq];omega
    rw[e,and_self_iff g w (by omega),hg' 0 (by omega),hg' 1 (by omega),hg' 2 (by omega)];have c1:decide (0<=(n:Int))=true:=by simp
    have c2:decide (0<=(w:Int))=true:=by simp
    have c3:decide ((w:Int)<=7)=true:=by simp;omega
    rw[c1,c2,c3,qTn,qTn];rfl
 .refine ah_ (by simp;omega) ?_;have:(decide (0<=mode)&&(decide (0<=want)&&decide (want<=7)))=false:=by
   cases h5:(decide (0<=mode)&&(decide (0<=want)&&decide (want<=7)))with
   | false=>rfl
   | true=>simp at h5;omega
  congr 1
  revert this;cases decide (0<=mode)<;>cases decide (0<=want)<;>cases decide (want<=7)<;>simp
theorem ref06_body(l:List Xf)(user uid gid:Str)(n w i:Nat)(hi:i<=2)(h:l.length<=1000)(hm:d6_ l)(hn:n<2^63)(hw:w<8) :
  jL_ (n:Int) l user gid uid (w:Int) ((2^i:Nat):Int)=some (if !(w.testBit i)||grB n (dX_ l user gid) (user==uid) i then .next ((2^(i+1):Nat):Int)else .done (.ret false)):=by
 have hp:2^i<=4:=by
  have:2^i<=2^2:=Nat.pow_le_pow_right (by omega) hi;omega
 have hp1:=Nat.two_pow_pos i;have e8:w64 (8*((2^i:Nat):Int))=((2^(i+3):Nat):Int):=by
  rw[Nat.pow_add];rw[ap_ ⟨by omega,by omega⟩];omega
 have e64:w64 (64*((2^i:Nat):Int))=((2^(i+6):Nat):Int):=by
  rw[Nat.pow_add];rw[ap_ ⟨by omega,by omega⟩];omega
 have e2:w64 (2*((2^i:Nat):Int))=((2^(i+1):Nat):Int):=by
  rw[Nat.pow_add];rw[ap_ ⟨by omega,by omega⟩];omega
 have hb:=λ k hk=>jS_ (n:Int) k hk (by omega)
 have hq:quoI .i64 (w:Int) ((2^i:Nat):Int)=some ((w/2^i:Nat):Int):=by
  unfold quoI;rw[if_neg (by omega),show(w:Int).tdiv ((2^i:Nat):Int)=((w/2^i:Nat):Int)from rfl];have:=Nat.div_le_self w (2^i);generalize w/2^i=q at this;rw[eW_ ⟨by omega,by omega⟩]
 have ht:(((w/2^i:Nat):Int).tmod 2==1)=w.testBit i:=by
  rw[←tbit,show((w/2^i:Nat):Int).tmod 2=((w/2^i%2:Nat):Int)from rfl,Bool.eq_iff_iff,beq_iff_eq,beq_iff_eq];omega
 unfold jL_;rw[e8,e64,e2,hb i (by omega),hb (i+3) (by omega),hb (i+6) (by omega),hq];simp only[i0_];refine ah_ (by rw[qDe];omega) ?_;rw[ui_ l user gid h hm];simp only[qBs];rw[ht];unfold grB;cases n.testBit i<;>cases n.testBit (i+3)<;>cases dX_ l user gid<;>cases n.testBit (i+6)<;>cases user==uid<;>cases w.testBit i<;>rfl
theorem uj_(l:List Xf)(user uid gid:Str)(mode want:Int)(h:l.length<=1000)(hm:d6_ l)(h1:mode<=9223372036854775807):m6_ l user uid gid mode want=some (oL_ l user uid gid mode want):=by
 unfold m6_ oL_;by_cases h0:0<=mode/\0<=want/\want<=7
 .obtain⟨n,rfl⟩:∃n:Nat,mode=(n:Int):=⟨mode.toNat,by omega⟩;obtain⟨w,rfl⟩:∃w:Nat,want=(w:Int):=⟨want.toNat,by omega⟩;refine ac_ (by simp;omega) ?_;have c1:decide (0<=(n:Int))=true:=by simp
  have c2:decide (0<=(w:Int))=true:=by simp
  have c3:decide ((w:Int)<=7)=true:=by simp;omega
  rw[c1,c2,c3,qTn,qTn];have hb:=λ i hi=>ref06_body l user uid gid n w i hi h hm (by omega) (by omega)
  unfold allowsN;rw[big_succ];have b0:=hb 0 (by omega);have b1:=hb 1 (by omega);have b2:=hb 2 (by omega);cases k0:(!(w.testBit 0)||grB n (dX_ l user gid) (user==uid) 0)with
  | false=>rw[k0]at b0;exact aa_ (ba_ b0) rfl
  | true =>
   rw[k0]at b0;cases k1:(!(w.testBit 1)||grB n (dX_ l user gid) (user==uid) 1)with
   | false=>rw[k1]at b1;exact aa_ (bN_ b0 (ba_ b1)) rfl
   | true =>
    rw[k1]at b1;cases k2:(!(w.testBit 2)||grB n (dX_ l user gid) (user==uid) 2)with
    | false=>rw[k2]at b2;exact aa_ (bN_ b0 (bN_ b1 (ba_ b2))) rfl
    | true=>rw[k2]at b2;exact aa_ (bN_ b0 (bN_ b1 (bN_ b2 (ba_ rfl)))) rfl
 .refine ah_ (by simp;omega) ?_;have:(decide (0<=mode)&&(decide (0<=want)&&decide (want<=7)))=false:=by
   cases h5:(decide (0<=mode)&&(decide (0<=want)&&decide (want<=7)))with
   | false=>rfl
   | true=>simp at h5;omega
  congr 1
  revert this;cases decide (0<=mode)<;>cases decide (0<=want)<;>cases decide (want<=7)<;>simp
theorem trich:∀(a b:Str),(Op.bytesLess a b||a==b) = !(Op.bytesLess b a)
 | [],[]=>rfl
 | [],_::_=>rfl
 | _::_,[]=>rfl
 | x::a,y::b=>by
  have ih:=trich a b;simp only[Op.bytesLess,List.cons_beq_cons];rcases Nat.lt_trichotomy x.toNat y.toNat with h|h|h
  .have h1:decide (x<y)=true:=by simpa[UInt8.lt_iff_toNat_lt]using h
   have h2:decide (y<x)=false:=by simp[UInt8.lt_iff_toNat_lt];omega
   have h3:(y==x)=false:=by rw[beq_eq_false_iff_ne];intro e;subst e;omega
   simp[h1,h2,h3]
  .obtain rfl:x=y:=UInt8.toNat_inj.1 h;have h1:decide (x<x)=false:=by simp
   simp only[h1,beq_self_eq_true,Bool.true_and,Bool.false_or];exact ih
  .have h1:decide (x<y)=false:=by simp[UInt8.lt_iff_toNat_lt];omega
   have h2:decide (y<x)=true:=by simpa[UInt8.lt_iff_toNat_lt]using h
   have h3:(x==y)=false:=by rw[beq_eq_false_iff_ne];intro e;subst e;omega
   simp[h1,h2,h3]
def gQ(l:List Xu)(i:Nat)(q:Xu):Option Int:=if !(vU q.Ya)then some 25 else if decide (0<i) && !(Op.bytesLess (l.getD (i-1) default).Ya q.Ya)then some 2 else if decide (q.Xp<0)||decide (q.Xp>9007199254740991)||decide (q.Zq<0)||decide (q.Zq>9007199254740991)then some 5 else none
def ly_(l:List Xu):Int:=if l.length>64 then 22 else(aL_ (gQ l) 0 l).getD 0
def oN_(l:List Xu):Prop:=∀q∈l,q.Ya.length<=9223372036854775807
theorem vB_(l:List Xu)(h:l.length<=1000)(hs:oN_ l):gp_ l=some (ly_ l):=by
 unfold gp_ ly_;by_cases hl:l.length>64
 .rw[if_pos hl];exact ah_ (by simp;omega) rfl
 .rw [if_neg hl];refine ac_ (by simp;omega) ?_;refine bm_ (aV_ l _ (bE_ (by omega)) (λ i hi => ?_) ?_) (λ _=>rfl) rfl
  .unfold kA_ gQ;rw[bj_ hi,aq_ hi,au_ (by omega)];refine ah_ rfl (aa_ rfl (aa_ (pJ_ _ (hs _ (List.getElem_mem hi))) ?_));cases vU l[i].Ya with
   | false=>rfl
   | true =>
    refine ac_ rfl ?_;have hmm:(decide ((cm_ l[i].Xp l[i].Zq)<0)||decide ((cz_ l[i].Xp l[i].Zq)>9007199254740991))=(decide (l[i].Xp<0)||decide (l[i].Xp>9007199254740991)||decide (l[i].Zq<0)||decide (l[i].Zq>9007199254740991)):=by
     unfold cm_ cz_;rw[Bool.eq_iff_iff];simp only[Bool.or_eq_true,qDe];constructor
     .rintro(hh|hh)<;>split at hh<;>omega
     .intro hh;split<;>split<;>omega
    rw[hmm];rcases Nat.eq_zero_or_pos i with rfl|h0
    .cases(decide (l[0].Xp<0)||decide (l[0].Xp>9007199254740991)||decide (l[0].Zq<0)||decide (l[0].Zq>9007199254740991))<;>rfl
    .have e:decide ((i:Int)>0)=true:=by simpa using h0
     have e2:decide (0<i)=true:=by simpa using h0
     rw[e,e2,iZ_ default h0 hi (by omega)];simp only[cond_true,qBs,Bool.true_and,trich];cases Op.bytesLess (l.getD (i-1) default).Ya l[i].Ya<;>cases(decide (l[i].Xp<0)||decide (l[i].Xp>9007199254740991)||decide (l[i].Zq<0)||decide (l[i].Zq>9007199254740991))<;>rfl
  .unfold kA_;rw[br_];rfl
theorem vC_(l:List Xu)(h:l.length<=1000)(hs:oN_ l):k1_ l=some (ly_ l):=by
 unfold k1_ ly_;by_cases hl:l.length>64
 .rw[if_pos hl];exact ah_ (by simp;omega) rfl
 .rw [if_neg hl];refine ac_ (by simp;omega) ?_;refine bm_ (aV_ l _ (bE_ (by omega)) (λ i hi => ?_) ?_) (λ _=>rfl) rfl
  .unfold kx_ gQ;rw[bj_ hi,aq_ hi,au_ (by omega)];refine ah_ rfl (aa_ rfl (aa_ (sg_ _ (hs _ (List.getElem_mem hi))) ?_));cases vU l[i].Ya with
   | false=>rfl
   | true =>
    refine ac_ rfl ?_;rcases Nat.eq_zero_or_pos i with rfl|h0
    .cases(decide (l[0].Xp<0)||decide (l[0].Xp>9007199254740991)||decide (l[0].Zq<0)||decide (l[0].Zq>9007199254740991))<;>rfl
    .have e:decide ((i:Int)>0)=true:=by simpa using h0
     have e2:decide (0<i)=true:=by simpa using h0
     rw[e,e2,iZ_ default h0 hi (by omega)];simp only[cond_true,qBs,Bool.true_and];cases Op.bytesLess (l.getD (i-1) default).Ya l[i].Ya<;>cases(decide (l[i].Xp<0)||decide (l[i].Xp>9007199254740991)||decide (l[i].Zq<0)||decide (l[i].Zq>9007199254740991))<;>rfl
  .unfold kx_;rw[br_];rfl
def dA_(l:List Int):Prop:=l.Pairwise (· < ·)
theorem si_{n:Xq}(h:aN_ n=true):n.Xl.length<=65536:=by
 unfold aN_ at h;simp only[qAn,qDe]at h;exact h.1.2
theorem at_id{l:List Xq}{id:Int}(h:(ai_ l id).2=true):∃i:Nat,at_ (eJ_ id) l=(i:Int)/\l[i]? = some (ai_ l id).1/\i<l.length:=by
 rcases kE_ (eJ_ id) l with⟨h1,_⟩|⟨i,x,h1,h2,h3,_⟩
 .unfold ai_ at h;rw[h1]at h;cases h
 .refine⟨i,h2,?_,(List.getElem?_eq_some_iff.1 h3).1⟩;unfold ai_;rw[h1];exact h3
theorem ms_{l:List Xq}{id:Int}(h:(ai_ l id).2=false):at_ (eJ_ id) l = -1:=by
 rcases kE_ (eJ_ id) l with⟨_,h2⟩|⟨i,x,h1,_⟩
 .exact h2
 .unfold ai_ at h;rw[h1]at h;cases h
theorem fdir_eq{l:List Xq}{next:Int}(h:OkT l next){n:Xq}(hn:n∈l):cg_ n.Xv=some (am_ n.Xv 31):=by
 unfold cg_;rw[ha_ (gt_ (h.flds n hn))]
def cY_(dir:Int)(name:Str)(n:Xq):Bool:=(n.Xw==dir&&n.Id_ != 1)&&n.Xy==name
def le_(l:List Xq)(dir:Int)(name:Str):Int×Int:=bif !(ai_ l dir).2 then(0,8)else bif !(am_ (ai_ l dir).1.Xv 31)then(0,9)else bif name==[46,46]then((ai_ l dir).1.Xw,0)else match l.find? (cY_ dir name)with|some c=>(c.Id_,0)|none=>(0,8)
theorem sW_(t:Xk)(dir:Int)(name:Str)(h:t.Xz.length<=2000):hz_ t dir name=some (at_ (cY_ dir name) t.Xz):=by
 unfold hz_;exact aa_ (qT_ t _ (cY_ dir name) (λ n=>rfl) h) rfl
theorem nf_(t:Xk)(dir:Int)(name:Str)(h:OkT t.Xz t.Xr):fY_ t dir name=some (le_ t.Xz dir name):=by
 have hl:=h.len;unfold fY_ le_;refine aa_ (qU_ t dir h) ?_;unfold mC_;cases h1:(ai_ t.Xz dir).2 with
 | false=>rfl
 | true =>
  cases h2:am_ (ai_ t.Xz dir).1.Xv 31 with
  | false=>rfl
  | true =>
   refine ac_ rfl ?_;cases name==[46,46]with
   | true=>exact aa_ (cK_ t dir (by omega)) rfl
   | false =>
    refine ac_ rfl (aa_ (sW_ t dir name (by omega)) ?_);rw[jP_];cases hf:t.Xz.find? (cY_ dir name)with
    | none=>rfl
    | some c=>exact ac_ rfl (aa_ ((nc_ _ _ (by rw[hf];rfl)).trans hf) rfl)
theorem w3_(t:Xk)(dir:Int)(name:Str)(h:OkT t.Xz t.Xr):py_ t dir name=some (le_ t.Xz dir name):=by
 have hl:=h.len;obtain⟨r,q,hrq,hr1,_⟩:=h.root;unfold py_ le_;refine aa_ (lR_ t dir (by omega)) ?_;cases h1:(ai_ t.Xz dir).2 with
 | false=>rfl
 | true =>
  refine ac_ rfl (aa_ (fdir_eq h (bu_ h1).1) ?_);cases h2:am_ (ai_ t.Xz dir).1.Xv 31 with
  | false=>rfl
  | true =>
   refine ac_ rfl ?_;cases name==[46,46]with
   | true=>rfl
   | false =>
    refine ac_ rfl ?_;have hsc:=ud_ (body:=iG_ t dir name) t.Xz (λ _ n=>if(n.Xw==dir&&n.Xy==name)then some (n.Id_,(0:Int))else none) 1 (by rw[hrq];simp) (bE_ (by omega)) (λ i hi _=>by
     unfold iG_;rw[bj_ hi,aq_ hi,au_ (by omega)];refine ah_ rfl ?_;simp only[qBs];cases t.Xz[i].Xw==dir<;>cases t.Xz[i].Xy==name<;>rfl) (by unfold iG_;rw[br_];rfl)
    rw[jm_]at hsc;refine(bm_ hsc (λ _=>rfl) rfl).trans ?_;have hq:(t.Xz.drop 1).find? (λ n=>n.Xw==dir&&n.Xy==name)=t.Xz.find? (cY_ dir name):=by
     have hsrt:=h.srt;rw[hrq]at hsrt ⊢;obtain⟨hs1,_⟩:=List.pairwise_cons.1 hsrt;rw[List.find?_cons];have:cY_ dir name r=false:=by unfold cY_;simp[hr1]
     rw[this];show q.find? _=q.find? _;have:∀(q':List Xq),(∀n∈q',r.Id_<n.Id_)->q'.find? (λ n=>n.Xw==dir&&n.Xy==name)=q'.find? (cY_ dir name):=by
      intro q'
      induction q' with
      | nil=>intro _;rfl
      | cons a q' ih =>
       intro hq;have ha:=hq a (List.mem_cons_self ..);have hne:(a.Id_ != 1)=true:=by rw[bne_iff_ne];omega
       rw[List.find?_cons,List.find?_cons,ih λ n hn=>hq n (List.mem_cons_of_mem _ hn)];unfold cY_;rw[hne,Bool.and_true]
     exact this q hs1
    rw[hq];cases t.Xz.find? (cY_ dir name)<;>rfl
def hK_(l:List Xq)(id:Int):Int:=bif !(ai_ l id).2 then 8 else bif am_ (ai_ l id).1.Xv 31 then 10 else 0
theorem qZ_(t:Xk)(id:Int)(h:OkT t.Xz t.Xr):∃i:Int,jl_ t id=some (i,hK_ t.Xz id)/\((hK_ t.Xz id != 0)=false->∃k:Nat,i=(k:Int)/\t.Xz[k]? = some (ai_ t.Xz id).1):=by
 have hl:=h.len;unfold jl_ hK_;rw[di_ t id (by omega)];cases h1:(ai_ t.Xz id).2 with
 | false =>
  rw[ms_ h1];exact⟨0,rfl,λ h=>nomatch h⟩
 | true =>
  obtain⟨i,e1,e2,e3⟩:=at_id h1;rw[e1];cases h2:am_ (ai_ t.Xz id).1.Xv 31 with
  | true =>
   refine⟨0,aa_ rfl (ac_ (by simp) (aa_ (a:=(ai_ t.Xz id).1) (by rw[bl_,e2]) (aa_ (eq_ _ (jo_ h id)) ?_))),λ h=>nomatch h⟩;rw[h2];rfl
  | false =>
   refine⟨(i:Int),aa_ rfl (ac_ (by simp) (aa_ (a:=(ai_ t.Xz id).1) (by rw[bl_,e2]) (aa_ (eq_ _ (jo_ h id)) ?_))),λ _=>⟨i,rfl,e2⟩⟩;rw[h2];rfl
theorem minI_nat(a:Int)(b:Nat)(h:0<=a):cm_ a (b:Int)=((min a.toNat b:Nat):Int):=by
 unfold cm_;split<;>omega
structure FileOK(s:Xx):Prop where
 us:lx_ s.Yq=0
 qs:ly_ s.Yj=0
 tr:OkT s.Xm.Xz s.Xm.Xr
 srt:dA_ s.Xs
 exc:∀x∈s.Xs,(ai_ s.Xm.Xz x).2=true/\am_ (ai_ s.Xm.Xz x).1.Xv 29=true
structure SizeOK(s:Xx):Prop where (ul:s.Yq.length<=1000) (um:d6_ s.Yq) (us:nd_ s.Yq) (ql:s.Yj.length<=1000) (qs:oN_ s.Yj) (nl:s.Xm.Xz.length<=1024) (el:s.Xs.length<=500)
def NodesB(s:Xx):Prop:=∀n∈s.Xm.Xz,n.Xv<=9223372036854775807/\n.Xy.length<=9223372036854775807
def fa_(l:List Int)(i:Nat):Int:=(0::l).getD i 0
theorem lz_{l:List Int}{i:Nat}(h0:0<i)(hi:i<=l.length):l[i-1]? = some (fa_ l i):=by
 unfold fa_;obtain⟨k,rfl⟩:∃k,i=k+1:=⟨i-1,by omega⟩;rw[List.getD_cons_succ,List.getD_eq_getElem?_getD,Nat.add_sub_cancel,List.getElem?_eq_getElem (by omega)];rfl
theorem sorted_iff{l:List Int}:dA_ l↔∀i x,0<i->l[i]? = some x->fa_ l i<x:=by
 unfold dA_;rw[List.pairwise_iff_getElem];constructor
 .intro h i n h0 hn;obtain⟨hi,rfl⟩:=List.getElem?_eq_some_iff.1 hn;have:=lz_ h0 (Nat.le_of_lt hi);obtain⟨_,e⟩:=List.getElem?_eq_some_iff.1 this;rw[←e];exact h _ _ _ _ (by omega)
 .intro h;have key:∀(d i:Nat) (hj:i+d+1<l.length),(l[i]'(by omega))<(l[i+d+1]'hj):=by
   intro d
   induction d with
   | zero =>
    intro i hj;have:=h (i+1) _ (by omega) (List.getElem?_eq_getElem (by omega));have e:=lz_ (l:=l) (i:=i+1) (by omega) (by omega);obtain⟨_,e⟩:=List.getElem?_eq_some_iff.1 e;rw[←e]at this;exact this
   | succ d ih =>
    intro i hj;have h1:=ih i (by omega);have:=h (i+d+1+1) _ (by omega) (List.getElem?_eq_getElem (by omega));have e:=lz_ (l:=l) (i:=i+d+1+1) (by omega) (by omega);obtain⟨_,e⟩:=List.getElem?_eq_some_iff.1 e;rw[←e]at this;simp only[Nat.add_sub_cancel]at this;exact Int.lt_trans h1 this
  intro i j hi hj hij;have:=key (j-i-1) i (by omega);simpa[show i+(j-i-1)+1=j by omega]using this
def eB(t:List Xq)(l:List Int)(i:Nat)(x:Int):Bool:=((ai_ t x).2&&am_ (ai_ t x).1.Xv 29)&&decide (fa_ l i<x)
def gE(t:List Xq)(l:List Int)(i:Nat)(x:Int):Option Bool:=if eB t l i x then none else some false
theorem q1_(s:Xx)(h:OkT s.Xm.Xz s.Xm.Xr)(hl:s.Xs.length<=1000):ak_ (dz_ s) BIG (0,0)=some (dN_ (aL_ (gE s.Xm.Xz s.Xs) 0 s.Xs)):=by
 refine fq_ (body:=dz_ s) (J:=λ i t b=>t=(fa_ s.Xs i,(i:Int))/\b=dN_ (aL_ (gE s.Xm.Xz s.Xs) i (s.Xs.drop i))) s.Xs.length (bE_ (by omega)) (λ t b hJ => ?_) (λ i t b hi hJ => ?_) ⟨rfl,by simp⟩
 .obtain⟨rfl,rfl⟩:=hJ;unfold dz_;simp only;rw[br_];simp[aL_,dN_]
 .obtain⟨rfl,rfl⟩:=hJ;rw[List.drop_eq_getElem_cons hi];have hp:s.Xs[i]=fa_ s.Xs (i+1):=by
   have:=lz_ (l:=s.Xs) (i:=i+1) (by omega) (by omega);rw[Nat.add_sub_cancel,List.getElem?_eq_getElem hi]at this;exact qSj this
  have hbody:dz_ s (fa_ s.Xs i,(i:Int))=some (match gE s.Xm.Xz s.Xs i s.Xs[i]with|some r => .done (.ret r)|none => .next (fa_ s.Xs (i+1),((i+1:Nat):Int))):=by
   unfold dz_;simp only;rw[bj_ hi,aq_ hi,au_ (by omega)];refine ah_ rfl (aa_ rfl (aa_ (cK_ _ _ (by have:=h.len;omega)) ?_));unfold gE eB;have e1:decide (s.Xs[i]<=fa_ s.Xs i) = !(decide (fa_ s.Xs i<s.Xs[i])):=by rw[Bool.eq_iff_iff];simp
   rw[e1,←hp];have hc:=ip_ (ai_ s.Xm.Xz s.Xs[i]).1.Xv 29 (by omega) (jo_ h _);simp only[Nat.reducePow,Int.cast_ofNat_Int]at hc;rw[hc];cases(ai_ s.Xm.Xz s.Xs[i]).2<;>cases am_ (ai_ s.Xm.Xz s.Xs[i]).1.Xv 29<;>cases decide (fa_ s.Xs i<s.Xs[i])<;>rfl
  cases hg:gE s.Xm.Xz s.Xs i s.Xs[i]with
  | some r =>
   rw[hg]at hbody;exact .inl (by rw[hbody];simp[aL_,hg,dN_])
  | none =>
   rw[hg]at hbody;exact .inr ⟨_,hbody,rfl,by simp[aL_,hg]⟩
theorem sX_(s:Xx)(h:OkT s.Xm.Xz s.Xm.Xr)(hl:s.Xs.length<=1000):ak_ (ht_ s) BIG 0=some (dN_ (aL_ (gE s.Xm.Xz s.Xs) 0 s.Xs)):=by
 refine aV_ s.Xs _ (bE_ (by omega)) (λ i hi => ?_) ?_
 .unfold ht_;rw[bj_ hi,aq_ hi,au_ (by omega)];refine ah_ rfl (aa_ rfl (aa_ (lR_ _ _ (by have:=h.len;omega)) ?_));unfold gE eB;have hc:=fQ_ (ai_ s.Xm.Xz s.Xs[i]).1.Xv 29 (by omega) (jo_ h _);simp only[Nat.reducePow,Int.cast_ofNat_Int]at hc;rw[hc];simp only[qBs];cases hn:(ai_ s.Xm.Xz s.Xs[i]).2 with
  | false=>rfl
  | true =>
   have hge:1<=s.Xs[i]:=by
    obtain⟨h1,h2⟩:=bu_ hn;rw[←h2];exact h.ge h1
   cases am_ (ai_ s.Xm.Xz s.Xs[i]).1.Xv 29 with
   | false=>rfl
   | true =>
    rcases Nat.eq_zero_or_pos i with rfl|h0
    .have:decide (fa_ s.Xs 0<s.Xs[0])=true:=by
      rw[qDe];show(0:Int)<_;omega
     rw[this];rfl
    .have e0:decide ((i:Int)>0)=true:=by simpa using h0
     have hp:al_ s.Xs (w64 ((i:Int)-1))=some (fa_ s.Xs i):=by
      rw[w_pred h0 (by omega),bl_];exact lz_ h0 (Nat.le_of_lt hi)
     have e1:decide (fa_ s.Xs i>=s.Xs[i]) = !(decide (fa_ s.Xs i<s.Xs[i])):=by rw[Bool.eq_iff_iff];simp
     rw[e0,hp];simp only[cond_true,qBs];rw[e1];cases decide (fa_ s.Xs i<s.Xs[i])<;>rfl
 .unfold ht_;rw[br_];rfl
theorem excl_iff(s:Xx)(h:OkT s.Xm.Xz s.Xm.Xr):(aL_ (gE s.Xm.Xz s.Xs) 0 s.Xs).getD true=true↔dA_ s.Xs/\∀x∈s.Xs,(ai_ s.Xm.Xz x).2=true/\am_ (ai_ s.Xm.Xz x).1.Xv 29=true:=by
 rw[pI_ (g:=gE s.Xm.Xz s.Xs) (p:=eB s.Xm.Xz s.Xs) (λ _ _=>rfl),sorted_iff];have ek:∀i x,eB s.Xm.Xz s.Xs i x=true↔((ai_ s.Xm.Xz x).2=true/\am_ (ai_ s.Xm.Xz x).1.Xv 29=true)/\fa_ s.Xs i<x:=λ i x=>by
  unfold eB;simp only[qAn,qDe]
 simp only[Nat.zero_add,ek];constructor
 .intro h';refine⟨λ i x _ hx=>(h' i x hx).2,λ x hx => ?_⟩;obtain⟨i,hi⟩:=List.mem_iff_getElem?.1 hx;exact(h' i x hi).1
 .rintro⟨h1,h2⟩ i x hx;have hm:=h2 x (List.mem_iff_getElem?.2 ⟨_,hx⟩);refine⟨hm,?_⟩;rcases Nat.eq_zero_or_pos i with rfl|h0
  .obtain⟨h3,h4⟩:=bu_ hm.1;have:=h.ge h3;show(0:Int)<x;omega
  .exact h1 i x h0 hx
theorem uk_(s:Xx):FileOK s↔lx_ s.Yq=0/\ly_ s.Yj=0/\OkT s.Xm.Xz s.Xm.Xr/\dA_ s.Xs/\∀x∈s.Xs,(ai_ s.Xm.Xz x).2=true/\am_ (ai_ s.Xm.Xz x).1.Xv 29=true :=
 ⟨λ h=>⟨h.us,h.qs,h.tr,h.srt,h.exc⟩,fun⟨a,b,c,d,e⟩=>⟨a,b,c,d,e⟩⟩
theorem filesrv_right_iff(s:Xx)(z:SizeOK s)(hb:NodesB s):∃b,p2_ s=some b/\(b=true↔FileOK s):=by
 rw[uk_];unfold p2_;rw[w2_ _ z.ul z.um z.us,vB_ _ z.ql z.qs];simp only[qBs];cases hu:lx_ s.Yq != 0 with
 | true=>exact⟨false,rfl,λ h=>(nomatch h),λ h=>by rw[h.1]at hu;cases hu⟩
 | false =>
  simp only[cond_false,qBs];cases hq:ly_ s.Yj != 0 with
  | true=>exact⟨false,rfl,λ h=>(nomatch h),λ h=>by rw[h.2.1]at hq;cases hq⟩
  | false =>
   obtain⟨b,hb1,hb2⟩:=hI_ s.Xm (by have:=z.nl;omega) hb;rw[hb1];cases b with
   | false=>exact⟨false,rfl,λ h=>(nomatch h),λ h=>hb2.2 h.2.2.1⟩
   | true =>
    have ht:=hb2.1 rfl;refine⟨_,ac_ (A:=some false) rfl (bm_ (q1_ s ht (by have:=z.el;omega)) (λ _=>rfl) rfl),?_⟩;rw[excl_iff s ht];exact⟨λ h=>⟨by simpa using hu,by simpa using hq,ht,h⟩,λ h=>h.2.2.2⟩
theorem ul_(s:Xx)(z:SizeOK s)(hb:NodesB s):∃b,k2_ s=some b/\(b=true↔FileOK s):=by
 rw[uk_];unfold k2_;rw[vy_ _ z.ul z.um z.us,vC_ _ z.ql z.qs];simp only[qBs];cases hu:lx_ s.Yq != 0 with
 | true=>exact⟨false,rfl,λ h=>(nomatch h),λ h=>by rw[h.1]at hu;cases hu⟩
 | false =>
  simp only[cond_false,qBs];cases hq:ly_ s.Yj != 0 with
  | true=>exact⟨false,rfl,λ h=>(nomatch h),λ h=>by rw[h.2.1]at hq;cases hq⟩
  | false =>
   obtain⟨b,hb1,hb2⟩:=jR_ s.Xm (by have:=z.nl;omega) hb;rw[hb1];cases b with
   | false=>exact⟨false,rfl,λ h=>(nomatch h),λ h=>hb2.2 h.2.2.1⟩
   | true =>
    have ht:=hb2.1 rfl;refine⟨_,ac_ (A:=some false) rfl (bm_ (sX_ s ht (by have:=z.el;omega)) (λ _=>rfl) rfl),?_⟩;rw[excl_iff s ht];exact⟨λ h=>⟨by simpa using hu,by simpa using hq,ht,h⟩,λ h=>h.2.2.2⟩
abbrev an_(s:Xx)(id:Int):Xq:=(ai_ s.Xm.Xz id).1
abbrev isS(s:Xx)(id:Int):Bool:=(ai_ s.Xm.Xz id).2
def cl_(s:Xx)(user:Str)(id:Int):Int:=bif !(vU user)then 25 else bif !(isS s id)then 8 else 0
def dirC(s:Xx)(user:Str)(id:Int):Int:=bif !(vU user)then 25 else bif !(isS s id)then 8 else bif !(am_ (an_ s id).Xv 31)then 9 else 0
def mayS(s:Xx)(user:Str)(n:Xq)(want:Int):Bool:=oL_ s.Yq user n.Yw n.Yk n.Xv want
theorem nl2{s:Xx}(z:SizeOK s):s.Xm.Xz.length<=2000:=by have:=z.nl;omega
theorem eX_{s:Xx}(f:FileOK s)(id:Int):(an_ s id).Xv<=9223372036854775807:=jo_ f.tr id
theorem ga_(x:Int)(h1:x<=9223372036854775807):ar_ x 2147483648=some (am_ x 31)/\ar_ x 1073741824=some (am_ x 30)/\ar_ x 536870912=some (am_ x 29)/\ar_ x 64=some (am_ x 6) :=
 ⟨ip_ x 31 (by omega) h1,ip_ x 30 (by omega) h1,ip_ x 29 (by omega) h1,ip_ x 6 (by omega) h1⟩
theorem has_r(x:Int)(h1:x<=9223372036854775807):e5_ x 2147483648=some (am_ x 31)/\e5_ x 1073741824=some (am_ x 30)/\e5_ x 536870912=some (am_ x 29)/\e5_ x 64=some (am_ x 6)/\e5_ x 16=some (am_ x 4) :=
 ⟨fQ_ x 31 (by omega) h1,fQ_ x 30 (by omega) h1,fQ_ x 29 (by omega) h1,fQ_ x 6 (by omega) h1,fQ_ x 4 (by omega) h1⟩
theorem oO_{s:Xx}(z:SizeOK s)(user:Str)(id:Int)(hu:user.length<=9223372036854775807):∃n,cH_ s user id=some (n,cl_ s user id)/\(cl_ s user id=0->n=an_ s id):=by
 unfold cH_ cl_ isS;rw[pJ_ _ hu,cK_ _ _ (nl2 z)];cases vU user with
 | false=>exact⟨_,rfl,λ h=>by cases h⟩
 | true =>
  simp only[qBs,Bool.not_true,cond_false];cases(ai_ s.Xm.Xz id).2 with
  | false=>exact⟨_,rfl,λ h=>by cases h⟩
  | true=>exact⟨_,rfl,λ _=>rfl⟩
theorem q2_{s:Xx}(f:FileOK s)(z:SizeOK s)(user:Str)(id:Int)(hu:user.length<=9223372036854775807):∃n,cD_ s user id=some (n,dirC s user id)/\(dirC s user id=0->n=an_ s id):=by
 obtain⟨n,e1,e2⟩:=oO_ z user id hu;unfold cD_ dirC;rw[e1];unfold cl_ at e1 e2 ⊢;cases hv:vU user with
 | false=>exact⟨n,rfl,λ h=>by cases h⟩
 | true =>
  rw[hv]at e2;cases hi:isS s id with
  | false=>exact⟨n,rfl,λ h=>by cases h⟩
  | true =>
   rw[hi]at e2;obtain rfl:=e2 rfl;refine⟨an_ s id,aa_ rfl (aa_ (a:=bif !(am_ (an_ s id).Xv 31)then 9 else 0) (aa_ (a := !(am_ (an_ s id).Xv 31)) (ah_ rfl (aa_ (ga_ _ (eX_ f id)).1 rfl)) ?_) rfl),λ _=>rfl⟩;cases am_ (an_ s id).Xv 31<;>rfl
theorem may_eq{s:Xx}(z:SizeOK s)(user:Str){n:Xq}(hn:n.Xv<=9223372036854775807)(want:Int):c4_ s user n want=some (mayS s user n want):=by
 unfold c4_ mayS;exact aa_ (oM_ _ _ _ _ _ _ z.ul z.um hn) rfl
theorem um_{s:Xx}(f:FileOK s)(z:SizeOK s)(user:Str)(id want:Int):nK_ s user id want=some (isS s id&&mayS s user (an_ s id) want):=by
 unfold nK_ mayS isS;refine aa_ (lR_ _ _ (nl2 z)) ?_;cases(ai_ s.Xm.Xz id).2 with
 | false=>rfl
 | true=>exact aa_ (aa_ (uj_ _ _ _ _ _ _ z.ul z.um (jo_ f.tr _)) rfl) rfl
theorem sY_{s:Xx}{id:Int}(h:isS s id=true):an_ s id∈s.Xm.Xz:=(bu_ h).1
def walkS(s:Xx)(user:Str)(id:Int)(name:Str):Int×Int:=bif dirC s user id != 0 then(0,dirC s user id)else bif !(mayS s user (an_ s id) 1)then(0,11)else le_ s.Xm.Xz id name
theorem dirC_zero{s:Xx}{user:Str}{id:Int}(h:(dirC s user id != 0)=false):dirC s user id=0/\vU user=true/\isS s id=true/\am_ (an_ s id).Xv 31=true:=by
 have h0:dirC s user id=0:=by simpa using h
 refine⟨h0,?_⟩;unfold dirC at h0;cases hv:vU user with
 | false=>rw[hv]at h0;cases h0
 | true =>
  rw[hv]at h0;cases hi:isS s id with
  | false=>rw[hi]at h0;cases h0
  | true =>
   rw[hi]at h0;cases hd:am_ (an_ s id).Xv 31 with
   | false=>rw[hd]at h0;cases h0
   | true=>exact⟨rfl,rfl,rfl⟩
theorem walk_eq{s:Xx}(f:FileOK s)(z:SizeOK s)(user:Str)(id:Int)(name:Str)(hu:user.length<=9223372036854775807):eA_ s user id name=some (walkS s user id name):=by
 obtain⟨n,e1,e2⟩:=q2_ f z user id hu;unfold eA_ walkS;refine aa_ e1 ?_;cases hc:dirC s user id != 0 with
 | true=>rfl
 | false =>
  obtain rfl:=e2 (dirC_zero hc).1;refine ac_ rfl (aa_ (may_eq z user (eX_ f _) 1) ?_);cases mayS s user (an_ s id) 1 with
  | false=>rfl
  | true=>exact ac_ rfl (aa_ (nf_ _ _ _ f.tr) rfl)
structure Keep(t t':Xk)(id:Int):Prop where
 ok:OkT t'.Xz t'.Xr
 is:(ai_ t'.Xz id).2=true
 mode:(ai_ t'.Xz id).1.Xv=(ai_ t.Xz id).1.Xv
theorem Keep.trans{a b c:Xk}{id:Int}(h:Keep a b id)(g:Keep b c id):Keep a c id:=⟨g.ok,g.is,g.mode.trans h.mode⟩
theorem scan_nil{α β:Type}:∀(k:Nat) (l:List α),aL_ (λ _ _=>(none:Option β)) k l=none
 | _,[]=>rfl
 | k,_::l=>scan_nil (k+1) l
theorem lA_{α:Type}{body:Int->Option (Step Int (Out Unit Bool))}(l:List α)(hl:l.length<=2000)(hb:∀i,i<l.length->body (i:Int)=some (.next ((i+1:Nat):Int)))(he:body (l.length:Int)=some (.done (.fall ()))):ak_ body BIG 0=some (.fall ()):=by
 have:=aV_ (body:=body) l (λ _ _=>(none:Option Bool)) (bE_ (by omega)) (λ i hi=>hb i hi) he;rw[this,scan_nil];rfl
theorem same_texts(l:List Str)(hl:l.length<=1000):gJ_ l l=some true:=by
 unfold gJ_;refine ac_ (by simp) (aa_ (lA_ l (by omega) (λ i hi => ?_) ?_) rfl)
 .unfold g6_;rw[bj_ hi,aq_ hi,au_ (by omega)];simp
 .unfold g6_;rw[br_];rfl
theorem same_users(l:List Xf)(hl:l.length<=1000)(hm:d6_ l):gK_ l l=some true:=by
 unfold gK_;refine ac_ (by simp) (aa_ (lA_ l (by omega) (λ i hi => ?_) ?_) rfl)
 .unfold g7_;rw[bj_ hi,aq_ hi,au_ (by omega)];simp[same_texts _ (hm _ (List.getElem_mem hi))]
 .unfold g7_;rw[br_];rfl
theorem same_quotas(l:List Xu)(hl:l.length<=1000):f7_ l l=some true:=by
 unfold f7_;refine ac_ (by simp) (aa_ (lA_ l (by omega) (λ i hi => ?_) ?_) rfl)
 .unfold gA_;rw[bj_ hi,aq_ hi,au_ (by omega)];simp
 .unfold gA_;rw[br_];rfl
theorem sj_(t:Xk)(hl:t.Xz.length<=2000):ew_ t t=some true:=by
 unfold ew_;refine ac_ (by simp) (aa_ (lA_ t.Xz (by omega) (λ i hi => ?_) ?_) rfl)
 .unfold h2_;rw[bj_ hi,aq_ hi,au_ (by omega)];simp
 .unfold h2_;rw[br_];rfl
theorem same_ints(l:List Int)(hl:l.length<=1000):hD_ l l=some true:=by
 unfold hD_;refine ac_ (by simp) (aa_ (lA_ l (by omega) (λ i hi => ?_) ?_) rfl)
 .unfold h3_;rw[bj_ hi,aq_ hi,au_ (by omega)];simp
 .unfold h3_;rw[br_];rfl
theorem same_eq(s:Xx)(hu:s.Yq.length<=1000)(hm:d6_ s.Yq)(hq:s.Yj.length<=1000)(hn:s.Xm.Xz.length<=1000)(he:s.Xs.length<=1000):mn_ s s=some true:=by
 unfold mn_;rw[same_users _ hu hm,same_quotas _ hq,sj_ _ (by omega),same_ints _ he];rfl
theorem sk_{xs:List Xf}(h:xs.length<=1000):bk_ xs=some xs:=g9_ (n:=56) (by omega) (by omega)
theorem q4_{xs:List Xu}(h:xs.length<=1000):aW_ xs=some xs:=g9_ (n:=32) (by omega) (by omega)
theorem sl_{xs:List Xq}(h:xs.length<=2000):bC_ xs=some xs:=g9_ (n:=128) (by omega) (by omega)
theorem mu_{xs:List Int}(h:xs.length<=1000):bW_ xs=some xs:=g9_ (n:=8) (by omega) (by omega)
def lB_(l:List Xf)(user group:Str):Bool:=if(dW_ l group).1.Yd==[]then dX_ l user group else(dW_ l group).1.Yd==user
theorem lU_(l:List Xf)(user group:Str)(h:l.length<=1000)(hm:d6_ l):hF_ l user group=some (lB_ l user group):=by
 unfold hF_ lB_;refine aa_ (qY_ l group h hm) ?_;have hz:(dW_ l group).2=false->(dW_ l group).1.Yd=[]:=by
  unfold dW_;cases l.find? (c2_ group)with
  | none=>exact λ _=>rfl
  | some u=>exact λ h=>nomatch h
 cases h2:(dW_ l group).2 with
 | true =>
  cases h3:(dW_ l group).1.Yd==[]with
  | true=>exact aa_ (hJ_ l user group h hm) rfl
  | false=>rfl
 | false =>
  rw[hz h2];exact aa_ (hJ_ l user group h hm) rfl
theorem od_(x:Int)(k:Nat)(hk:k<63)(h1:x<=9223372036854775807):iY_ x ((2^k:Nat):Int)=some (am_ x k):=rK_ x k hk h1
theorem tree_app_eq(x:Int)(h1:x<=9223372036854775807):m1_ x=some (am_ x 30):=congrArg some (has_lit x 30 (by omega) h1)
theorem andNot_511{n:Nat}(h:n<2^63):cy_ .i64 (n:Int) 511=((n-n%512:Nat):Int):=by
 rw[show(511:Int)=((511:Nat):Int)from rfl,ob_ h (by omega)]
 congr 1
 apply Nat.eq_of_testBit_eq;intro i;have e:n-n%512=2^9*(n/2^9)+0:=by have:=Nat.div_add_mod n 512;omega
 rw[Nat.testBit_and,e,Nat.testBit_two_pow_mul_add _ (by omega:0<2^9),Nat.testBit_div_two_pow,show 2^64-1-511=2^64-(511+1)by omega,Nat.testBit_two_pow_sub_succ (by omega)];by_cases hi:i<9
 .rw[if_pos hi];have:(511:Nat).testBit i=true:=by
   have:∀j,j<9->(511:Nat).testBit j=true:=by decide
   exact this i hi
  simp[this]
 .rw[if_neg hi];have h5:(511:Nat).testBit i=false:=Nat.testBit_lt_two_pow (Nat.lt_of_lt_of_le (by omega:511<2^9) (Nat.pow_le_pow_right (by omega) (by omega)));rw[h5,show i-9+9=i by omega];by_cases h64:i<64
  .simp[h64]
  .have:n.testBit i=false:=Nat.testBit_lt_two_pow (Nat.lt_of_lt_of_le h (Nat.pow_le_pow_right (by omega) (by omega)));simp[this]
theorem sub_two{r:Nat}(h:r<2^63):(cy_ .i64 (r:Int) 1610612736==0)=(r==0||r==1073741824||r==536870912||r==1610612736):=by
 have e := @sd_ r 1610612736 h (by omega);rw[show((1610612736:Nat):Int)=1610612736 from rfl]at e;rw[e];rw[show(1610612736:Int)=((1610612736:Nat):Int)from rfl,kC_ h (by omega)];rw[Bool.eq_iff_iff,beq_iff_eq];simp only[Bool.or_eq_true,beq_iff_eq];constructor
 .intro hh;have hr:r&&&1610612736=r:=by omega
  have hle:=and_le hr;have hz:r%2^29=0:=by
   apply Nat.eq_of_testBit_eq;intro i;rw[Nat.testBit_mod_two_pow,Nat.zero_testBit];by_cases hi:i<29
   .have hb:(1610612736:Nat).testBit i=false:=by
     have:∀j,j<29->(1610612736:Nat).testBit j=false:=by decide
     exact this i hi
    have:=congrArg (λ q=>q.testBit i) hr;simp only[Nat.testBit_and,hb,Bool.and_false]at this;simp[←this]
   .simp[hi]
  omega
 .rintro(((rfl|rfl)|rfl)|rfl)<;>decide
theorem q5_(x:Int)(h1:x<=9223372036854775807):dd_ x=some (aI_ x):=by
 unfold dd_ aI_;by_cases h0:0<=x
 .obtain⟨n,rfl⟩:∃n:Nat,x=(n:Int):=⟨x.toNat,by omega⟩;have h0':decide ((n:Int)<0)=false:=by simp
  have h0'':decide (0<=(n:Int))=true:=by simp
  rw[h0',h0'',andNot_511 (by omega),sub_two (by omega)];refine ac_ rfl (congrArg some ?_);unfold topI;rw[Bool.eq_iff_iff];simp only[Bool.or_eq_true,beq_iff_eq,Bool.true_and];omega
 .have h0':decide (x<0)=true:=by simp;omega
  have h0'':decide (0<=x)=false:=by simp;omega
  rw[h0',h0''];rfl
def fb_(m:Int):Int×Int:=if 0<=m/\m<128 then(match cV_ m with|some r=>r|none=>(0,12))else(0,12)
theorem open_small:((List.range 128).all λ n=>(cV_ (n:Int)==ref06_Open (n:Int))&&(cV_ (n:Int)).isSome)=true:=by kernel_rfl
theorem ng_(m:Int)(hm:I64 m):cV_ m=some (fb_ m):=by
 unfold fb_;by_cases h:0<=m/\m<128
 .rw[if_pos h];obtain⟨n,rfl⟩:∃n:Nat,m=(n:Int):=⟨m.toNat,by omega⟩;have:=List.all_eq_true.1 open_small n (List.mem_range.2 (by omega));rw[qAn]at this;cases hp:cV_ (n:Int)with
  | none=>rw[hp]at this;cases this.2
  | some r=>rfl
 .rw [if_neg h];unfold cV_;have e16:=od_ m 4 (by omega) hm.2;have e64:∀q:Int,q<=9223372036854775807->iY_ q 64=some (am_ q 6):=λ q hq=>od_ q 6 (by omega) hq
  simp only[Nat.reducePow,Int.cast_ofNat_Int]at e16;have hlow:m<0\/128<=m:=by omega
  rw[e16];refine aa_ (a:=if am_ m 4 then m-16 else m) ?_ ?_
  .refine aa_ rfl ?_;cases hb:am_ m 4 with
   | false=>rfl
   | true =>
    have:0<=m:=by
     rcases Int.lt_or_le m 0 with h1|h1
     .rw[i1_ h1]at hb;cases hb
     .exact h1
    rw[cond_true,ap_ ⟨by omega,by omega⟩];rfl
  .generalize ho:(if am_ m 4 then m-16 else m)=o;have ho1:o<0\/112<=o:=by
    subst ho;cases hb:am_ m 4 with
    | false=>simp;omega
    | true =>
     have:0<=m:=by
      rcases Int.lt_or_le m 0 with h1|h1
      .rw[i1_ h1]at hb;cases hb
      .exact h1
     simp;omega
   have ho2:o<=m:=by subst ho;split<;>omega
   rw[e64 m hm.2];have hneg:am_ m 6=true->0<=m:=λ hb=>by
    rcases Int.lt_or_le m 0 with h1|h1
    .rw[i1_ h1]at hb;cases hb
    .exact h1
   have hpos:0<=m->112<=o:=λ h0=>by
    subst ho;cases am_ m 4<;>simp<;>omega
   have hmo:m<0->o<0:=λ h0=>by
    subst ho;rw[i1_ h0];simpa using h0
   refine aa_ (a:=if am_ m 6 then o-64 else o) ?_ ?_
   .refine aa_ rfl ?_;cases hb:am_ m 6 with
    | false=>rfl
    | true =>
     have h1:=hpos (hneg hb);have h2:=hm.2;rw[cond_true,ap_ ⟨by omega,by omega⟩];rfl
   .refine ah_ ?_ rfl;rw[Bool.or_eq_true,qDe,qDe];cases hb:am_ m 6 with
    | false=>simp;omega
    | true =>
     have h1:=hpos (hneg hb);simp;omega
theorem sub_bit{x k:Nat}(h:x.testBit k=true)(j:Nat):(x-2^k).testBit j=(x.testBit j && !(j==k)):=by
 have h1:x=2^(k+1)*(x/2^(k+1))+(2^k+x%2^k):=by
  have h2:=Nat.div_add_mod x (2^(k+1));have h3:x%2^(k+1)=2^k+x%2^k:=by
   rw[Nat.testBit_eq_decide_div_mod_eq,qDe]at h;rw[Nat.pow_succ,Nat.mod_mul,h,Nat.mul_one,Nat.add_comm]
  omega
 have hr:x%2^k<2^k:=Nat.mod_lt _ (Nat.two_pow_pos k);have hpp:2^(k+1)=2^k+2^k:=by rw[Nat.pow_succ];omega
 have h4:x-2^k=2^(k+1)*(x/2^(k+1))+x%2^k:=by
  rw (occs := .pos [1]) [h1];omega
 rw[h4,Nat.testBit_two_pow_mul_add _ (by omega)];by_cases hj:j<k+1
 .rw[if_pos hj,Nat.testBit_mod_two_pow];by_cases hjk:j=k
  .subst hjk;simp
  .have:j<k:=by omega
   simp[this,hjk]
 .rw[if_neg hj,Nat.testBit_div_two_pow,show j-(k+1)+(k+1)=j by omega];have:(j==k)=false:=by rw[beq_eq_false_iff_ne];omega
  simp[this]
def inhB(d m j:Nat):Bool:=m.testBit j&&(!(d.testBit j)&&(m.testBit 31 || !((j==0)||(j==3)||(j==6))))
theorem inherit_ref(d m:Nat)(hd:d<2^63)(hm:m<2^63):∃r:Nat,gj_ (d:Int) (m:Int)=some (r:Int)/\r<=m/\∀j,r.testBit j=(m.testBit j && !(decide (j<9)&&inhB d m j)):=by
 unfold gj_
 have key:∀(n k out:Nat),k+n=9->out<=m->(∀j,out.testBit j=(m.testBit j && !(decide (j<k)&&inhB d m j))) ->
   ∃r:Nat,ak_ (f9_ (m:Int) (d:Int)) (n+1) ((out:Int),((2^k:Nat):Int))=some (r:Int)/\r<=m/\∀j,r.testBit j=(m.testBit j && !(decide (j<9)&&inhB d m j)):=by
  intro n
  induction n with
  | zero =>
   intro k out hk ho hb;obtain rfl:k=9:=by omega
   exact⟨out,ba_ (by unfold f9_;rfl),ho,hb⟩
  | succ n ih =>
   intro k out hk ho hb;have hp:2^k<=256:=by
    have:2^k<=2^8:=Nat.pow_le_pow_right (by omega) (by omega);omega
   have hp1:=Nat.two_pow_pos k;have e2:w64 (2*((2^k:Nat):Int))=((2^(k+1):Nat):Int):=by
    rw[Nat.pow_succ];rw[ap_ ⟨by omega,by omega⟩];omega
   have m31:=jS_ (m:Int) 31 (by omega) (by omega);simp only[Nat.reducePow,Int.cast_ofNat_Int]at m31;have hex:((((2^k:Nat):Int)==1)||(((2^k:Nat):Int)==8)||(((2^k:Nat):Int)==64))=((k==0)||(k==3)||(k==6)):=by
    match k,(show k<9 by omega)with
    | 0,_=>rfl
    | 1,_=>rfl
    | 2,_=>rfl
    | 3,_=>rfl
    | 4,_=>rfl
    | 5,_=>rfl
    | 6,_=>rfl
    | 7,_=>rfl
    | 8,_=>rfl
   obtain⟨r,h1,h2⟩:=ih (k+1) (if inhB d m k then out-2^k else out) (by omega) (by split<;>omega) (λ j=>by
    cases hi:inhB d m k with
    | false =>
     simp only[Bool.false_eq_true,if_false];rw[hb j];by_cases hjk:j=k
     .subst hjk;simp[hi]
     .have:decide (j<k+1)=decide (j<k):=by rw[Bool.eq_iff_iff,qDe,qDe];omega
      rw[this]
    | true =>
     simp only[if_true];have hmk:m.testBit k=true:=by unfold inhB at hi;simp only[qAn]at hi;exact hi.1
     have hok:out.testBit k=true:=by rw[hb k,hmk];simp
     rw[sub_bit hok j,hb j];by_cases hjk:j=k
     .subst hjk;simp[hi]
     .have:decide (j<k+1)=decide (j<k):=by rw[Bool.eq_iff_iff,qDe,qDe];omega
      rw[this];have:(j==k)=false:=by simpa using hjk
      rw[this];simp)
   refine⟨r,bN_ ?_ h1,h2⟩;unfold f9_;simp only;refine ah_ (by rw[qDe];omega) ?_;rw[e2,jS_ (m:Int) k (by omega) (by omega),jS_ (d:Int) k (by omega) (by omega),m31,hex];simp only[i0_];refine aa_ (a:=((if inhB d m k then out-2^k else out:Nat):Int)) ?_ rfl;have hsub:inhB d m k=true->w64 ((out:Int)-((2^k:Nat):Int))=((out-2^k:Nat):Int):=λ hi=>by
    have hmk:m.testBit k=true:=by unfold inhB at hi;simp only[qAn]at hi;exact hi.1
    have hok:out.testBit k=true:=by rw[hb k,hmk];simp
    have hle:2^k<=out:=Nat.ge_two_pow_of_testBit hok;rw[ap_ ⟨by omega,by omega⟩];omega
   revert hsub;unfold inhB;cases m.testBit k<;>cases d.testBit k<;>cases m.testBit 31<;>cases((k==0)||(k==3)||(k==6))<;>intro hsub<;>first|rfl|exact congrArg some (hsub rfl)
 have hB:BIG=18446744073709551606+(9+1):=rfl;have big:∀{σ β:Type} {body:σ->Option (Step σ β)} {n k:Nat} {s:σ} {b:β},ak_ body n s=some b->ak_ body (k+n) s=some b:=by
  intro σ β body n
  induction n with
  | zero=>intro k s b h;cases h
  | succ n ih =>
   intro k s b h;rw[show k+(n+1)=(k+n)+1 by omega];simp only[ak_]at h ⊢;split at h
   .exact h
   .exact ih h
   .exact h
 obtain⟨r,h1,h2⟩:=key 9 0 m rfl (Nat.le_refl _) (λ j=>by simp);refine⟨r,ac_ (by simp) (aa_ (a:=(r:Int)) ?_ rfl),h2⟩;rw[hB];exact big h1
theorem ni_{a b:Nat}(ha:a<2^63)(hb:b<2^63):∃r:Nat,cy_ .i64 (a:Int) (b:Int)=(r:Int)/\r<2^63/\r<=a/\∀j,r.testBit j=(a.testBit j && !(b.testBit j)):=by
 refine⟨_,ob_ ha hb,Nat.lt_of_le_of_lt Nat.and_le_left ha,Nat.and_le_left,λ j => ?_⟩;rw[Nat.testBit_and,show 2^64-1-b=2^64-(b+1)by omega,Nat.testBit_two_pow_sub_succ (by omega)];by_cases h64:j<64
 .simp[h64]
 .have:a.testBit j=false:=Nat.testBit_lt_two_pow (Nat.lt_of_lt_of_le ha (Nat.pow_le_pow_right (by omega) (by omega)));simp[this]
theorem bits511(j:Nat):(511:Nat).testBit j=decide (j<9):=by
 by_cases h:j<9
 .have:∀j,j<9->(511:Nat).testBit j=true:=by decide
  simp[h,this j h]
 .have:(511:Nat).testBit j=false:=Nat.testBit_lt_two_pow (Nat.lt_of_lt_of_le (by omega:511<2^9) (Nat.pow_le_pow_right (by omega) (by omega)));simp[h,this]
theorem bits438(j:Nat):(438:Nat).testBit j=(decide (j<9) && !((j==0)||(j==3)||(j==6))):=by
 by_cases h:j<9
 .have:∀j,j<9->(438:Nat).testBit j = !((j==0)||(j==3)||(j==6)):=by decide
  simp[h,this j h]
 .have:(438:Nat).testBit j=false:=Nat.testBit_lt_two_pow (Nat.lt_of_lt_of_le (by omega:438<2^9) (Nat.pow_le_pow_right (by omega) (by omega)));simp[h,this]
theorem inherit_kind(d m:Int)(hd:0<=d/\d<=9223372036854775807)(hm:0<=m/\m<=9223372036854775807):∃q r,eC_ d m=some q/\gj_ d m=some r/\orI .i64 (cy_ .i64 m 511) (bV_ .i64 q 511)=r/\0<=r/\r<=m/\(aI_ m=true->aI_ r=true):=by
 obtain⟨d,rfl⟩:∃n:Nat,d=(n:Int):=⟨d.toNat,by omega⟩;obtain⟨m,rfl⟩:∃n:Nat,m=(n:Int):=⟨m.toNat,by omega⟩;obtain⟨r,h1,h2,h3⟩:=inherit_ref d m (by omega) (by omega);have hlt:m<2^63:=by omega
 have hmask:∃k:Nat,(k=511/\m.testBit 31=true\/k=438/\m.testBit 31=false)/\eC_ (d:Int) (m:Int)=some (cy_ .i64 (m:Int) (cy_ .i64 (k:Int) (d:Int))):=by
  have m31:=od_ (m:Int) 31 (by omega) (by omega);simp only[Nat.reducePow,Int.cast_ofNat_Int]at m31;unfold eC_;cases hb:m.testBit 31 with
  | true =>
   refine⟨511,.inl ⟨rfl,rfl⟩,ac_ (by simp) ?_⟩;refine aa_ (a:=511) (aa_ m31 ?_) rfl;rw[i0_,hb];rfl
  | false =>
   refine⟨438,.inr ⟨rfl,rfl⟩,ac_ (by simp) ?_⟩;refine aa_ (a:=438) (aa_ m31 ?_) rfl;rw[i0_,hb];rfl
 obtain⟨k,hk,hp⟩:=hmask;have hk63:k<2^63:=by rcases hk with⟨rfl,_⟩|⟨rfl,_⟩<;>omega
 obtain⟨a,a1,a2,_,a3⟩:=ni_ (a:=k) (b:=d) hk63 (by omega);obtain⟨q,q1,q2,_,q3⟩:=ni_ (a:=m) (b:=a) hlt a2;obtain⟨t,t1,t2,_,t3⟩:=ni_ (a:=m) (b:=511) hlt (by omega);have hr:t|||(q&&&511)=r:=by
  apply Nat.eq_of_testBit_eq;intro j;rw[Nat.testBit_or,Nat.testBit_and,t3,q3,a3,h3,bits511];unfold inhB;rcases hk with⟨rfl,hb⟩|⟨rfl,hb⟩
  .rw[bits511,hb];cases m.testBit j<;>cases d.testBit j<;>cases decide (j<9)<;>rfl
  .rw[bits438,hb];cases m.testBit j<;>cases d.testBit j<;>cases decide (j<9)<;>cases((j==0)||(j==3)||(j==6))<;>rfl
 refine⟨_,_,by rw[hp,a1,q1],h1,?_,by omega,by omega,λ hok => ?_⟩
 .rw[show(511:Int)=((511:Nat):Int)from rfl,t1,kC_ q2 (by omega),orI_i64 t2 (Nat.lt_of_le_of_lt Nat.and_le_left q2),hr]
 .have htop:r/512=m/512:=by
   apply Nat.eq_of_testBit_eq;intro j;rw[show(512:Nat)=2^9 from rfl,Nat.testBit_div_two_pow,Nat.testBit_div_two_pow,h3];have:decide (j+9<9)=false:=by simp
   rw[this];simp
  unfold aI_ topI at hok ⊢;simp only[qAn,Bool.or_eq_true,qDe,beq_iff_eq]at hok ⊢;omega
def mv_(l:List Xu)(name:Str):Xu×Bool:=match l.find? λ q=>q.Ya==name with|some u=>(u,true)|none=>(Xu.mk [] 0 0,false)
theorem un_(l:List Xu)(name:Str):mv_ l name=(aL_ (λ _ q=>if q.Ya==name then some (q,true)else none) 0 l).getD (Xu.mk [] 0 0,false):=by
 rw[jm_];unfold mv_;cases l.find? λ q=>q.Ya==name<;>rfl
theorem w4_(l:List Xu)(name:Str)(h:l.length<=1000):pw_ l name=some (mv_ l name):=by
 rw[un_];refine bm_ (aV_ l _ (bE_ (by omega)) (λ i hi => ?_) ?_) (λ _=>rfl) rfl
 .unfold lM_;rw[aq_ hi,bj_ hi,au_ (by omega)];simp only[cond_true,qBs];cases l[i].Ya==name<;>rfl
 .unfold lM_;rw[br_];rfl
theorem w5_(l:List Xu)(name:Str)(h:l.length<=1000):tY_ l name=some (mv_ l name):=by
 rw[un_];refine bm_ (aV_ l _ (bE_ (by omega)) (λ i hi => ?_) ?_) (λ _=>rfl) rfl
 .unfold lO_;rw[aq_ hi,bj_ hi,au_ (by omega)];simp only[cond_true,qBs];cases l[i].Ya==name<;>rfl
 .unfold lO_;rw[br_];rfl
def usedN(l:List Xq)(name:Str):Int×Int:=fv_ (fun(s:Int×Int) _ (n:Xq)=>if n.Yw==name then(w64 (s.1+1),w64 (s.2+(n.Xl.length:Int)))else s) (0,0) 0 l
theorem w6_(t:Xk)(name:Str)(h:t.Xz.length<=2000):mm_ t name=some (usedN t.Xz name):=by
 unfold mm_;refine aa_ (a:=usedN t.Xz name) ?_ rfl;refine jO_ (τ:=Int×Int×Int) t.Xz _ (λ i s=>(s.1,s.2,(i:Int))) (λ _ _=>True) (λ s=>(s.1,s.2)) (0,0) (bE_ (by omega)) trivial (λ i s hi _=>⟨?_,trivial⟩) (λ s _ => ?_)
 .unfold lN_;simp only;rw[bj_ hi,aq_ hi,au_ (by omega)];refine ah_ rfl ?_;simp only[qBs];cases t.Xz[i].Yw==name<;>rfl
 .unfold lN_;simp only;rw[br_];rfl
theorem w7_(t:Xk)(name:Str)(h:t.Xz.length<=2000):pz_ t name=some (usedN t.Xz name):=by
 unfold pz_;refine aa_ (a:=usedN t.Xz name) ?_ rfl;refine jO_ (τ:=Int×Int×Int) t.Xz _ (λ i s=>(s.1,s.2,(i:Int))) (λ _ _=>True) (λ s=>(s.1,s.2)) (0,0) (bE_ (by omega)) trivial (λ i s hi _=>⟨?_,trivial⟩) (λ s _ => ?_)
 .unfold lP_;simp only;rw[bj_ hi,aq_ hi,au_ (by omega)];refine ah_ rfl ?_;simp only[qBs];cases t.Xz[i].Yw==name<;>rfl
 .unfold lP_;simp only;rw[br_];rfl
def mw_(l:List Xu)(t:Xk)(name:Str)(files bytes:Int):Bool:=if !(mv_ l name).2 then true else((decide (files<=0)||decide (files<=w64 ((mv_ l name).1.Xp-(usedN t.Xz name).1)))&&(decide (bytes<=0)||decide (bytes<=w64 ((mv_ l name).1.Zq-(usedN t.Xz name).2))))
theorem p5_(l:List Xu)(t:Xk)(name:Str)(files bytes:Int)(h:l.length<=1000)(ht:t.Xz.length<=2000):hC_ l t name files bytes=some (mw_ l t name files bytes):=by
 unfold hC_ mw_;refine aa_ (w4_ l name h) ?_;cases(mv_ l name).2 with
 | false=>rfl
 | true=>exact ac_ rfl (aa_ (w6_ t name ht) rfl)
theorem w8_(l:List Xu)(t:Xk)(name:Str)(files bytes:Int)(h:l.length<=1000)(ht:t.Xz.length<=2000):pA_ l t name files bytes=some (mw_ l t name files bytes):=by
 unfold pA_ mw_;refine aa_ (w5_ l name h) ?_;cases(mv_ l name).2 with
 | false=>rfl
 | true=>exact ac_ rfl (aa_ (w7_ t name ht) rfl)
def posI(l:List Int)(x:Int):Nat:=l.countP λ y=>decide (y<x)
theorem cut_of{l:List Int}{x:Int}{p:Nat}(hp:p<=l.length)(h1:∀k y,k<p->l[k]? = some y->y<x)(h2:∀k y,p<=k->l[k]? = some y->x<=y):posI l x=p/\l.take p=l.filter (λ y=>decide (y<x))/\l.drop p=l.filter (λ y=>decide (x<=y)):=by
 have ht:∀y∈l.take p,y<x:=λ y hy=>by
  rw[List.mem_take_iff_getElem]at hy;obtain⟨k,hk,rfl⟩:=hy;exact h1 k _ (by omega) (List.getElem?_eq_getElem (by omega))
 have hd:∀y∈l.drop p,x<=y:=λ y hy=>by
  obtain⟨k,hk⟩:=List.mem_iff_getElem?.1 hy;rw[List.getElem?_drop]at hk;exact h2 (p+k) _ (by omega) hk
 have e:l=l.take p++l.drop p:=(List.take_append_drop p l).symm;refine⟨?_,?_,?_⟩
 .unfold posI;rw[e,List.countP_append,List.countP_eq_length.2 (λ y hy=>by simpa using ht y hy),List.countP_eq_zero.2 (λ y hy=>by have:=hd y hy;simp;omega),List.length_take];omega
 .rw (occs := .pos [2]) [e];rw[List.filter_append,List.filter_eq_self.2 (λ y hy=>by simpa using ht y hy),List.filter_eq_nil_iff.2 (λ y hy=>by have:=hd y hy;simp;omega),List.append_nil]
 .rw (occs := .pos [2]) [e];have e1:(l.take p).filter (λ y=>decide (x<=y))=[]:=List.filter_eq_nil_iff.2 (λ y hy=>by have:=ht y hy;simp;omega);have e2:(l.drop p).filter (λ y=>decide (x<=y))=l.drop p:=List.filter_eq_self.2 (λ y hy=>by simpa using hd y hy);rw[List.filter_append,e1,e2,List.nil_append]
theorem pL_{l:List Int}(hs:dA_ l){i j:Nat}{x y:Int}(hi:l[i]? = some x)(hj:l[j]? = some y)(h:i<j):x<y:=by
 obtain⟨h1,rfl⟩:=List.getElem?_eq_some_iff.1 hi;obtain⟨h2,rfl⟩:=List.getElem?_eq_some_iff.1 hj;exact List.pairwise_iff_getElem.1 hs i j h1 h2 h
theorem search_loop(l:List Int)(x:Int)(hs:dA_ l)(hl:l.length<=1000):∃p:Nat,ak_ (aY_ l x) BIG (0,(l.length:Int))=some (p:Int)/\p<=l.length/\(∀k y,k<p->l[k]? = some y->y<x)/\∀k y,p<=k->l[k]? = some y->x<=y:=by
 have key:∀(n i j:Nat),j-i<=n->i<=j->j<=l.length->(∀k y,k<i->l[k]? = some y->y<x)->(∀k y,j<=k->l[k]? = some y->x<=y) ->
   ∃p:Nat,ak_ (aY_ l x) (n+1) ((i:Int),(j:Int))=some (p:Int)/\p<=l.length/\(∀k y,k<p->l[k]? = some y->y<x)/\∀k y,p<=k->l[k]? = some y->x<=y:=by
  intro n
  induction n with
  | zero =>
   intro i j hn hij hj h1 h2;obtain rfl:i=j:=by omega
   exact⟨i,ba_ (by unfold aY_;exact ac_ (by simp) rfl),hj,h1,h2⟩
  | succ n ih =>
   intro i j hn hij hj h1 h2;by_cases hlt:i<j
   .have hmid:w64 (((IntKind.u64.wrap (w64 ((i:Int)+(j:Int)))).fdiv (2^1)))=(((i+j)/2:Nat):Int):=by
     rw[ap_ (n:=(i:Int)+(j:Int)) ⟨by omega,by omega⟩,wu64,Int.emod_eq_of_lt (by omega) (by omega),Int.fdiv_eq_ediv_of_nonneg _ (by omega),ap_ ⟨by omega,by omega⟩];omega
    have hm:(i+j)/2<l.length:=by omega
    have hless:cmp_Less_int l[(i+j)/2] x=some (decide (l[(i+j)/2]<x)):=by
     unfold cmp_Less_int cmp_isNaN_int;simp
    by_cases hc:l[(i+j)/2]<x
    .obtain⟨p,hp,hq⟩:=ih ((i+j)/2+1) j (by omega) (by omega) hj (λ k y hk hy=>by
      rcases Nat.lt_or_ge k ((i+j)/2)with h|h
      .have:=pL_ hs hy (List.getElem?_eq_getElem hm) h;omega
      .obtain rfl:k=(i+j)/2:=by omega
       rw[List.getElem?_eq_getElem hm]at hy;obtain rfl:=qSj hy;exact hc) h2
     refine⟨p,bN_ ?_ hp,hq⟩;unfold aY_;simp only;rw[hmid,aq_ hm,au_ (by omega)];refine ah_ (by simpa using hlt) (aa_ rfl (aa_ hless ?_));rw[show decide (l[(i+j)/2]<x)=true by simpa using hc];rfl
    .obtain⟨p,hp,hq⟩:=ih i ((i+j)/2) (by omega) (by omega) (by omega) h1 (λ k y hk hy=>by
      rcases Nat.lt_or_ge ((i+j)/2) k with h|h
      .have:=pL_ hs (List.getElem?_eq_getElem hm) hy h;omega
      .obtain rfl:k=(i+j)/2:=by omega
       rw[List.getElem?_eq_getElem hm]at hy;obtain rfl:=qSj hy;omega)
     refine⟨p,bN_ ?_ hp,hq⟩;unfold aY_;simp only;rw[hmid,aq_ hm];refine ah_ (by simpa using hlt) (aa_ rfl (aa_ hless ?_));rw[show decide (l[(i+j)/2]<x)=false by simpa using hc];rfl
   .obtain rfl:i=j:=by omega
    exact⟨i,ba_ (by unfold aY_;exact ac_ (by simp) rfl),hj,h1,h2⟩
 have big:∀{σ β:Type} {body:σ->Option (Step σ β)} {n k:Nat} {s:σ} {b:β},ak_ body n s=some b->ak_ body (k+n) s=some b:=by
  intro σ β body n
  induction n with
  | zero=>intro k s b h;cases h
  | succ n ih =>
   intro k s b h;rw[show k+(n+1)=(k+n)+1 by omega];simp only[ak_]at h ⊢;split at h
   .exact h
   .exact ih h
   .exact h
 obtain⟨p,hp,hq⟩:=key 1000 0 l.length (by omega) (by omega) (Nat.le_refl _) (λ k y hk=>by omega) (λ k y hk hy=>by rw[List.getElem?_eq_none hk]at hy;cases hy);exact⟨p,by rw[show BIG=18446744073709550615+(1000+1)from rfl];exact big hp,hq⟩
theorem search_eq(l:List Int)(x:Int)(hs:dA_ l)(hl:l.length<=1000):bH_ l x=some ((posI l x:Int),decide (x∈l))/\posI l x<=l.length/\l.take (posI l x)=l.filter (λ y=>decide (y<x))/\l.drop (posI l x)=l.filter (λ y=>decide (x<=y))/\(x∈l->l[posI l x]? = some x):=by
 obtain⟨p,hp,h0,h1,h2⟩:=search_loop l x hs hl;obtain⟨e,e1,e2⟩:=cut_of h0 h1 h2;have hmem:x∈l->l[p]? = some x:=λ hx=>by
  obtain⟨k,hk⟩:=List.mem_iff_getElem?.1 hx;rcases Nat.lt_trichotomy k p with h|h|h
  .have:=h1 k x h hk;omega
  .subst h;exact hk
  .have hlt:p<l.length:=by have:=(List.getElem?_eq_some_iff.1 hk).1;omega
   have h5:=pL_ hs (List.getElem?_eq_getElem hlt) hk h;have h6:=h2 p _ (Nat.le_refl _) (List.getElem?_eq_getElem hlt);omega
 rw[e];refine⟨?_,h0,e1,e2,hmem⟩;unfold bH_;refine aa_ hp ?_;by_cases hlt:p<l.length
 .rw[bj_ hlt,aq_ hlt];have nan:cR_ l[p]=some false:=by unfold cR_;simp
  rw[show(Option.bind (some l[p]) λ y6=>Option.bind (cR_ y6) λ y7=>Option.bind (bif y7 then Option.bind (cR_ x) λ y8=>some y8 else some false) λ y9=>some y9)=some false by simp[nan]];have:(l[p]==x)=decide (x∈l):=by
   rw[Bool.eq_iff_iff,beq_iff_eq,qDe];constructor
   .intro h;rw[←h];exact List.getElem_mem hlt
   .intro h;have:=hmem h;rw[List.getElem?_eq_getElem hlt]at this;exact qSj this
  simp only[qBs,cond_true];rw[this];cases decide (x∈l)<;>rfl
 .have:decide ((p:Int)<(l.length:Int))=false:=by simp;omega
  rw[this];have hx:decide (x∈l)=false:=by
   rw[qDf];intro h;have:=(List.getElem?_eq_some_iff.1 (hmem h)).1;omega
  rw[hx];rfl
def putX(l:List Int)(x:Int):List Int:=l.filter (λ y=>decide (y<x))++x::l.filter (λ y=>decide (x<y))
def outX(l:List Int)(x:Int):List Int:=l.filter λ y=>y != x
theorem drop_ge{l:List Int}{x:Int}(hx:x∉l):l.filter (λ y=>decide (x<=y))=l.filter (λ y=>decide (x<y)):=by
 apply List.filter_congr;intro y hy;have:y≠x:=λ e=>hx (e▸hy)
 rw[Bool.eq_iff_iff,qDe,qDe];omega
theorem drop_ge'{l:List Int}{x:Int}(hs:dA_ l)(hx:x∈l):l.filter (λ y=>decide (x<=y))=x::l.filter (λ y=>decide (x<y)):=by
 induction l with
 | nil=>cases hx
 | cons a l ih =>
  obtain⟨h1,h2⟩:=List.pairwise_cons.1 hs;rw[List.filter_cons,List.filter_cons];rcases List.mem_cons.1 hx with rfl|hx
  .have e1:decide (x<=x)=true:=by simp
   have e2:decide (x<x)=false:=by simp
   rw[e1,e2];simp only[if_true,Bool.false_eq_true,if_false]
   congr 1
   apply List.filter_congr;intro y hy;have:=h1 y hy;rw[Bool.eq_iff_iff,qDe,qDe];omega
  .have hax:=h1 x hx;have e1:decide (x<=a)=false:=by simp;omega
   have e2:decide (x<a)=false:=by simp;omega
   rw[e1,e2];simp only[Bool.false_eq_true,if_false];exact ih h2 hx
theorem putX_mem{l:List Int}{x:Int}(hs:dA_ l)(hx:x∈l):putX l x=l:=by
 unfold putX;rw[←drop_ge' hs hx]
 induction l with
 | nil=>rfl
 | cons a l ih =>
  obtain⟨h1,h2⟩:=List.pairwise_cons.1 hs;rw[List.filter_cons,List.filter_cons];by_cases ha:a<x
  .have e2:decide (x<=a)=false:=by simp;omega
   rw[if_pos (by simpa using ha),e2];simp only[Bool.false_eq_true,if_false,List.cons_append];rcases List.mem_cons.1 hx with rfl|hx
   .omega
   .rw[ih h2 hx]
  .have e2:decide (x<=a)=true:=by simp;omega
   rw[if_neg (by simpa using ha),e2];have hn:l.filter (λ y=>decide (y<x))=[]:=by
    rw[List.filter_eq_nil_iff];intro y hy;have:=h1 y hy;simp;omega
   have ha':l.filter (λ y=>decide (x<=y))=l:=by
    rw[List.filter_eq_self];intro y hy;have:=h1 y hy;simp;omega
   rw[hn,ha'];simp
theorem outX_cut{l:List Int}{x:Int}(hs:dA_ l):outX l x=l.filter (λ y=>decide (y<x))++l.filter (λ y=>decide (x<y)):=by
 unfold outX
 induction l with
 | nil=>rfl
 | cons a l ih =>
  obtain⟨h1,h2⟩:=List.pairwise_cons.1 hs;rw[List.filter_cons,List.filter_cons,List.filter_cons];rcases Int.lt_trichotomy a x with h|h|h
  .have e1:(a != x)=true:=by rw[bne_iff_ne];omega
   have e2:decide (a<x)=true:=by simpa using h
   have e3:decide (x<a)=false:=by simp;omega
   rw[e1,e2,e3];simp only[if_true,Bool.false_eq_true,if_false,List.cons_append];rw[ih h2]
  .subst h;simp only[bne_self_eq_false,Bool.false_eq_true,if_false,Int.lt_irrefl,decide_false];exact ih h2
  .have e1:(a != x)=true:=by rw[bne_iff_ne];omega
   have e2:decide (a<x)=false:=by simp;omega
   have e3:decide (x<a)=true:=by simpa using h
   rw[e1,e2,e3];simp only[if_true,Bool.false_eq_true,if_false];have hn:l.filter (λ y=>decide (y<x))=[]:=by
    rw[List.filter_eq_nil_iff];intro y hy;have:=h1 y hy;simp;omega
   rw[ih h2,hn];rfl
theorem outX_sorted{l:List Int}{x:Int}(hs:dA_ l):dA_ (outX l x):=hs.filter _
theorem mem_outX{l:List Int}{x y:Int}:y∈outX l x↔y∈l/\y≠x:=by
 unfold outX;rw[List.mem_filter,bne_iff_ne]
theorem outX_len(l:List Int)(x:Int):(outX l x).length<=l.length:=List.length_filter_le _ _
theorem insN_one{xs:List Int}{p:Nat}{x:Int}(h:p<=xs.length)(hl:xs.length<=1000):insN 8 xs (p:Int) [x]=some (xs.take p++x::xs.drop p):=by
 show(if 0<=(p:Int)/\(p:Int)<=(xs.length:Int)/\(xs.length+(0+1))*8<=140737488355328 then some (xs.take (p:Int).toNat++([x]++xs.drop (p:Int).toNat))else none)=_;rw[if_pos ⟨by omega,by omega,by omega⟩,qTn];rfl
theorem delN_one{α:Type}{xs:List α}{p:Nat}(h:p<xs.length):delN xs (p:Int) ((p+1:Nat):Int)=some (xs.take p++xs.drop (p+1)):=by
 cases xs with
 | nil=>simp at h
 | cons a l =>
  show(if 0<=(p:Int)/\(p:Int)<=((p+1:Nat):Int)/\((p+1:Nat):Int)<=((a::l).length:Int)then some ((a::l).take (p:Int).toNat++(a::l).drop ((p+1:Nat):Int).toNat)else none)=_;rw[if_pos ⟨by omega,by omega,by omega⟩,qTn,qTn]
def setX(s:Xx)(l:List Int):Xx:=Xx.mk s.Yq s.Yj s.Xm l
theorem lock_eq(s:Xx)(x:Int)(hs:dA_ s.Xs)(hl:s.Xs.length<=1000):eD_ s x=some (setX s (putX s.Xs x)):=by
 obtain⟨h1,h2,h3,h4,h5⟩:=search_eq s.Xs x hs hl;unfold eD_ setX;refine aa_ (a:=(s.Yq,s.Yj,s.Xm.Xr,s.Xm.Xz,putX s.Xs x)) ?_ rfl;refine aa_ h1 ?_;by_cases hx:x∈s.Xs
 .rw[show decide (x∈s.Xs)=true by simpa using hx,putX_mem hs hx];rfl
 .rw[show decide (x∈s.Xs)=false by simpa using hx];refine ah_ rfl (aa_ (mu_ hl) (aa_ (a:=putX s.Xs x) ?_ rfl));refine(insN_one h2 hl).trans ?_;rw[h3,h4,drop_ge hx];rfl
theorem q6_(s:Xx)(x:Int)(hs:dA_ s.Xs)(hl:s.Xs.length<=1000):ex_ s x=some (setX s (outX s.Xs x)):=by
 obtain⟨h1,h2,h3,h4,h5⟩:=search_eq s.Xs x hs hl;unfold ex_ setX;refine aa_ (a:=(s.Yq,s.Yj,s.Xm.Xr,s.Xm.Xz,outX s.Xs x)) ?_ rfl;refine aa_ h1 ?_;by_cases hx:x∈s.Xs
 .rw[show decide (x∈s.Xs)=true by simpa using hx];have hlt:=(List.getElem?_eq_some_iff.1 (h5 hx)).1;refine ah_ rfl (aa_ (mu_ hl) (aa_ (a:=outX s.Xs x) ?_ rfl));rw[au_ (by omega)];refine(delN_one hlt).trans ?_;rw[outX_cut hs,h3]
  congr 2
  rw[←List.drop_drop,h4,drop_ge' hs hx];rfl
 .rw[show decide (x∈s.Xs)=false by simpa using hx];have:outX s.Xs x=s.Xs:=by
   unfold outX;rw[List.filter_eq_self];intro y hy;rw[bne_iff_ne];exact λ e=>hx (e▸hy)
  rw[this];rfl
theorem w9_(l:List Int)(x:Int)(hl:l.length<=1000):cJ_ l x=some (decide (x∈l)):=by
 have h:gz_ l x=some (at_ (λ y=>y==x) l):=by
  rw[←jn_];refine bm_ (aV_ l _ (bE_ (by omega)) (λ i hi => ?_) ?_) (λ _=>rfl) rfl
  .unfold fp_;rw[aq_ hi,bj_ hi,au_ (by omega)];simp only[cond_true,qBs];have e:(x==l[i])=(l[i]==x):=by rw[Bool.eq_iff_iff,beq_iff_eq,beq_iff_eq];exact⟨Eq.symm,Eq.symm⟩
   rw[e];cases l[i]==x<;>rfl
  .unfold fp_;rw[br_];rfl
 unfold cJ_;refine aa_ h ?_;rw[at_any]
 congr 1
 rw[Bool.eq_iff_iff,List.any_eq_true,qDe];constructor
 .rintro⟨y,h1,h2⟩;rw[beq_iff_eq]at h2;exact h2▸h1
 .intro h;exact⟨x,h,by simp⟩
def dn_(s:Str):Str:=bif decide ((s.length:Int)>64)then[]else s
theorem iq_{n:Xq}(h:aN_ n=true):0<=n.Xo/\n.Xo<=2147483647:=by
 unfold aN_ at h;simp only[qAn,qDe]at h;exact h.1.1.1.1.1.2
theorem okNode_dir{n:Xq}(h:aN_ n=true)(hd:am_ n.Xv 31=true):n.Xl=[]:=by
 unfold aN_ at h;simp only[qAn,Bool.or_eq_true,hd,beq_iff_eq]at h;rcases h.2 with h2|h2
 .cases h2
 .exact h2
theorem eY_(t:Xk)(h:t.Xz.length<=2000):aE_ t=some t:=by
 unfold aE_;refine aa_ (makeI_eq (by omega) (by omega) (by omega)) ?_;rw[qTn];have:l6_ (List.replicate t.Xz.length (Xq.mk 0 0 0 [] 0 [] [] [] 0 0 [])) t.Xz=t.Xz:=by
  unfold l6_;simp
 rw[this]
def bz_(l:List Xq)(n:Xq):List Xq:=l.map λ m=>bif m.Id_==n.Id_ then n else m
theorem kF_(l:List Xq)(n:Xq):(bz_ l n).length=l.length:=by simp[bz_]
theorem pO_{l:List Xq}(hs:l.Pairwise λ a b=>a.Id_<b.Id_){i:Nat}{m n:Xq}(hi:l[i]? = some m)(hn:n.Id_=m.Id_):l.set i n=bz_ l n:=by
 apply List.ext_getElem?;intro j;unfold bz_;rw[List.getElem?_set,List.getElem?_map];have hlt:=(List.getElem?_eq_some_iff.1 hi).1;by_cases hij:i=j
 .subst hij;rw[if_pos rfl,if_pos hlt,hi];simp[hn]
 .rw[if_neg hij];cases hj:l[j]? with
  | none=>rfl
  | some x =>
   have hne:(x.Id_==n.Id_)=false:=by
    rw[beq_eq_false_iff_ne];intro e;obtain⟨hj1,rfl⟩:=List.getElem?_eq_some_iff.1 hj;obtain⟨hi1,rfl⟩:=List.getElem?_eq_some_iff.1 hi;rw[List.pairwise_iff_getElem]at hs;rcases Nat.lt_trichotomy i j with h|h|h
    .have:=hs i j hi1 hj1 h;omega
    .exact hij h
    .have:=hs j i hj1 hi1 h;omega
   simp[hne]
def bU_(n:Xq)(uid:Str)(now:Int):Xq:=Xq.mk n.Id_ n.Xw ((w64 (n.Xo+1)).tmod 2147483648) n.Xy n.Xv n.Yw n.Yk (dn_ uid) n.Yz (bv_ now) n.Xl
theorem eZ_(s:Str):ee_ s=some (dn_ s):=by unfold ee_ dn_;cases decide ((s.length:Int)>64)<;>rfl
theorem hL_(t:Xk)(i:Nat)(n:Xq)(uid:Str)(now:Int)(hi:t.Xz[i]? = some n)(hs:t.Xz.Pairwise λ a b=>a.Id_<b.Id_)(hv:0<=n.Xo/\n.Xo<=2147483647):c5_ t (i:Int) uid now=some (Xk.mk t.Xr (bz_ t.Xz (bU_ n uid now))):=by
 have hlt:=(List.getElem?_eq_some_iff.1 hi).1;have hset:∀x:Xq,al_ (t.Xz.set i x) (i:Int)=some x:=λ x=>by
  rw[bl_,List.getElem?_set,if_pos rfl,if_pos hlt]
 have hv1:w64 (n.Xo+1)=n.Xo+1:=ap_ ⟨by omega,by omega⟩;rw[←pO_ hs hi (n:=bU_ n uid now) rfl];unfold c5_;rw[bl_,hi];refine aa_ rfl ?_;simp only[qTn];by_cases hc:n.Xo=2147483647
 .have ec:decide (w64 (n.Xo+1)>2147483647)=true:=by rw[hv1,qDe];omega
  refine aa_ (ah_ ec rfl) ?_;rw[List.set_set];refine aa_ (hset _) (aa_ rfl (aa_ (eZ_ uid) ?_));rw[List.set_set,List.set_set];have:(w64 (n.Xo+1)).tmod 2147483648=0:=by rw[hv1,hc];rfl
  unfold bU_;rw[this];rfl
 .have ec:decide (w64 (n.Xo+1)>2147483647)=false:=by rw[hv1,qDf];omega
  refine aa_ (ac_ ec rfl) ?_;refine aa_ (hset _) (aa_ rfl (aa_ (eZ_ uid) ?_));rw[List.set_set,List.set_set];have:(w64 (n.Xo+1)).tmod 2147483648=w64 (n.Xo+1):=by
   rw[hv1,Int.tmod_eq_emod_of_nonneg (by omega),Int.emod_eq_of_lt (by omega) (by omega)]
  unfold bU_;rw[this];rfl
def newN(t:Xk)(dir:Int)(name:Str)(mode:Int)(uid gid:Str)(now:Int):Xq:=Xq.mk t.Xr dir 0 name mode (dn_ uid) (dn_ gid) (dn_ uid) (bv_ now) (bv_ now) []
def kG_(t:Xk)(dir:Int)(name:Str)(mode:Int)(uid gid:Str)(now:Int):Xk×Int×Int:=bif !(ai_ t.Xz dir).2 then(t,0,8)else bif !(am_ (ai_ t.Xz dir).1.Xv 31)then(t,0,9)else bif !(bO_ name)then(t,0,6)else bif !(aI_ mode)then(t,0,1)else bif(t.Xz.find? (cY_ dir name)).isSome then(t,0,7)else bif decide ((t.Xz.length:Int)>=1024)||decide (t.Xr>1048575)then(t,0,22)else(Xk.mk (w64 (t.Xr+1)) (bz_ t.Xz (bU_ (ai_ t.Xz dir).1 uid now)++[newN t dir name mode uid gid now]),t.Xr,0)
theorem at_pos{α:Type}(p:α->Bool)(l:List α):decide (at_ p l>=0)=(l.find? p).isSome:=by
 have:=jP_ p l;have e:decide (at_ p l>=0) = !decide (at_ p l<0):=by rw[Bool.eq_iff_iff];simp
 rw[e,this];cases l.find? p<;>rfl
theorem vD_(t:Xk)(dir:Int)(name:Str)(mode:Int)(uid gid:Str)(now:Int)(h:OkT t.Xz t.Xr)(hm:mode<=9223372036854775807)(hn:name.length<=9223372036854775807):in_ t dir name mode uid gid now=some (kG_ t dir name mode uid gid now):=by
 have hl:=h.len;have hc:=eY_ t (by omega);unfold in_ kG_;refine aa_ (qU_ t dir h) ?_;unfold mC_;cases h1:(ai_ t.Xz dir).2 with
 | false=>exact aa_ hc rfl
 | true =>
  cases h2:am_ (ai_ t.Xz dir).1.Xv 31 with
  | false=>exact aa_ hc rfl
  | true =>
   refine ac_ rfl (aa_ (hH_ name hn) ?_);cases bO_ name with
   | false=>exact aa_ hc rfl
   | true =>
    refine ac_ rfl (aa_ (lQ_ mode hm) ?_);cases aI_ mode with
    | false=>exact aa_ hc rfl
    | true =>
     refine ac_ rfl (aa_ (sW_ t dir name (by omega)) ?_);rw[at_pos];cases(t.Xz.find? (cY_ dir name)).isSome with
     | true=>exact aa_ hc rfl
     | false =>
      refine ac_ rfl ?_;cases decide ((t.Xz.length:Int)>=1024)||decide (t.Xr>1048575)with
      | true=>exact aa_ hc rfl
      | false =>
       obtain⟨i,e1,e2,e3⟩:=at_id h1;refine ac_ rfl (aa_ hc (aa_ (di_ t dir (by omega)) ?_));rw[e1];refine aa_ (hL_ t i _ uid now e2 h.srt (iq_ (h.flds _ (bu_ h1).1))) ?_;refine aa_ rfl (aa_ (eZ_ uid) (aa_ (eZ_ gid) (aa_ (eZ_ uid) (aa_ (cB_ ?_ ?_) rfl))))
       .simp[kF_];omega
       .simp[kF_];omega
def kH_(t:Xk)(id:Int)(uid:Str)(now:Int):Xk×Int:=bif !(ai_ t.Xz id).2 then(t,8)else bif id==1 then(t,1)else bif decide (((bw_ t.Xz id).length:Int)>0)then(t,23)else(Xk.mk t.Xr ((bz_ t.Xz (bU_ (ai_ t.Xz (ai_ t.Xz id).1.Xw).1 uid now)).filter λ n=>n.Id_ != id),0)
theorem filter_cut{l:List Xq}(hs:l.Pairwise λ a b=>a.Id_<b.Id_){i:Nat}{m:Xq}(hi:l[i]? = some m):(l.filter λ n=>n.Id_ != m.Id_)=l.take i++l.drop (i+1):=by
 induction l generalizing i with
 | nil=>simp at hi
 | cons x l ih =>
  obtain⟨h1,h2⟩:=List.pairwise_cons.1 hs;rw[List.filter_cons];cases i with
  | zero =>
   simp at hi;subst hi;simp only[bne_self_eq_false,Bool.false_eq_true,if_false,List.take_zero,List.nil_append,List.drop_succ_cons,List.drop_zero];rw[List.filter_eq_self];intro n hn;have:=h1 n hn;rw[bne_iff_ne];omega
  | succ i =>
   have hi':l[i]? = some m:=by simpa using hi
   have:=h1 m (List.mem_of_getElem? hi');have hne:(x.Id_ != m.Id_)=true:=by rw[bne_iff_ne];omega
   rw[hne,ih h2 hi'];rfl
theorem kI_{l:List Xq}(hs:l.Pairwise λ a b=>a.Id_<b.Id_)(n:Xq):(bz_ l n).Pairwise λ a b=>a.Id_<b.Id_:=by
 unfold bz_;rw[List.pairwise_map];refine hs.imp fun{a b} hab => ?_
 have ea:(bif a.Id_==n.Id_ then n else a).Id_=a.Id_:=by
  cases h:a.Id_==n.Id_ with
  | true=>exact(beq_iff_eq.1 h).symm
  | false=>rfl
 have eb:(bif b.Id_==n.Id_ then n else b).Id_=b.Id_:=by
  cases h:b.Id_==n.Id_ with
  | true=>exact(beq_iff_eq.1 h).symm
  | false=>rfl
 rw[ea,eb];exact hab
theorem updN_get{l:List Xq}{n:Xq}{i:Nat}{m:Xq}(h:l[i]? = some m):∃m',(bz_ l n)[i]? = some m'/\m'.Id_=m.Id_:=by
 unfold bz_;rw[List.getElem?_map,h];refine⟨_,rfl,?_⟩;show(bif m.Id_==n.Id_ then n else m).Id_=m.Id_;cases h:m.Id_==n.Id_ with
 | true=>exact(beq_iff_eq.1 h).symm
 | false=>rfl
theorem vE_(t:Xk)(id:Int)(uid:Str)(now:Int)(h:OkT t.Xz t.Xr):lb_ t id uid now=some (kH_ t id uid now):=by
 have hl:=h.len;have hc:=eY_ t (by omega);unfold lb_ kH_;refine aa_ (di_ t id (by omega)) ?_;cases h1:(ai_ t.Xz id).2 with
 | false =>
  rw[ms_ h1];exact aa_ hc rfl
 | true =>
  obtain⟨i,e1,e2,e3⟩:=at_id h1;rw[e1];refine ac_ (by simp) ?_;cases h2:id==1 with
  | true=>exact aa_ hc rfl
  | false =>
   refine ac_ rfl (aa_ (i2_ t id h) ?_);cases decide (((bw_ t.Xz id).length:Int)>0)with
   | true=>exact aa_ hc rfl
   | false =>
    obtain⟨hm,hid⟩:=bu_ h1;have hne:(ai_ t.Xz id).1.Id_≠1:=by rw[hid];simpa using h2
    obtain⟨p,hp1,hp2,hp3,hp4⟩:=h.par _ hm hne;have hpn:=hb_ h.srt hp1;rw[hp2]at hpn;have hp:(ai_ t.Xz (ai_ t.Xz id).1.Xw).2=true:=by rw[hpn]
    obtain⟨j,f1,f2,f3⟩:=at_id hp;refine ac_ rfl (aa_ hc (aa_ (a:=(ai_ t.Xz id).1) (by rw[bl_,e2]) (aa_ (di_ t _ (by omega)) ?_)));rw[f1];refine aa_ (hL_ t j _ uid now f2 h.srt (iq_ (h.flds _ (bu_ hp).1))) ?_;generalize hU:bz_ t.Xz (bU_ (ai_ t.Xz (ai_ t.Xz id).1.Xw).1 uid now)=U;have hUl:U.length=t.Xz.length:=by rw[←hU,kF_]
    rw[au_ (by omega)];refine aa_ (ch_ (by omega) (by omega) (by simp only[hUl];omega)) (aa_ (ch_ (by omega) (by simp only[hUl];omega) (by omega)) (aa_ (ch_ (by omega) (by omega) (by simp only[hUl];omega)) ?_));have hsrt:U.Pairwise λ a b=>a.Id_<b.Id_:=by rw[←hU];exact kI_ h.srt _
    obtain⟨m',g1,g2⟩:=updN_get (n:=bU_ (ai_ t.Xz (ai_ t.Xz id).1.Xw).1 uid now) e2;rw[hU]at g1;have hcut:=filter_cut hsrt g1;rw[g2,hid]at hcut;rw[hcut];simp only[qTn,Int.toNat_zero,List.drop_zero];refine aa_ (cB_ ?_ ?_) rfl
    .simp;omega
    .simp;omega
def putD(n:Xq)(d:Str):Xq:=Xq.mk n.Id_ n.Xw n.Xo n.Xy n.Xv n.Yw n.Yk n.Yy n.Yz n.Xa d
def bI_(n:Xq)(s:Str):Xq:=Xq.mk n.Id_ n.Xw n.Xo s n.Xv n.Yw n.Yk n.Yy n.Yz n.Xa n.Xl
theorem fileT_zero{l:List Xq}{id:Int}(h:(hK_ l id != 0)=false):(ai_ l id).2=true/\am_ (ai_ l id).1.Xv 31=false:=by
 unfold hK_ at h;cases h1:(ai_ l id).2<;>cases h2:am_ (ai_ l id).1.Xv 31<;>rw[h1,h2]at h<;>first|exact⟨rfl,rfl⟩|(cases h)
def fitS(s:Str)(n:Nat):Str:=s.take n++List.replicate (n-s.length) 0
theorem s0_(s:Str)(n:Nat):(fitS s n).length=n:=by simp[fitS];omega
theorem sm_(s:Str)(n:Nat)(hs:s.length<=65536)(hn:n<=65536):m2_ s (n:Int)=some (fitS s n):=by
 unfold m2_ fitS;by_cases h:n<=s.length
 .refine ah_ (by simpa using h) (aa_ (ch_ (by omega) (by omega) (by omega)) ?_);rw[qTn,Int.toNat_zero,List.drop_zero,show n-s.length=0 by omega];simp
 .refine ac_ (by simp;omega) ?_;rw[ap_ ⟨by omega,by omega⟩,show(n:Int)-(s.length:Int)=((n-s.length:Nat):Int)by omega];have hr:strings_Repeat [0] ((n-s.length:Nat):Int)=some (List.replicate (n-s.length) 0):=by
   unfold strings_Repeat;rw[if_pos ⟨by omega,by omega,by rw[qTn,List.length_singleton];omega⟩];simp
  refine aa_ hr (aa_ (cC_ (by simp;omega)) ?_);rw[List.take_of_length_le (by omega)]
def gu_(t:Xk)(id size:Int)(uid:Str)(now:Int):Xk×Int:=bif hK_ t.Xz id != 0 then(t,hK_ t.Xz id)else bif decide (size<0)then(t,1)else bif decide (size>65536)then(t,4)else bif size==((ai_ t.Xz id).1.Xl.length:Int)then(t,0)else(Xk.mk t.Xr (bz_ t.Xz (bU_ (putD (ai_ t.Xz id).1 (fitS (ai_ t.Xz id).1.Xl size.toNat)) uid now)),0)
theorem upd_upd{l:List Xq}{a b:Xq}(h:a.Id_=b.Id_):bz_ (bz_ l a) b=bz_ l b:=by
 unfold bz_;rw[List.map_map]
 congr 1
 funext m
 show(bif(bif m.Id_==a.Id_ then a else m).Id_==b.Id_ then b else(bif m.Id_==a.Id_ then a else m))=_;cases hm:m.Id_==a.Id_ with
 | true =>
  have:=beq_iff_eq.1 hm;simp[h,this]
 | false=>rfl
theorem uo_{t:Xk}{k:Nat}{m n:Xq}(hk:t.Xz[k]? = some m)(hid:n.Id_=m.Id_)(hs:t.Xz.Pairwise λ a b=>a.Id_<b.Id_)(hv:0<=n.Xo/\n.Xo<=2147483647)(uid:Str)(now:Int) :
  c5_ (Xk.mk t.Xr (t.Xz.set k n)) (k:Int) uid now=some (Xk.mk t.Xr (bz_ t.Xz (bU_ n uid now))):=by
 have hlt:=(List.getElem?_eq_some_iff.1 hk).1;have hset:=pO_ hs hk hid;rw[hL_ (Xk.mk t.Xr (t.Xz.set k n)) k n uid now (by simp only;rw[List.getElem?_set,if_pos rfl,if_pos hlt]) (by simp only;rw[hset];exact kI_ hs n) hv];simp only;rw[hset,upd_upd (by rfl)]
theorem oP_(t:Xk)(id size:Int)(uid:Str)(now:Int)(h:OkT t.Xz t.Xr):gs_ t id size uid now=some (gu_ t id size uid now):=by
 have hl:=h.len;have hc:=eY_ t (by omega);obtain⟨i,e1,e2⟩:=qZ_ t id h;unfold gs_ gu_;refine aa_ e1 ?_;cases hf:hK_ t.Xz id != 0 with
 | true=>exact aa_ hc rfl
 | false =>
  obtain⟨k,rfl,e3⟩:=e2 hf;have hm:=List.mem_of_getElem? e3;have hd:=si_ (h.flds _ hm);have hv:=iq_ (h.flds _ hm);refine ac_ rfl ?_;by_cases h0:size<0
  .rw[show decide (size<0)=true by simpa using h0];exact aa_ hc rfl
  .by_cases h1:size>65536
   .rw[show decide (size<0)=false by simpa using h0,show decide (size>65536)=true by simpa using h1];exact aa_ hc rfl
   .rw[show decide (size<0)=false by simpa using h0,show decide (size>65536)=false by simpa using h1];refine ac_ rfl (ac_ rfl (aa_ (a:=(ai_ t.Xz id).1) (by rw[bl_,e3]) ?_));cases size==((ai_ t.Xz id).1.Xl.length:Int)with
    | true=>exact aa_ hc rfl
    | false =>
     refine ac_ rfl (aa_ hc (aa_ (a:=(ai_ t.Xz id).1) (by rw[bl_,e3]) ?_));obtain⟨n,rfl⟩:∃n:Nat,size=(n:Int):=⟨size.toNat,by omega⟩;refine aa_ (sm_ _ n hd (by omega)) (aa_ (a:=(ai_ t.Xz id).1) (by rw[bl_,e3]) ?_);refine aa_ (uo_ e3 (n:=putD (ai_ t.Xz id).1 (fitS (ai_ t.Xz id).1.Xl n)) rfl h.srt hv uid now) rfl
def wrS(old:Str)(o:Nat)(data:Str):Str:=fitS old o++data++old.drop (o+data.length)
def writeT(t:Xk)(id offset:Int)(data uid:Str)(now:Int):Xk×Int×Int :=
 bif hK_ t.Xz id != 0 then(t,0,hK_ t.Xz id)else bif decide (offset<0)then(t,0,1)else bif data==[]then(t,0,0)else
 let o:=bif am_ (ai_ t.Xz id).1.Xv 30 then((ai_ t.Xz id).1.Xl.length:Int)else offset
 bif decide (o+(data.length:Int)>65536)then(t,0,4)else
 (Xk.mk t.Xr (bz_ t.Xz (bU_ (putD (ai_ t.Xz id).1 (wrS (ai_ t.Xz id).1.Xl o.toNat data)) uid now)),(data.length:Int),0)
theorem drop_min(s:Str)(k:Nat):s.drop (min k s.length)=s.drop k:=by
 rcases Nat.lt_or_ge k s.length with h'|h'
 .rw[Nat.min_eq_left (by omega)]
 .rw[Nat.min_eq_right h',List.drop_eq_nil_of_le h',List.drop_eq_nil_of_le (Nat.le_refl _)]
theorem xa_(t:Xk)(id offset:Int)(data uid:Str)(now:Int)(h:OkT t.Xz t.Xr)(ho:offset<=9223372036854775807)(hdl:data.length<=9223372036854775807):jI_ t id offset data uid now=some (writeT t id offset data uid now):=by
 have hl:=h.len;have hc:=eY_ t (by omega);obtain⟨i,e1,e2⟩:=qZ_ t id h;unfold jI_ writeT;refine aa_ e1 ?_;cases hf:hK_ t.Xz id != 0 with
 | true=>exact aa_ hc rfl
 | false =>
  obtain⟨k,rfl,e3⟩:=e2 hf;have hm:=List.mem_of_getElem? e3;have hd:=si_ (h.flds _ hm);have hv:=iq_ (h.flds _ hm);have hmode:=h.hm hm;refine ac_ rfl ?_;by_cases h0:offset<0
  .rw[show decide (offset<0)=true by simpa using h0];exact aa_ hc rfl
  .rw [show decide (offset<0)=false by simpa using h0];refine ac_ rfl ?_;cases data==[]with
   | true=>exact aa_ hc rfl
   | false =>
    refine ac_ rfl (aa_ (a:=(ai_ t.Xz id).1) (by rw[bl_,e3]) ?_);have hg:=tree_app_eq _ hmode;generalize hN:(ai_ t.Xz id).1=N at hd hv hg e3;generalize hO:(bif am_ N.Xv 30 then(N.Xl.length:Int)else offset)=o;have ho0:0<=o/\o<=9223372036854775807:=by
     subst hO;cases am_ N.Xv 30
     .simp;omega
     .simp;omega
    refine aa_ (a:=o) (aa_ (a:=N) (by rw[bl_,e3]) (aa_ hg ?_)) ?_
    .rw[←hO];cases am_ N.Xv 30<;>rfl
    .simp only[cond_false];by_cases hbig:o+(data.length:Int)>65536
     .have c1:decide (o+(data.length:Int)>65536)=true:=by simpa using hbig
      rw[c1];refine ah_ ?_ (aa_ hc rfl);rw[Bool.or_eq_true,qDe,qDe];by_cases h6:o>65536
      .exact .inl h6
      .rw[ap_ ⟨by omega,by omega⟩];exact .inr (by omega)
     .have c1:decide (o+(data.length:Int)>65536)=false:=by simpa using hbig
      rw[c1];refine ac_ ?_ ?_
      .rw[ap_ ⟨by omega,by omega⟩];simp;omega
      .refine aa_ hc ?_;obtain⟨p,rfl⟩:∃p:Nat,o=(p:Int):=⟨o.toNat,by omega⟩;refine aa_ (sm_ _ p hd (by omega)) (aa_ (cC_ (by rw[s0_];omega)) ?_);rw[ap_ ⟨by omega,by omega⟩,show(p:Int)+(data.length:Int)=((p+data.length:Nat):Int)by omega,minI_nat _ _ (by omega),qTn];refine aa_ (ch_ (by omega) (by omega) (by omega)) ?_;rw[qTn,qTn,List.take_length,drop_min];refine aa_ (cC_ (by simp[s0_];omega)) ?_;refine aa_ (a:=N) (by rw[bl_,e3]) ?_;refine aa_ (uo_ e3 (n:=putD N (wrS N.Xl p data)) rfl h.srt hv uid now) ?_;simp only[qTn,cond_false]
def kJ_(t:Xk)(id:Int)(name uid:Str)(now:Int):Xk×Int:=bif !(ai_ t.Xz id).2 then(t,8)else bif id==1 then(t,1)else bif !(bO_ name)then(t,6)else bif(ai_ t.Xz id).1.Xy==name then(t,0)else bif(t.Xz.find? (cY_ (ai_ t.Xz id).1.Xw name)).isSome then(t,7)else(Xk.mk t.Xr (bz_ (bz_ t.Xz (bI_ (ai_ t.Xz id).1 name)) (bU_ (ai_ (bz_ t.Xz (bI_ (ai_ t.Xz id).1 name)) (ai_ t.Xz id).1.Xw).1 uid now)),0)
theorem mem_updN{l:List Xq}{n x:Xq}(hx:x∈bz_ l n):∃m∈l,x.Id_=m.Id_/\(x=m/\m.Id_≠n.Id_\/x=n/\m.Id_=n.Id_):=by
 unfold bz_ at hx;obtain⟨m,hm,rfl⟩:=List.mem_map.1 hx;refine⟨m,hm,?_⟩;cases h:m.Id_==n.Id_ with
 | true=>exact⟨(beq_iff_eq.1 h).symm,.inr ⟨rfl,beq_iff_eq.1 h⟩⟩
 | false=>exact⟨rfl,.inl ⟨rfl,by simpa using h⟩⟩
theorem nj_{l:List Xq}{n m:Xq}(hm:m∈l):(bif m.Id_==n.Id_ then n else m)∈bz_ l n:=List.mem_map.2 ⟨m,hm,rfl⟩
theorem vF_ (t:Xk) (id:Int) (name uid:Str) (now:Int) (h:OkT t.Xz t.Xr) (hn:name.length<=9223372036854775807):lc_ t id name uid now=some (kJ_ t id name uid now):=by
 have hl:=h.len;have hc:=eY_ t (by omega);unfold lc_ kJ_;refine aa_ (di_ t id (by omega)) ?_;cases h1:(ai_ t.Xz id).2 with
 | false =>
  rw[ms_ h1];exact aa_ hc rfl
 | true =>
  obtain⟨i,e1,e2,e3⟩:=at_id h1;rw[e1];refine ac_ (by simp) ?_;cases h2:id==1 with
  | true=>exact aa_ hc rfl
  | false =>
   refine ac_ rfl (aa_ (hH_ name hn) ?_);cases h3:bO_ name with
   | false=>exact aa_ hc rfl
   | true =>
    refine ac_ rfl (aa_ (a:=(ai_ t.Xz id).1) (by rw[bl_,e2]) ?_);have e4:(name==(ai_ t.Xz id).1.Xy)=((ai_ t.Xz id).1.Xy==name):=by rw[Bool.eq_iff_iff,beq_iff_eq,beq_iff_eq];exact⟨Eq.symm,Eq.symm⟩
    rw[e4];cases(ai_ t.Xz id).1.Xy==name with
    | true=>exact aa_ hc rfl
    | false =>
     refine ac_ rfl (aa_ (a:=(ai_ t.Xz id).1) (by rw[bl_,e2]) (aa_ (sW_ t _ name (by omega)) ?_));rw[at_pos];cases(t.Xz.find? (cY_ (ai_ t.Xz id).1.Xw name)).isSome with
     | true=>exact aa_ hc rfl
     | false =>
      obtain⟨hm,hid⟩:=bu_ h1;have hne:(ai_ t.Xz id).1.Id_≠1:=by rw[hid];simpa using h2
      obtain⟨p,hp1,hp2,hp3,hp4⟩:=h.par _ hm hne;have hset:=pO_ h.srt e2 (n:=bI_ (ai_ t.Xz id).1 name) rfl;have hsrt:=kI_ h.srt (bI_ (ai_ t.Xz id).1 name);have hpu:p∈bz_ t.Xz (bI_ (ai_ t.Xz id).1 name):=by
       have:=nj_ (n:=bI_ (ai_ t.Xz id).1 name) hp1;have hb:(p.Id_==(bI_ (ai_ t.Xz id).1 name).Id_)=false:=by
        rw[beq_eq_false_iff_ne];show p.Id_≠(ai_ t.Xz id).1.Id_;omega
       rw[hb]at this;exact this
      have hpn:=hb_ hsrt hpu;rw[hp2]at hpn;have hp:(ai_ (bz_ t.Xz (bI_ (ai_ t.Xz id).1 name)) (ai_ t.Xz id).1.Xw).2=true:=by rw[hpn]
      obtain⟨j,f1,f2,f3⟩:=at_id hp;refine ac_ rfl (aa_ hc (aa_ (a:=(ai_ t.Xz id).1) (by rw[bl_,e2]) ?_));simp only[qTn];rw[show t.Xz.set i (Xq.mk (ai_ t.Xz id).1.Id_ (ai_ t.Xz id).1.Xw (ai_ t.Xz id).1.Xo name (ai_ t.Xz id).1.Xv (ai_ t.Xz id).1.Yw (ai_ t.Xz id).1.Yk (ai_ t.Xz id).1.Yy (ai_ t.Xz id).1.Yz (ai_ t.Xz id).1.Xa (ai_ t.Xz id).1.Xl)=bz_ t.Xz (bI_ (ai_ t.Xz id).1 name)from hset];refine aa_ (a:=bI_ (ai_ t.Xz id).1 name) (by rw[bl_,←hset,List.getElem?_set,if_pos rfl,if_pos e3]) ?_;refine aa_ (di_ _ _ (by rw[kF_];omega)) ?_;have hvp:0<=p.Xo/\p.Xo<=2147483647:=iq_ (h.flds _ hp1);have f2':(bz_ t.Xz (bI_ (ai_ t.Xz id).1 name))[j]? = some p:=by rw[f2,hpn]
      show Option.bind (c5_ (Xk.mk t.Xr (bz_ t.Xz (bI_ (ai_ t.Xz id).1 name))) (at_ (eJ_ (ai_ t.Xz id).1.Xw) (bz_ t.Xz (bI_ (ai_ t.Xz id).1 name))) uid now) _=_;rw[f1];refine aa_ (hL_ _ j p uid now f2' hsrt hvp) ?_;rw[hpn];rfl
def iM_(n:Xq)(mode:Int)(gid:Str)(mtime:Int):Xq:=Xq.mk n.Id_ n.Xw n.Xo n.Xy (bif mode != -1 then mode else n.Xv) n.Yw (bif !(dn_ gid==[])then gid else n.Yk) n.Yy n.Yz (bif mtime != -1 then mtime else n.Xa) n.Xl
def attrsT(t:Xk)(id mode:Int)(gid:Str)(mtime:Int):Xk×Int:=bif !(ai_ t.Xz id).2 then(t,8)else bif(mode != -1)&&(!(aI_ mode) || !(am_ mode 31==am_ (ai_ t.Xz id).1.Xv 31))then(t,1)else bif(mtime != -1)&&(decide (mtime<0)||decide (mtime>1099511627776))then(t,5)else(Xk.mk t.Xr (bz_ t.Xz (iM_ (ai_ t.Xz id).1 mode gid mtime)),0)
theorem short_or(gid:Str)(h:(dn_ gid==[])=false):dn_ gid=gid:=by
 unfold dn_ at h ⊢;cases hc:decide ((gid.length:Int)>64)with
 | true=>rw[hc]at h;cases h
 | false=>rfl
theorem xb_ (t:Xk) (id mode:Int) (gid:Str) (mtime:Int) (h:OkT t.Xz t.Xr) (hmo:mode<=9223372036854775807):mq_ t id mode gid mtime=some (attrsT t id mode gid mtime):=by
 have hl:=h.len;have hc:=eY_ t (by omega);unfold mq_ attrsT;refine aa_ (di_ t id (by omega)) ?_;cases h1:(ai_ t.Xz id).2 with
 | false =>
  rw[ms_ h1];exact aa_ hc rfl
 | true =>
  obtain⟨i,e1,e2,e3⟩:=at_id h1;rw[e1];have hg:=jo_ h id;generalize hN:(ai_ t.Xz id).1=N at e2 hg;refine ac_ (by simp) (aa_ (a:=(mode != -1)&&(!(aI_ mode) || !(am_ mode 31==am_ N.Xv 31))) ?_ ?_)
  .cases mode != -1 with
   | false=>rfl
   | true =>
    refine ah_ rfl (aa_ (lQ_ mode hmo) ?_);cases aI_ mode with
    | false=>rfl
    | true =>
     refine aa_ (a := !(am_ mode 31==am_ N.Xv 31)) ?_ rfl;exact ac_ rfl (aa_ (eq_ mode hmo) (aa_ (a:=N) (by rw[bl_,e2]) (aa_ (eq_ _ hg) rfl)))
  .cases (mode != -1)&&(!(aI_ mode) || !(am_ mode 31==am_ N.Xv 31))with
   | true=>exact aa_ hc rfl
   | false =>
    refine ac_ rfl (aa_ (a:=(mtime != -1)&&(decide (mtime<0)||decide (mtime>1099511627776))) ?_ ?_)
    .cases mtime != -1 with
     | false=>rfl
     | true=>refine ah_ rfl (aa_ rfl ?_);exact congrArg some (clock_ne mtime)
    .cases(mtime != -1)&&(decide (mtime<0)||decide (mtime>1099511627776))with
     | true=>exact aa_ hc rfl
     | false =>
      refine ac_ rfl (aa_ hc (aa_ (a:=N) (by rw[bl_,e2]) ?_));simp only[qTn];have hget:∀(x:Xq) (q:List Xq),q.length=t.Xz.length->al_ (q.set i x) (i:Int)=some x:=λ x q hq=>by
       rw[bl_,List.getElem?_set,if_pos rfl,if_pos (by omega)]
      have hself:t.Xz.set i N=t.Xz:=by
       apply List.ext_getElem?;intro j;rw[List.getElem?_set];split
       .rename_i hij;subst hij;first|rw[if_pos e3,e2]|rw[e2]
       .rfl
      let n1:Xq:=Xq.mk N.Id_ N.Xw N.Xo N.Xy (bif mode != -1 then mode else N.Xv) N.Yw N.Yk N.Yy N.Yz N.Xa N.Xl
      let n2:Xq:=Xq.mk N.Id_ N.Xw N.Xo N.Xy (bif mode != -1 then mode else N.Xv) N.Yw (bif !(dn_ gid==[])then gid else N.Yk) N.Yy N.Yz N.Xa N.Xl
      refine aa_ (a:=t.Xz.set i n1) ?_ ?_
      .show(bif mode != -1 then _ else _)=some (t.Xz.set i (Xq.mk N.Id_ N.Xw N.Xo N.Xy (bif mode != -1 then mode else N.Xv) N.Yw N.Yk N.Yy N.Yz N.Xa N.Xl));cases mode != -1 with
       | true=>rfl
       | false=>exact congrArg some hself.symm
      .refine aa_ (hget n1 _ rfl) (aa_ (a:=t.Xz.set i n2) (aa_ (eZ_ gid) ?_) ?_)
       .show _=some (t.Xz.set i (Xq.mk N.Id_ N.Xw N.Xo N.Xy (bif mode != -1 then mode else N.Xv) N.Yw (bif !(dn_ gid==[])then gid else N.Yk) N.Yy N.Yz N.Xa N.Xl));cases hs:dn_ gid==[]with
        | true=>rfl
        | false =>
         rw[short_or gid hs];refine ah_ rfl ?_;rw[List.set_set];rfl
       .refine aa_ (hget n2 _ rfl) (aa_ (a:=t.Xz.set i (iM_ N mode gid mtime)) ?_ ?_)
        .show(bif mtime != -1 then _ else _)=some (t.Xz.set i (Xq.mk N.Id_ N.Xw N.Xo N.Xy (bif mode != -1 then mode else N.Xv) N.Yw (bif !(dn_ gid==[])then gid else N.Yk) N.Yy N.Yz (bif mtime != -1 then mtime else N.Xa) N.Xl));cases mtime != -1 with
         | true =>
          refine ah_ rfl ?_;rw[List.set_set];rfl
         | false=>rfl
        .rw[pO_ h.srt e2 (n:=iM_ N mode gid mtime) rfl];rfl
theorem jT_(n:Xq):aN_ n=true↔aI_ n.Xv=true/\(0<=n.Xo/\n.Xo<=2147483647)/\(0<=n.Yz/\n.Yz<=1099511627776)/\(0<=n.Xa/\n.Xa<=1099511627776)/\(n.Yw.length<=64/\n.Yk.length<=64/\n.Yy.length<=64)/\n.Xl.length<=65536/\(am_ n.Xv 31=true->n.Xl=[]):=by
 unfold aN_;simp only[qAn,qDe,Bool.or_eq_true,Bool.not_eq_true',beq_iff_eq];constructor
 .rintro⟨⟨⟨⟨⟨⟨h1,h2⟩,h3⟩,h4⟩,h5⟩,h6⟩,h7⟩
  exact ⟨h1, h2, h3, h4, h5, h6, fun hd => by rcases h7 with h7|h7;· rw[hd]at h7;cases h7
                                              ·exact h7⟩
 .rintro⟨h1,h2,h3,h4,h5,h6,h7⟩;refine⟨⟨⟨⟨⟨⟨h1,h2⟩,h3⟩,h4⟩,h5⟩,h6⟩,?_⟩;cases hd:am_ n.Xv 31 with
  | false=>exact .inl rfl
  | true=>exact .inr (h7 hd)
theorem jU_(s:Str):(dn_ s).length<=64:=by
 unfold dn_;by_cases h:(s.length:Int)>64
 .rw[show decide ((s.length:Int)>64)=true by simpa using h];exact Nat.zero_le _
 .rw[show decide ((s.length:Int)>64)=false by simpa using h];show s.length<=64;omega
theorem q9_(x:Int):0<=bv_ x/\bv_ x<=1099511627776:=by
 unfold bv_ cm_ cz_;split<;>split<;>omega
theorem touch_ok{n:Xq}(h:aN_ n=true)(uid:Str)(now:Int):aN_ (bU_ n uid now)=true:=by
 rw[jT_]at h ⊢;obtain⟨h1,h2,h3,h4,h5,h6,h7⟩:=h;refine⟨h1,?_,h3,q9_ now,⟨h5.1,h5.2.1,jU_ uid⟩,h6,h7⟩;show 0<=(w64 (n.Xo+1)).tmod 2147483648/\(w64 (n.Xo+1)).tmod 2147483648<=2147483647;rw[ap_ ⟨by omega,by omega⟩,Int.tmod_eq_emod_of_nonneg (by omega)];omega
theorem putD_ok{n:Xq}(h:aN_ n=true){d:Str}(hd:d.length<=65536)(hf:am_ n.Xv 31=false):aN_ (putD n d)=true:=by
 rw[jT_]at h ⊢;obtain⟨h1,h2,h3,h4,h5,h6,h7⟩:=h;exact⟨h1,h2,h3,h4,h5,hd,fun(e:am_ n.Xv 31=true)=>by rw[hf]at e;cases e⟩
theorem putName_ok{n:Xq}(h:aN_ n=true)(s:Str):aN_ (bI_ n s)=true:=by
 rw[jT_]at h ⊢;exact h
theorem OkT.upd{l:List Xq}{next:Int}(h:OkT l next){n n':Xq}(hn:n∈l)(hid:n'.Id_=n.Id_)(hp:n'.Xw=n.Xw)(hok:aN_ n'=true)(hd:am_ n'.Xv 31=am_ n.Xv 31)
  (hname:n'.Xy=n.Xy\/(n.Id_≠1/\bO_ n'.Xy=true/\∀c∈l,c.Id_≠1->c.Xw=n.Xw->c.Xy=n'.Xy->c.Id_=n.Id_)):OkT (bz_ l n') next:=by
 have phi:∀m∈l,(bif m.Id_==n'.Id_ then n' else m).Id_=m.Id_/\(bif m.Id_==n'.Id_ then n' else m).Xw=m.Xw/\am_ (bif m.Id_==n'.Id_ then n' else m).Xv 31=am_ m.Xv 31/\aN_ (bif m.Id_==n'.Id_ then n' else m)=true /\
   ((m.Id_≠n.Id_/\(bif m.Id_==n'.Id_ then n' else m).Xy=m.Xy)\/(m=n/\(bif m.Id_==n'.Id_ then n' else m).Xy=n'.Xy)):=λ m hm=>by
  cases hb:m.Id_==n'.Id_ with
  | true =>
   have e:=beq_iff_eq.1 hb;obtain rfl:=lw_ h.srt hm hn (by rw[e,hid]);exact⟨hid,hp,hd,hok,.inr ⟨rfl,rfl⟩⟩
  | false =>
   have e:m.Id_≠n'.Id_:=by simpa using hb
   exact⟨rfl,rfl,rfl,h.flds m hm,.inl ⟨by rw[←hid];exact e,rfl⟩⟩
 have mem:∀x,x∈bz_ l n'->∃m∈l,x=bif m.Id_==n'.Id_ then n' else m:=λ x hx=>by
  obtain⟨m,hm,e⟩:=List.mem_map.1 hx;exact⟨m,hm,e.symm⟩
 refine⟨kI_ h.srt n',?_,λ x hx => ?_,λ x hx h1 => ?_,λ x hx h1 => ?_,λ a ha b hb h1 h2 h3 h4 => ?_,λ x hx => ?_,h.nx2,by rw[kF_];exact h.len⟩
 .obtain⟨r,q,e,h1,h2,h3,h4⟩:=h.root;have hr:r∈l:=by rw[e];exact List.mem_cons_self ..
  obtain⟨p1,p2,p3,p4,p5⟩:=phi r hr;refine⟨_,q.map λ m=>bif m.Id_==n'.Id_ then n' else m,by rw[e];rfl,p1.trans h1,p2.trans h2,?_,p3.trans h4⟩;rcases p5 with⟨_,p5⟩|⟨rfl,p5⟩
  .rw[p5];exact h3
  .rw[p5];rcases hname with hname|⟨hne,_⟩
   .rw[hname];exact h3
   .exact absurd h1 hne
 .obtain⟨m,hm,rfl⟩:=mem x hx;exact(phi m hm).2.2.2.1
 .obtain⟨m,hm,rfl⟩:=mem x hx;obtain⟨p1,p2,p3,p4,p5⟩:=phi m hm;rw[p1]at h1;rcases p5 with⟨_,p5⟩|⟨rfl,p5⟩
  .rw[p5];exact h.nam m hm h1
  .rw[p5];rcases hname with hname|⟨_,hn2,_⟩
   .rw[hname];exact h.nam m hm h1
   .exact hn2
 .obtain⟨m,hm,rfl⟩:=mem x hx;obtain⟨p1,p2,p3,p4,p5⟩:=phi m hm;rw[p1]at h1 ⊢;rw[p2];obtain⟨q,q1,q2,q3,q4⟩:=h.par m hm h1;obtain⟨r1,r2,r3,_⟩:=phi q q1;exact⟨_,nj_ q1,r1.trans q2,by rw[r1];exact q3,r3.trans q4⟩
 .obtain⟨m,hm,rfl⟩:=mem a ha;obtain⟨k,hk,rfl⟩:=mem b hb;obtain⟨p1,p2,p3,p4,p5⟩:=phi m hm;obtain⟨r1,r2,r3,r4,r5⟩:=phi k hk;rw[p1]at h1;rw[r1]at h2;rw[p2,r2]at h3;rw[p1,r1];rcases p5 with⟨p5,p6⟩|⟨rfl,p6⟩
  .rcases r5 with⟨r5,r6⟩|⟨rfl,r6⟩
   .rw[p6,r6]at h4;exact h.uniq m hm k hk h1 h2 h3 h4
   .rw[p6,r6]at h4;rcases hname with hname|⟨_,_,hn3⟩
    .rw[hname]at h4;exact h.uniq m hm k hk h1 h2 h3 h4
    .exact hn3 m hm h1 h3 h4
  .rcases r5 with⟨r5,r6⟩|⟨rfl,r6⟩
   .rw[p6,r6]at h4;rcases hname with hname|⟨_,_,hn3⟩
    .rw[hname]at h4;exact h.uniq m hm k hk h1 h2 h3 h4
    .exact(hn3 k hk h2 h3.symm h4.symm).symm
   .rfl
 .obtain⟨m,hm,rfl⟩:=mem x hx;rw[(phi m hm).1];exact h.nxt m hm
theorem OkT.touch{l:List Xq}{next:Int}(h:OkT l next){n:Xq}(hn:n∈l)(uid:Str)(now:Int):OkT (bz_ l (bU_ n uid now)) next :=
 h.upd hn rfl rfl (touch_ok (h.flds n hn) uid now) rfl (.inl rfl)
theorem OkT.add{l:List Xq}{next:Int}(h:OkT l next){d n:Xq}(hd:d∈l)(hdir:am_ d.Xv 31=true)(hid:n.Id_=next)(hp:n.Xw=d.Id_)(hok:aN_ n=true)(hname:bO_ n.Xy=true)
  (hnew:∀c∈l,c.Id_≠1->c.Xw=d.Id_->c.Xy≠n.Xy) (hnx:next<=1048575) (hl:l.length<1024):OkT (l++[n]) (next+1):=by
 have hdn:=h.nxt d hd;have hd1:=h.ge hd;refine⟨List.pairwise_append.2 ⟨h.srt,List.pairwise_singleton ..,λ a ha b hb => ?_⟩,?_,λ x hx => ?_,λ x hx h1 => ?_,λ x hx h1 => ?_,λ a ha b hb h1 h2 h3 h4 => ?_,λ x hx => ?_,by omega,by simp;omega⟩
 .rw[List.mem_singleton.1 hb,hid];exact h.nxt a ha
 .obtain⟨r,q,e,h1,h2,h3,h4⟩:=h.root;exact⟨r,q++[n],by rw[e];rfl,h1,h2,h3,h4⟩
 .rcases List.mem_append.1 hx with hx|hx
  .exact h.flds x hx
  .rw[List.mem_singleton.1 hx];exact hok
 .rcases List.mem_append.1 hx with hx|hx
  .exact h.nam x hx h1
  .rw[List.mem_singleton.1 hx];exact hname
 .rcases List.mem_append.1 hx with hx|hx
  .obtain⟨p,p1,p2⟩:=h.par x hx h1;exact⟨p,List.mem_append_left _ p1,p2⟩
  .rw[List.mem_singleton.1 hx];exact⟨d,List.mem_append_left _ hd,hp.symm,by rw[hid];exact hdn,hdir⟩
 .rcases List.mem_append.1 ha with ha|ha
  .rcases List.mem_append.1 hb with hb|hb
   .exact h.uniq a ha b hb h1 h2 h3 h4
   .rw[List.mem_singleton.1 hb]at h3 h4;exact absurd h4 (hnew a ha h1 (h3.trans hp))
  .rcases List.mem_append.1 hb with hb|hb
   .rw[List.mem_singleton.1 ha]at h3 h4;exact absurd h4.symm (hnew b hb h2 (h3.symm.trans hp))
   .rw[List.mem_singleton.1 ha,List.mem_singleton.1 hb]
 .rcases List.mem_append.1 hx with hx|hx
  .have:=h.nxt x hx;omega
  .rw[List.mem_singleton.1 hx];omega
theorem nP_{l:List Xq}{dir:Int}{name:Str}(h:(l.find? (cY_ dir name)).isSome=false):∀c∈l,c.Id_≠1->c.Xw=dir->c.Xy≠name:=λ c hc h1 h2 h3=>by
 have hn:l.find? (cY_ dir name)=none:=by
  cases hf:l.find? (cY_ dir name)with
  | none=>rfl
  | some x=>rw[hf]at h;cases h
 rw[List.find?_eq_none]at hn;exact hn c hc (by unfold cY_;simp[h1,h2,h3])
theorem newN_ok(t:Xk)(dir:Int)(name:Str){mode:Int}(uid gid:Str)(now:Int)(h:aI_ mode=true):aN_ (newN t dir name mode uid gid now)=true:=by
 rw[jT_];exact⟨h,⟨by show(0:Int)<=0;omega,by show(0:Int)<=2147483647;omega⟩,q9_ now,q9_ now,⟨jU_ _,jU_ _,jU_ _⟩,Nat.zero_le _,λ _=>rfl⟩
theorem create_cases {t:Xk} {dir:Int} {name:Str} {mode:Int} {uid gid:Str} {now:Int} (h:OkT t.Xz t.Xr) :
  (∃e,e≠0/\kG_ t dir name mode uid gid now=(t,0,e)) \/
  (kG_ t dir name mode uid gid now=(Xk.mk (t.Xr+1) (bz_ t.Xz (bU_ (ai_ t.Xz dir).1 uid now)++[newN t dir name mode uid gid now]),t.Xr,0)/\(ai_ t.Xz dir).2=true/\am_ (ai_ t.Xz dir).1.Xv 31=true/\aI_ mode=true /\
   OkT (bz_ t.Xz (bU_ (ai_ t.Xz dir).1 uid now)++[newN t dir name mode uid gid now]) (t.Xr+1)):=by
 unfold kG_;cases h1:(ai_ t.Xz dir).2 with
 | false=>exact .inl ⟨8,by omega,rfl⟩
 | true =>
  cases h2:am_ (ai_ t.Xz dir).1.Xv 31 with
  | false=>exact .inl ⟨9,by omega,rfl⟩
  | true =>
   cases h3:bO_ name with
   | false=>exact .inl ⟨6,by omega,rfl⟩
   | true =>
    cases h4:aI_ mode with
    | false=>exact .inl ⟨1,by omega,rfl⟩
    | true =>
     cases h5:(t.Xz.find? (cY_ dir name)).isSome with
     | true=>exact .inl ⟨7,by omega,rfl⟩
     | false =>
      cases h6:decide ((t.Xz.length:Int)>=1024)||decide (t.Xr>1048575)with
      | true=>exact .inl ⟨22,by omega,rfl⟩
      | false =>
       simp only[Bool.or_eq_false_iff,qDf]at h6;obtain⟨hm,hid⟩:=bu_ h1;have hnx0:=h.nxt _ hm;have hge:=h.ge hm;have hw:w64 (t.Xr+1)=t.Xr+1:=ap_ ⟨by omega,by omega⟩;refine .inr ⟨by rw[hw];rfl,rfl,rfl,rfl,?_⟩;have hD:=nj_ (n:=bU_ (ai_ t.Xz dir).1 uid now) hm;have hb:((ai_ t.Xz dir).1.Id_==(bU_ (ai_ t.Xz dir).1 uid now).Id_)=true:=beq_self_eq_true _;rw[hb]at hD;have hU:=h.touch hm uid now;refine hU.add hD h2 rfl (show dir=_ from hid.symm) (newN_ok t dir name uid gid now h4) h3 (λ c hc c1 c2 => ?_) (by omega) (by rw[kF_];omega);obtain⟨m,hm2,e1,e2⟩:=mem_updN hc;have hcp:m.Xw=c.Xw/\m.Xy=c.Xy:=by
        rcases e2 with⟨e2,_⟩|⟨e2,e3⟩
        .rw[e2];exact⟨rfl,rfl⟩
        .rw[e2];have:=lw_ h.srt hm2 hm e3;rw[this];exact⟨rfl,rfl⟩
       rw[←hcp.2];refine nP_ h5 m hm2 (by rw[←e1];exact c1) ?_;rw[hcp.1,c2];exact hid
theorem resize_cases{t:Xk}{id size:Int}{uid:Str}{now:Int}(h:OkT t.Xz t.Xr) :
  (∃e,gu_ t id size uid now=(t,e))\/((ai_ t.Xz id).2=true/\am_ (ai_ t.Xz id).1.Xv 31=false/\gu_ t id size uid now=(Xk.mk t.Xr (bz_ t.Xz (bU_ (putD (ai_ t.Xz id).1 (fitS (ai_ t.Xz id).1.Xl size.toNat)) uid now)),0)/\0<=size /\
   OkT (bz_ t.Xz (bU_ (putD (ai_ t.Xz id).1 (fitS (ai_ t.Xz id).1.Xl size.toNat)) uid now)) t.Xr):=by
 unfold gu_;cases h1:hK_ t.Xz id != 0 with
 | true=>exact .inl ⟨_,rfl⟩
 | false =>
  obtain⟨f1,f2⟩:=fileT_zero h1;have hm:=(bu_ f1).1;by_cases h2:size<0
  .rw[show decide (size<0)=true by simpa using h2];exact .inl ⟨_,rfl⟩
  .rw[show decide (size<0)=false by simpa using h2];by_cases h3:size>65536
   .rw[show decide (size>65536)=true by simpa using h3];exact .inl ⟨_,rfl⟩
   .rw[show decide (size>65536)=false by simpa using h3];cases h4:size==((ai_ t.Xz id).1.Xl.length:Int)with
    | true=>exact .inl ⟨_,rfl⟩
    | false =>
     refine .inr ⟨f1,f2,rfl,by omega,?_⟩;exact h.upd hm rfl rfl (touch_ok (putD_ok (h.flds _ hm) (by rw[s0_];omega) f2) uid now) rfl (.inl rfl)
theorem rename_cases {t:Xk} {id:Int} {name uid:Str} {now:Int} (h:OkT t.Xz t.Xr) :
  (∃e,kJ_ t id name uid now=(t,e))\/(∃p,(ai_ t.Xz id).2=true/\id≠1/\p∈t.Xz/\p.Id_=(ai_ t.Xz id).1.Xw/\p.Id_<id/\kJ_ t id name uid now=(Xk.mk t.Xr (bz_ (bz_ t.Xz (bI_ (ai_ t.Xz id).1 name)) (bU_ p uid now)),0) /\
   OkT (bz_ (bz_ t.Xz (bI_ (ai_ t.Xz id).1 name)) (bU_ p uid now)) t.Xr):=by
 unfold kJ_;cases h1:(ai_ t.Xz id).2 with
 | false=>exact .inl ⟨8,rfl⟩
 | true =>
  cases h2:id==1 with
  | true=>exact .inl ⟨1,rfl⟩
  | false =>
   have h2':id≠1:=by simpa using h2
   cases h3:bO_ name with
   | false=>exact .inl ⟨6,rfl⟩
   | true =>
    cases h4:(ai_ t.Xz id).1.Xy==name with
    | true=>exact .inl ⟨0,rfl⟩
    | false =>
     cases h5:(t.Xz.find? (cY_ (ai_ t.Xz id).1.Xw name)).isSome with
     | true=>exact .inl ⟨7,rfl⟩
     | false =>
      obtain⟨hm,hid⟩:=bu_ h1;have hne:(ai_ t.Xz id).1.Id_≠1:=by rw[hid];exact h2'
      obtain⟨p,hp1,hp2,hp3,hp4⟩:=h.par _ hm hne;have hU:=h.upd hm (n':=bI_ (ai_ t.Xz id).1 name) rfl rfl (putName_ok (h.flds _ hm) name) rfl (.inr ⟨hne,h3,λ c hc c1 c2 c3=>absurd c3 (nP_ h5 c hc c1 c2)⟩);have hpu:p∈bz_ t.Xz (bI_ (ai_ t.Xz id).1 name):=by
       have:=nj_ (n:=bI_ (ai_ t.Xz id).1 name) hp1;have hb:(p.Id_==(bI_ (ai_ t.Xz id).1 name).Id_)=false:=by
        rw[beq_eq_false_iff_ne];show p.Id_≠(ai_ t.Xz id).1.Id_;omega
       rw[hb]at this;exact this
      have hpn:=hb_ hU.srt hpu;rw[hp2]at hpn;exact .inr ⟨p,rfl,h2',hp1,hp2,by rw[hid]at hp3;exact hp3,by rw[hpn];rfl,hU.touch hpu uid now⟩
theorem attrN_ok{n:Xq}(h:aN_ n=true){mode:Int}{gid:Str}{mtime:Int}(h1:mode = -1\/aI_ mode=true/\am_ mode 31=am_ n.Xv 31)(h2:mtime = -1\/0<=mtime/\mtime<=1099511627776):aN_ (iM_ n mode gid mtime)=true/\am_ (iM_ n mode gid mtime).Xv 31=am_ n.Xv 31:=by
 have hd:am_ (iM_ n mode gid mtime).Xv 31=am_ n.Xv 31:=by
  unfold iM_;rcases h1 with rfl|⟨h1,h3⟩
  .rfl
  .show am_ (bif mode != -1 then mode else n.Xv) 31=_;cases mode != -1 with
   | true=>exact h3
   | false=>rfl
 refine⟨?_,hd⟩;rw[jT_]at h ⊢;obtain⟨k1,k2,k3,k4,k5,k6,k7⟩:=h;refine⟨?_,k2,k3,?_,⟨k5.1,?_,k5.2.2⟩,k6,λ e=>k7 (hd▸e)⟩
 .show aI_ (bif mode != -1 then mode else n.Xv)=true;rcases h1 with rfl|⟨h1,_⟩
  .exact k1
  .cases mode != -1 with
   | true=>exact h1
   | false=>exact k1
 .show 0<=(bif mtime != -1 then mtime else n.Xa)/\(bif mtime != -1 then mtime else n.Xa)<=_;rcases h2 with rfl|h2
  .exact k4
  .cases mtime != -1 with
   | true=>exact h2
   | false=>exact k4
 .show(bif !(dn_ gid==[])then gid else n.Yk).length<=64;cases hs:dn_ gid==[]with
  | true=>exact k5.2.1
  | false =>
   rw[←short_or gid hs];exact jU_ gid
theorem set_self{α:Type}{l:List α}{i:Nat}{x:α}(h:l[i]? = some x):l.set i x=l:=by
 obtain⟨hi,rfl⟩:=List.getElem?_eq_some_iff.1 h;exact List.set_getElem_self hi
theorem copy_loop{body:Int×List Xf->Option (Step (Int×List Xf) (List Xf))}(l:List Xf)(hl:l.length<=1000)
  (hb:∀i,i<l.length->body ((i:Int),l)=some (.next (((i+1:Nat):Int),l))) (he:body ((l.length:Int),l)=some (.done l)):ak_ body BIG (0,l)=some l :=
 aU_ (λ i=>((i:Int),l)) l.length (bE_ (by omega)) (λ i hi=>hb i hi) he
theorem fresh_loop(l:List Xf)(hl:l.length<=1000)(hm:d6_ l):ak_ (dw_ l) BIG (0,l)=some l:=by
 refine copy_loop l hl (λ i hi => ?_) ?_
 .unfold dw_;simp only;rw[bj_ hi,aq_ hi,au_ (by omega)];refine ah_ rfl (aa_ rfl (aa_ (oc_ (hm _ (List.getElem_mem hi))) (aa_ rfl ?_)));exact congrArg (λ q=>some (Step.next (((i+1:Nat):Int),q))) (set_self (List.getElem?_eq_getElem hi))
 .unfold dw_;simp only;rw[br_];rfl
theorem kK_(s:Xx)(z:SizeOK s):cd_ s=some s:=by
 have:=z.nl;have:=z.el;unfold cd_;exact aa_ (sk_ z.ul) (aa_ (fresh_loop _ z.ul z.um) (aa_ (sl_ (by omega)) (aa_ (q4_ z.ql) (aa_ (mu_ (by omega)) rfl))))
def ir_(s:Xx)(user:Str)(n:Xq):Bool:=(isS s n.Xw&&n.Id_ != 1)&&mayS s user (an_ s n.Xw) 2
def putTr(s:Xx)(t:Xk):Xx:=Xx.mk s.Yq s.Yj t s.Xs
def putTE(s:Xx)(t:Xk)(e:List Int):Xx:=Xx.mk s.Yq s.Yj t e
theorem s1_{s:Xx}(f:FileOK s)(z:SizeOK s)(user:Str)(n:Xq):dh_ s user n=some (ir_ s user n):=by
 unfold dh_ ir_ isS;refine aa_ (cK_ _ _ (nl2 z)) ?_;cases hb:(ai_ s.Xm.Xz n.Xw).2&&n.Id_ != 1 with
 | false=>rfl
 | true=>exact aa_ (aa_ (may_eq z user (eX_ f _) 2) rfl) rfl
theorem node_id{s:Xx}{id:Int}(h:isS s id=true):(an_ s id).Id_=id:=(bu_ h).2
theorem hM_{s:Xx}{user:Str}{id:Int}(h:(cl_ s user id != 0)=false):cl_ s user id=0/\vU user=true/\isS s id=true:=by
 have h0:cl_ s user id=0:=by simpa using h
 refine⟨h0,?_⟩;unfold cl_ at h0;cases hv:vU user with
 | false=>rw[hv]at h0;cases h0
 | true =>
  rw[hv]at h0;cases hi:isS s id with
  | false=>rw[hi]at h0;cases h0
  | true=>exact⟨rfl,rfl⟩
def lC_(s:Xx)(user:Str)(n:Xq)(mode:Int):Int:=bif(fb_ mode).2 != 0 then(fb_ mode).2 else bif am_ n.Xv 31&&mode != 0 then 10 else bif !(mayS s user n (fb_ mode).1)then 11 else bif am_ mode 6 && !(ir_ s user n)then 11 else bif am_ n.Xv 29&&decide (n.Id_∈s.Xs)then 24 else 0
def jV_(s:Xx)(user:Str)(id mode:Int):Int:=bif cl_ s user id != 0 then cl_ s user id else lC_ s user (an_ s id) mode
theorem openM_pos{m:Int}(h:((fb_ m).2 != 0)=false):0<=m/\m<128:=by
 unfold fb_ at h;split at h
 .assumption
 .cases h
theorem opens_eq{s:Xx}(z:SizeOK s)(f:FileOK s)(user:Str)(n:Xq)(mode:Int)(hm:I64 mode)(hn:n.Xv<=9223372036854775807):eT_ s user n mode=some (lC_ s user n mode):=by
 unfold eT_ lC_;refine aa_ (ng_ mode hm) ?_;cases hc:(fb_ mode).2 != 0 with
 | true=>rfl
 | false =>
  obtain⟨h0,h1⟩:=openM_pos hc;refine ac_ rfl (aa_ (ga_ _ hn).1 ?_);cases am_ n.Xv 31&&mode != 0 with
  | true=>rfl
  | false =>
   refine ac_ rfl (aa_ (may_eq z user hn _) ?_);cases mayS s user n (fb_ mode).1 with
   | false=>rfl
   | true =>
    have e6:(bV_ .i64 mode 64 != 0)=am_ mode 6:=by
     have:=has_and mode 6 (by omega) (by omega);rw[show decide (mode>=0)=true by simpa using h0,Bool.true_and]at this;exact this
    rw[e6,s1_ f z];refine ac_ rfl (aa_ (a:=am_ mode 6 && !(ir_ s user n)) (by cases am_ mode 6<;>rfl) ?_);cases am_ mode 6 && !(ir_ s user n)with
    | true=>rfl
    | false =>
     refine ac_ rfl (aa_ (ga_ _ hn).2.2.1 ?_);rw[w9_ _ _ (by have:=z.el;omega)];refine aa_ (a:=am_ n.Xv 29&&decide (n.Id_∈s.Xs)) (by cases am_ n.Xv 29<;>rfl) ?_;cases am_ n.Xv 29&&decide (n.Id_∈s.Xs)<;>rfl
def openS(s:Xx)(user:Str)(id mode now:Int):Xx×Int:=bif jV_ s user id mode != 0 then(s,jV_ s user id mode)else(putTE s (bif am_ mode 4 && !(am_ (an_ s id).Xv 30)then(gu_ s.Xm id 0 user (bv_ now)).1 else s.Xm) (bif am_ (an_ s id).Xv 29 then putX s.Xs id else s.Xs),0)
theorem opensS_zero{s:Xx}{user:Str}{id mode:Int}(h:(jV_ s user id mode != 0)=false):(cl_ s user id != 0)=false/\lC_ s user (an_ s id) mode=0/\0<=mode/\mode<128:=by
 have h0:jV_ s user id mode=0:=by simpa using h
 unfold jV_ at h0;cases hc:cl_ s user id != 0 with
 | true=>rw[hc]at h0;rw[show cl_ s user id=0 from h0]at hc;cases hc
 | false =>
  rw[hc]at h0;have h1:lC_ s user (an_ s id) mode=0:=h0;refine⟨rfl,h1,?_⟩;unfold lC_ at h1;cases ho:(fb_ mode).2 != 0 with
  | true=>rw[ho]at h1;rw[show(fb_ mode).2=0 from h1]at ho;cases ho
  | false=>exact openM_pos ho
theorem open_eq{s:Xx}(f:FileOK s)(z:SizeOK s)(user:Str)(id mode now:Int)(hu:user.length<=9223372036854775807)(hm:I64 mode):fK_ s user id mode now=some (openS s user id mode now):=by
 obtain⟨n,e1,e2⟩:=oO_ z user id hu;unfold fK_ openS;refine aa_ (kK_ s z) (aa_ e1 ?_);cases hc:cl_ s user id != 0 with
 | true =>
  have:jV_ s user id mode=cl_ s user id:=by unfold jV_;rw[hc];rfl
  rw[this,hc];rfl
 | false =>
  obtain⟨h0,_,hi⟩:=hM_ hc;obtain rfl:=e2 h0;have e3:jV_ s user id mode=lC_ s user (an_ s id) mode:=by unfold jV_;rw[hc];rfl
  refine ac_ rfl (aa_ (opens_eq z f user _ mode hm (eX_ f id)) ?_);rw[e3];cases hz:lC_ s user (an_ s id) mode != 0 with
  | true=>rfl
  | false =>
   rw[←e3]at hz;obtain⟨_,_,hp,hq⟩:=opensS_zero hz;have e4:(bV_ .i64 mode 16 != 0)=am_ mode 4:=by
    have:=has_and mode 4 (by omega) (by omega);rw[show decide (mode>=0)=true by simpa using hp,Bool.true_and]at this;exact this
   rw[e4];refine ac_ rfl (aa_ (a:=let t:=(bif am_ mode 4 && !(am_ (an_ s id).Xv 30)then(gu_ s.Xm id 0 user (bv_ now)).1 else s.Xm);(t.Xr,s.Yq,s.Yj,t.Xz,s.Xs)) ?_ (aa_ (a:=let t:=(bif am_ mode 4 && !(am_ (an_ s id).Xv 30)then(gu_ s.Xm id 0 user (bv_ now)).1 else s.Xm);(s.Yq,s.Yj,t.Xr,t.Xz,bif am_ (an_ s id).Xv 29 then putX s.Xs id else s.Xs)) ?_ rfl))
   .rw[(ga_ _ (eX_ f id)).2.1];refine aa_ (a:=am_ mode 4 && !(am_ (an_ s id).Xv 30)) (by cases am_ mode 4<;>rfl) ?_;cases am_ mode 4 && !(am_ (an_ s id).Xv 30)with
    | true=>exact ah_ rfl (aa_ rfl (aa_ (oP_ s.Xm id 0 user (bv_ now) f.tr) rfl))
    | false=>rfl
   .refine aa_ (ga_ _ (eX_ f id)).2.2.1 ?_;cases am_ (an_ s id).Xv 29 with
    | true=>exact ah_ rfl (aa_ (lock_eq _ id f.srt (by have:=z.el;show s.Xs.length<=1000;omega)) rfl)
    | false=>rfl
def oQ_(s:Xx)(user:Str)(n:Xq)(name:Str)(perm mode:Int):Int:=bif !(bO_ name)then 6 else bif !(aI_ perm)then 1 else bif(fb_ mode).2 != 0 then(fb_ mode).2 else bif am_ perm 31&&mode != 0 then 12 else bif !(mayS s user n 2)then 11 else bif(le_ s.Xm.Xz n.Id_ name).2==0 then 7 else bif !(mw_ s.Yj s.Xm user 1 0)then 21 else 0
def hc_(s:Xx)(user:Str)(id:Int)(name:Str)(perm mode:Int):Int:=bif dirC s user id != 0 then dirC s user id else oQ_ s user (an_ s id) name perm mode
def inhI(d m:Int):Int:=(gj_ d m).getD 0
def createS(s:Xx)(user:Str)(id:Int)(name:Str)(perm mode now:Int):Xx×Int×Int :=
 bif hc_ s user id name perm mode != 0 then(s,0,hc_ s user id name perm mode)else
 let r:=inhI (an_ s id).Xv perm
 let c:=kG_ s.Xm id name r user (an_ s id).Yk (bv_ now)
 bif c.2.2 != 0 then(s,0,c.2.2)else(putTE s c.1 (bif am_ r 29 then putX s.Xs c.2.1 else s.Xs),c.2.1,0)
theorem makes_eq{s:Xx}(z:SizeOK s)(f:FileOK s)(user:Str)(n:Xq)(name:Str)(perm mode:Int)(hm:I64 mode)(hp:perm<=9223372036854775807)(hn:n.Xv<=9223372036854775807)(hl:name.length<=9223372036854775807):eP_ s user n name perm mode=some (oQ_ s user n name perm mode):=by
 unfold eP_ oQ_;refine aa_ (hH_ _ hl) ?_;cases bO_ name with
 | false=>rfl
 | true =>
  refine ac_ rfl (aa_ (q5_ _ hp) ?_);cases aI_ perm with
  | false=>rfl
  | true =>
   refine ac_ rfl (aa_ (ng_ mode hm) ?_);cases(fb_ mode).2 != 0 with
   | true=>rfl
   | false =>
    refine ac_ rfl (aa_ (ga_ _ hp).1 ?_);cases am_ perm 31&&mode != 0 with
    | true=>rfl
    | false =>
     refine ac_ rfl (aa_ (may_eq z user hn 2) ?_);cases mayS s user n 2 with
     | false=>rfl
     | true =>
      refine ac_ rfl (aa_ (nf_ _ _ _ f.tr) ?_);cases(le_ s.Xm.Xz n.Id_ name).2==0 with
      | true=>rfl
      | false =>
       refine ac_ rfl (aa_ (p5_ _ _ _ _ _ z.ql (nl2 z)) ?_);cases mw_ s.Yj s.Xm user 1 0<;>rfl
theorem xc_{s:Xx}{user:Str}{id:Int}{name:Str}{perm mode:Int}(h:(hc_ s user id name perm mode != 0)=false):(dirC s user id != 0)=false/\oQ_ s user (an_ s id) name perm mode=0:=by
 have h0:hc_ s user id name perm mode=0:=by simpa using h
 unfold hc_ at h0;cases hc:dirC s user id != 0 with
 | true=>rw[hc]at h0;rw[show dirC s user id=0 from h0]at hc;cases hc
 | false=>rw[hc]at h0;exact⟨rfl,h0⟩
theorem makesN_zero{s:Xx}{user:Str}{n:Xq}{name:Str}{perm mode:Int}(h:oQ_ s user n name perm mode=0):bO_ name=true/\aI_ perm=true/\mayS s user n 2=true/\mw_ s.Yj s.Xm user 1 0=true:=by
 unfold oQ_ at h;cases h1:bO_ name with
 | false=>rw[h1]at h;cases h
 | true =>
  rw[h1]at h;cases h2:aI_ perm with
  | false=>rw[h2]at h;cases h
  | true =>
   rw[h2]at h;cases h3:(fb_ mode).2 != 0 with
   | true=>rw[h3]at h;rw[show(fb_ mode).2=0 from h]at h3;cases h3
   | false =>
    rw[h3]at h;cases h4:am_ perm 31&&mode != 0 with
    | true=>rw[h4]at h;cases h
    | false =>
     rw[h4]at h;cases h5:mayS s user n 2 with
     | false=>rw[h5]at h;cases h
     | true =>
      rw[h5]at h;cases h6:(le_ s.Xm.Xz n.Id_ name).2==0 with
      | true=>rw[h6]at h;cases h
      | false =>
       rw[h6]at h;cases h7:mw_ s.Yj s.Xm user 1 0 with
       | false=>rw[h7]at h;cases h
       | true=>exact⟨rfl,rfl,rfl,rfl⟩
theorem inhI_kind{s:Xx}(f:FileOK s){id:Int}(h:isS s id=true){m:Int}(hm:aI_ m=true):∃q,eC_ (an_ s id).Xv m=some q/\gj_ (an_ s id).Xv m=some (inhI (an_ s id).Xv m)/\orI .i64 (cy_ .i64 m 511) (bV_ .i64 q 511)=inhI (an_ s id).Xv m/\inhI (an_ s id).Xv m<=9223372036854775807/\aI_ (inhI (an_ s id).Xv m)=true:=by
 have h1:=f.tr.mode (sY_ h);have h2:=nN_ hm;obtain⟨q,r,e1,e2,e3,e4,e5,e6⟩:=inherit_kind (an_ s id).Xv m ⟨h1.1,by omega⟩ ⟨h2.1,by omega⟩;have:inhI (an_ s id).Xv m=r:=by unfold inhI;rw[e2];rfl
 rw[this];exact⟨q,e1,e2,e3,by omega,e6 hm⟩
theorem create_eq{s:Xx}(f:FileOK s)(z:SizeOK s)(user:Str)(id:Int)(name:Str)(perm mode now:Int)(hu:user.length<=9223372036854775807)(hm:I64 mode)(hp:perm<=9223372036854775807)(hl:name.length<=9223372036854775807):et_ s user id name perm mode now=some (createS s user id name perm mode now):=by
 obtain⟨n,e1,e2⟩:=q2_ f z user id hu;unfold et_ createS;refine aa_ (kK_ s z) (aa_ e1 (aa_ (a:=hc_ s user id name perm mode) ?_ ?_))
 .unfold hc_ bne;cases hc:dirC s user id==0 with
  | false=>rfl
  | true =>
   obtain rfl:=e2 (by simpa using hc);exact ah_ rfl (aa_ (makes_eq z f user _ name perm mode hm hp (eX_ f id) hl) rfl)
 .cases hz:hc_ s user id name perm mode != 0 with
  | true=>rfl
  | false =>
   obtain⟨h1,h2⟩:=xc_ hz;obtain⟨h0,_,hi,_⟩:=dirC_zero h1;obtain rfl:=e2 h0;obtain⟨_,hpm,_,_⟩:=makesN_zero h2;obtain⟨q,g1,_,g3,g4,_⟩:=inhI_kind f hi hpm;refine ac_ rfl (aa_ g1 (aa_ (rfl:bG_ now=some (bv_ now)) ?_));simp only[g3,cond_false];refine aa_ (vD_ s.Xm id name _ user _ (bv_ now) f.tr g4 hl) ?_;generalize kG_ s.Xm id name (inhI (an_ s id).Xv perm) user (an_ s id).Yk (bv_ now)=c;cases c.2.2 != 0 with
   | true=>rfl
   | false =>
    refine ac_ rfl (aa_ (a:=(s.Yq,s.Yj,c.1.Xr,c.1.Xz,bif am_ (inhI (an_ s id).Xv perm) 29 then putX s.Xs c.2.1 else s.Xs)) (aa_ (ga_ _ g4).2.2.1 ?_) rfl);cases am_ (inhI (an_ s id).Xv perm) 29 with
    | true=>exact ah_ rfl (aa_ (lock_eq _ _ f.srt (by have:=z.el;show s.Xs.length<=1000;omega)) rfl)
    | false=>rfl
def lD_(s:Xx)(n:Xq)(size:Int):Bool:=decide (size<=(n.Xl.length:Int))||mw_ s.Yj s.Xm n.Yw 0 (w64 (size-(n.Xl.length:Int)))
theorem grows_eq{s:Xx}(z:SizeOK s)(n:Xq)(size:Int):eQ_ s n size=some (lD_ s n size):=by
 unfold eQ_ lD_;rw[p5_ _ _ _ _ _ z.ql (nl2 z)];cases decide (size<=(n.Xl.length:Int))<;>rfl
theorem ref_grows_eq{s:Xx}(z:SizeOK s)(n:Xq)(size:Int):oa_ s n size=some (lD_ s n size):=by
 unfold oa_ lD_;rw[w8_ _ _ _ _ _ z.ql (nl2 z)];cases decide (size<=(n.Xl.length:Int))<;>rfl
def writeS(s:Xx)(user:Str)(id offset:Int)(data:Str)(now:Int):Xx×Int×Int :=
 bif cl_ s user id != 0 then(s,0,cl_ s user id)else bif am_ (an_ s id).Xv 31 then(s,0,10)else bif decide (offset<0)then(s,0,1)else bif data==[]then(s,0,0)else
 let o:=bif am_ (an_ s id).Xv 30 then((an_ s id).Xl.length:Int)else offset
 bif decide (o>65536)||decide ((data.length:Int)>w64 (65536-o))then(s,0,4)else
 bif !(lD_ s (an_ s id) (w64 (o+(data.length:Int))))then(s,0,21)else
 (putTr s (writeT s.Xm id o data user (bv_ now)).1,(data.length:Int),0)
theorem write_ok{t:Xk}{id offset o:Int}{data user:Str}{now:Int}(hi:(ai_ t.Xz id).2=true)(hd:am_ (ai_ t.Xz id).1.Xv 31=false)(h0:0<=offset)(hdt:(data==[])=false)(ho:o=bif am_ (ai_ t.Xz id).1.Xv 30 then((ai_ t.Xz id).1.Xl.length:Int)else offset)
  (hf:(decide (o>65536)||decide ((data.length:Int)>w64 (65536-o)))=false):(writeT t id o data user now).2=((data.length:Int),0)/\0<=o/\o+data.length<=65536:=by
 have ho0:0<=o:=by rw[ho];cases am_ (ai_ t.Xz id).1.Xv 30 with
  | true=>exact Int.natCast_nonneg _
  | false=>exact h0
 simp only[Bool.or_eq_false_iff,qDf]at hf;rw[ap_ ⟨by omega,by omega⟩]at hf;refine⟨?_,ho0,by omega⟩;unfold writeT hK_;rw[hi,hd];have e1:decide (o<0)=false:=by simpa using ho0
 rw[e1,hdt];have e2:(bif am_ (ai_ t.Xz id).1.Xv 30 then((ai_ t.Xz id).1.Xl.length:Int)else o)=o:=by
  cases hh:am_ (ai_ t.Xz id).1.Xv 30 with
  | true=>rw[hh]at ho;exact ho.symm
  | false=>rfl
 simp only[e2];have e3:decide (o+(data.length:Int)>65536)=false:=by simp;omega
 rw[e3];rfl
theorem write_eq{s:Xx}(f:FileOK s)(z:SizeOK s)(user:Str)(id offset:Int)(data:Str)(now:Int)(hu:user.length<=9223372036854775807)(hdl:data.length<=9223372036854775807):eR_ s user id offset data now=some (writeS s user id offset data now):=by
 obtain⟨n,e1,e2⟩:=oO_ z user id hu;unfold eR_ writeS;refine aa_ (kK_ s z) (aa_ e1 ?_);cases hc:cl_ s user id != 0 with
 | true=>rfl
 | false =>
  obtain⟨h0,_,hi⟩:=hM_ hc;obtain rfl:=e2 h0;refine ac_ rfl (aa_ (ga_ _ (eX_ f id)).1 ?_);cases hd:am_ (an_ s id).Xv 31 with
  | true=>rfl
  | false =>
   refine ac_ rfl ?_;cases ho:decide (offset<0)with
   | true=>rfl
   | false =>
    refine ac_ rfl ?_;cases hdt:data==[]with
    | true=>rfl
    | false =>
     refine ac_ rfl (aa_ (a:=bif am_ (an_ s id).Xv 30 then((an_ s id).Xl.length:Int)else offset) (aa_ (ga_ _ (eX_ f id)).2.1 (by cases am_ (an_ s id).Xv 30<;>rfl)) ?_);simp only[cond_false];generalize hO:(bif am_ (an_ s id).Xv 30 then((an_ s id).Xl.length:Int)else offset)=o;cases hf:decide (o>65536)||decide ((data.length:Int)>w64 (65536-o))with
     | true=>rfl
     | false =>
      refine ac_ rfl (aa_ (grows_eq z _ _) ?_);cases lD_ s (an_ s id) (w64 (o+(data.length:Int)))with
      | false=>rfl
      | true =>
       obtain⟨w1,w2,w3⟩:=write_ok (now:=bv_ now) (user:=user) hi hd (by simpa using ho) hdt hO.symm hf;refine ac_ rfl (aa_ rfl (aa_ (xa_ s.Xm id o data user (bv_ now) f.tr (by omega) hdl) ?_));simp only[w1];rfl
def kL_(s:Xx)(user:Str)(id now:Int):Xx×Int:=bif cl_ s user id != 0 then(s,cl_ s user id)else bif !(ir_ s user (an_ s id))then(s,11)else bif(kH_ s.Xm id user (bv_ now)).2 != 0 then(s,(kH_ s.Xm id user (bv_ now)).2)else(putTE s (kH_ s.Xm id user (bv_ now)).1 (outX s.Xs id),0)
theorem remove_eq{s:Xx}(f:FileOK s)(z:SizeOK s)(user:Str)(id now:Int)(hu:user.length<=9223372036854775807):fM_ s user id now=some (kL_ s user id now):=by
 obtain⟨n,e1,e2⟩:=oO_ z user id hu;unfold fM_ kL_;refine aa_ (kK_ s z) (aa_ e1 ?_);cases hc:cl_ s user id != 0 with
 | true=>rfl
 | false =>
  obtain⟨h0,_,hi⟩:=hM_ hc;obtain rfl:=e2 h0;refine ac_ rfl (aa_ (s1_ f z user _) ?_);cases ir_ s user (an_ s id)with
  | false=>rfl
  | true =>
   refine ac_ rfl (aa_ rfl (aa_ (vE_ s.Xm id user (bv_ now) f.tr) ?_));cases(kH_ s.Xm id user (bv_ now)).2 != 0 with
   | true=>rfl
   | false=>exact ac_ rfl (aa_ (q6_ _ id f.srt (by have:=z.el;show s.Xs.length<=1000;omega)) rfl)
def closeS(s:Xx)(user:Str)(id mode now:Int):Xx:=bif am_ mode 6 then(kL_ (setX s (outX s.Xs id)) user id now).1 else setX s (outX s.Xs id)
theorem removeS_err(s:Xx)(user:Str)(id now:Int)(h:(kL_ s user id now).2≠0):(kL_ s user id now).1=s:=by
 revert h;unfold kL_;cases cl_ s user id != 0 with
 | true=>exact λ _=>rfl
 | false =>
  cases ir_ s user (an_ s id)with
  | false=>exact λ _=>rfl
  | true =>
   cases(kH_ s.Xm id user (bv_ now)).2 != 0 with
   | true=>exact λ _=>rfl
   | false=>exact λ h=>absurd rfl h
theorem out_ok{s:Xx}(f:FileOK s)(x:Int):FileOK (setX s (outX s.Xs x)):=⟨f.us,f.qs,f.tr,outX_sorted f.srt,λ y hy=>f.exc y (mem_outX.1 hy).1⟩
theorem out_size{s:Xx}(z:SizeOK s)(x:Int):SizeOK (setX s (outX s.Xs x)):=⟨z.ul,z.um,z.us,z.ql,z.qs,z.nl,Nat.le_trans (outX_len _ _) z.el⟩
theorem close_eq{s:Xx}(f:FileOK s)(z:SizeOK s)(user:Str)(id mode now:Int)(hu:user.length<=9223372036854775807)(hm:mode<=9223372036854775807):iI_ s user id mode now=some (closeS s user id mode now):=by
 unfold iI_ closeS;refine aa_ (kK_ s z) (aa_ (q6_ _ id f.srt (by have:=z.el;omega)) ?_);rw[(ga_ _ hm).2.2.2];simp only[qBs];cases am_ mode 6 with
 | false=>rfl
 | true =>
  rw[remove_eq (out_ok f id) (out_size z id) user id now hu];cases hr:(kL_ (setX s (outX s.Xs id)) user id now).2==0 with
  | true=>simp[hr]
  | false =>
   rw[removeS_err _ _ _ _ (by simpa using hr)];simp[hr]
def lf_(m:Yr):Bool:=decide (-1<=m.n_)&&decide (m.n_<=m.Zn)
def oR_(x:Yt):List Yr:=[(Yr.mk x.Yu 2 65534),(Yr.mk x.Zp 4 4294967294),(Yr.mk x.Zx.Yu 1 232),(Yr.mk x.Zx.Xo 4 2147483647),(Yr.mk x.Zx.Zw 8 1099511627776),(Yr.mk x.Xv 4 3892314623),(Yr.mk x.Yz 8 1099511627776),(Yr.mk x.Xa 8 1099511627776),(Yr.mk x.Xi 8 9007199254740991)]
theorem numbers_eq(x:Yt):m7_ x=some (oR_ x):=rfl
theorem check_loop(ns:List Yr)(h:ns.length<=1000):ak_ (eV_ ns) BIG (0,ns)=some (if ns.all lf_ then .fall ()else .ret 5):=by
 refine fq_ (body:=eV_ ns) (J:=λ i s b=>s=((i:Int),ns)/\b=if(ns.drop i).all lf_ then .fall ()else .ret 5) ns.length (bE_ (by omega)) (λ s b hJ => ?_) (λ i s b hi hJ => ?_) ⟨rfl,by simp⟩
 .obtain⟨rfl,rfl⟩:=hJ;unfold eV_;simp only;rw[br_];simp
 .obtain⟨rfl,rfl⟩:=hJ;have hb:eV_ ns ((i:Int),ns)=bif lf_ ns[i]then some (.next (((i+1:Nat):Int),ns))else some (.done (.ret 5)):=by
   unfold eV_;simp only;rw[bj_ hi,aq_ hi,au_ (by omega)];generalize ns[i]=m;simp only[cond_true,qBs];have e:lf_ m = !(decide (m.n_ < -1)||decide (m.n_>m.Zn)):=by
    unfold lf_;rw[Bool.eq_iff_iff];simp only[qAn,qDe,Bool.not_eq_true',Bool.or_eq_false_iff,qDf];omega
   rw[e];cases decide (m.n_ < -1)<;>cases decide (m.n_>m.Zn)<;>rfl
  rw[hb,List.drop_eq_getElem_cons hi,List.all_cons];cases hp:lf_ ns[i]with
  | true=>exact .inr ⟨_,rfl,rfl,by simp⟩
  | false=>exact .inl (by simp)
def gk_(x m:Int):Bool:=(x == -1)||(decide (x>=0)&&(bV_ .i64 x m==x))
def okIn(x m:Int):Bool:=(x == -1)||(decide (x>=0)&&decide (x<=m))
theorem up_(x:Int)(m:Nat)(hm:m<2^63)(hx:x<=9223372036854775807):io_ x (m:Int)=some (gk_ x (m:Int)):=by
 unfold io_ gk_;by_cases h0:0<=x
 .obtain⟨n,rfl⟩:∃n:Nat,x=(n:Int):=⟨x.toNat,by omega⟩;rw[sd_ (by omega) hm]
 .have h0':decide (x>=0)=false:=by simp;omega
  rw[h0'];simp
theorem bits_in(x:Int)(m:Nat)(hm:m<2^63)(hx:x<=9223372036854775807)(h:gk_ x (m:Int)=true):okIn x (m:Int)=true:=by
 unfold gk_ at h;unfold okIn;by_cases h0:0<=x
 .obtain⟨n,rfl⟩:∃n:Nat,x=(n:Int):=⟨x.toNat,by omega⟩;rw[kC_ (by omega) hm]at h;simp only[Bool.or_eq_true,qAn,beq_iff_eq,qDe]at h ⊢;rcases h with h|⟨_,h⟩
  .exact .inl h
  .have:n&&&m=n:=by omega
   have:=and_le this;exact .inr ⟨h0,by omega⟩
 .simp only[Bool.or_eq_true,qAn,beq_iff_eq,qDe]at h ⊢;rcases h with h|⟨h,_⟩
  .exact .inl h
  .omega
theorem okNum_in(n w m:Int):lf_ ⟨n,w,m⟩=okIn n m\/m < -1:=by
 by_cases hm:m < -1
 .exact .inr hm
 .refine .inl ?_;unfold lf_ okIn;rw[Bool.eq_iff_iff];simp only[Bool.or_eq_true,qAn,beq_iff_eq,qDe];omega
def okNums(x:Yt):Bool:=okIn x.Yu 65534&&okIn x.Zp 4294967294&&gk_ x.Zx.Yu 232&&okIn x.Zx.Xo 2147483647&&okIn x.Zx.Zw 1099511627776&&gk_ x.Xv 3892314623&&okIn x.Yz 1099511627776&&okIn x.Xa 1099511627776&&okIn x.Xi 9007199254740991
def okTexts(x:Yt):Bool:=(x.Xy==[]||x.Xy==[47]||bO_ x.Xy)&&decide (x.Yw.length<=64)&&decide (x.Yk.length<=64)&&decide (x.Yy.length<=64)
def is_(x:Yt):Int:=if okNums x then(if okTexts x then 0 else 6)else 5
theorem numList_ok(x:Yt)(hq:x.Zx.Yu<=9223372036854775807)(hmo:x.Xv<=9223372036854775807):((oR_ x).all lf_&&gk_ x.Zx.Yu 232&&gk_ x.Xv 3892314623)=okNums x:=by
 have e:=λ n w m (hm:¬m < -1)=>(okNum_in n w m).resolve_right hm
 have b1:=bits_in x.Zx.Yu 232 (by omega) hq;have b2:=bits_in x.Xv 3892314623 (by omega) hmo;unfold okNums oR_;simp only[List.all_cons,List.all_nil,e _ _ _ (show ¬(65534:Int) < -1 by omega),e _ _ _ (show ¬(4294967294:Int) < -1 by omega),e _ _ _ (show ¬(232:Int) < -1 by omega),e _ _ _ (show ¬(2147483647:Int) < -1 by omega),e _ _ _ (show ¬(1099511627776:Int) < -1 by omega),e _ _ _ (show ¬(3892314623:Int) < -1 by omega),e _ _ _ (show ¬(9007199254740991:Int) < -1 by omega)];simp only[Int.cast_ofNat_Int]at b1 b2;cases h1:gk_ x.Zx.Yu 232<;>cases h2:gk_ x.Xv 3892314623<;>simp_all [Bool.and_assoc]
theorem xd_(x:Yt)(hq:x.Zx.Yu<=9223372036854775807)(hmo:x.Xv<=9223372036854775807)(hn:x.Xy.length<=9223372036854775807):mp_ x=some (is_ x):=by
 have hl:=numList_ok x hq hmo;have w1:=up_ x.Zx.Yu 232 (by omega) hq;have w2:=up_ x.Xv 3892314623 (by omega) hmo;simp only[Int.cast_ofNat_Int]at w1 w2;unfold mp_ is_;rw[numbers_eq];simp only[qBs];rw[check_loop (oR_ x) (show(9:Nat)<=1000 by decide)];simp only[qBs];rw[←hl];cases h1:(oR_ x).all lf_ with
 | false=>simp
 | true =>
  simp only[if_true];rw[w1,w2,hH_ _ hn];simp only[qBs];have em:decide (cz_ (cz_ (x.Yw.length:Int) (x.Yk.length:Int)) (x.Yy.length:Int)>64) = !(decide (x.Yw.length<=64)&&decide (x.Yk.length<=64)&&decide (x.Yy.length<=64)):=by
   rw[Bool.eq_iff_iff];simp only[Bool.not_eq_true',Bool.and_eq_false_iff,qDe,qDf];unfold cz_;split<;>split<;>omega
  rw[em];unfold okTexts;cases gk_ x.Zx.Yu 232<;>cases gk_ x.Xv 3892314623<;>cases(x.Xy==[])<;>cases(x.Xy==[47])<;>cases bO_ x.Xy<;>cases decide (x.Yw.length<=64)<;>cases decide (x.Yk.length<=64)<;>cases decide (x.Yy.length<=64)<;>simp
theorem lenD_eq{n:Xq}(h:aN_ n=true)(hm:n.Xv<=9223372036854775807):fN_ n=some (n.Xl.length:Int):=by
 unfold fN_;refine aa_ (ga_ _ hm).1 ?_;cases hd:am_ n.Xv 31 with
 | true=>rw[okNode_dir h hd];rfl
 | false=>rfl
def eE_(s:Xx)(user:Str)(n:Xq)(name:Str):Int:=bif name==[]||name==n.Xy then 0 else bif n.Id_==1 then 11 else bif !(bO_ name)then 6 else bif !(ir_ s user n)then 11 else bif(le_ s.Xm.Xz n.Xw name).2==0 then 7 else 0
def eF_(s:Xx)(user:Str)(n:Xq)(size:Int):Int:=bif size == -1||size==(n.Xl.length:Int)then 0 else bif am_ n.Xv 31 then 10 else bif !(mayS s user n 2)then 11 else bif decide (size>65536)then 4 else bif !(lD_ s n size)then 21 else 0
def ownsS(s:Xx)(user:Str)(n:Xq):Bool:=user==n.Yw||lB_ s.Yq user n.Yk
def rb_(s:Xx)(user:Str)(n:Xq)(gid:Str):Int:=bif(gid==[]||gid==n.Yk)||(user==n.Yw&&dX_ s.Yq user gid)then 0 else bif lB_ s.Yq user n.Yk&&lB_ s.Yq user gid then 0 else 26
def setsS(s:Xx)(user:Str)(n:Xq)(d:Yt):Int:=bif d.Xv != -1 && !(ownsS s user n)then 11 else bif d.Xv != -1 && !(am_ d.Xv 31==am_ n.Xv 31)then 27 else bif d.Xv != -1 && !(aI_ d.Xv)then 1 else bif d.Xa != -1 && !(ownsS s user n)then 11 else rb_ s user n d.Yk
def fixedD(d:Yt):Bool:=((((d.Yu != -1||d.Zp != -1) || !(decide (d.Zx=Zb.mk (-1) (-1) (-1))))||d.Yz != -1) || !(d.Yw==[])) || !(d.Yy==[])
def nk_(s:Xx)(user:Str)(n:Xq)(d:Yt):Int:=bif is_ d != 0 then is_ d else bif fixedD d then 27 else bif eE_ s user n d.Xy != 0 then eE_ s user n d.Xy else bif eF_ s user n d.Xi != 0 then eF_ s user n d.Xi else setsS s user n d
def gb_(s:Xx)(user:Str)(id:Int)(d:Yt):Int:=bif cl_ s user id != 0 then cl_ s user id else nk_ s user (an_ s id) d
def DirB(d:Yt):Prop:=d.Zx.Yu<=9223372036854775807/\d.Xv<=9223372036854775807/\d.Xy.length<=9223372036854775807
theorem renames_eq{s:Xx}(f:FileOK s)(z:SizeOK s)(user:Str)(n:Xq)(name:Str)(hl:name.length<=9223372036854775807):gM_ s user n name=some (eE_ s user n name)/\p0_ s user n name=some (eE_ s user n name):=by
 unfold gM_ p0_ eE_;cases h1:name==[]||name==n.Xy with
 | true=>exact⟨rfl,rfl⟩
 | false =>
  rw[nf_ _ _ _ f.tr,w3_ _ _ _ f.tr,hH_ _ hl,se_ _ hl,s1_ f z,um_ f z];simp only[cond_false,qBs];unfold ir_ bne;cases n.Id_==1<;>cases bO_ name<;>cases isS s n.Xw<;>cases mayS s user (an_ s n.Xw) 2<;>cases(le_ s.Xm.Xz n.Xw name).2==0<;>exact⟨rfl,rfl⟩
theorem resizes_eq{s:Xx}(f:FileOK s)(z:SizeOK s)(user:Str){id:Int}(hi:isS s id=true)(size:Int):gN_ s user (an_ s id) size=some (eF_ s user (an_ s id) size)/\p1_ s user (an_ s id) size=some (eF_ s user (an_ s id) size):=by
 have hm:=eX_ f id;unfold gN_ p1_ eF_;rw[lenD_eq (f.tr.flds _ (sY_ hi)) hm,(ga_ _ hm).1,(has_r _ hm).1,may_eq z user hm,node_id hi,um_ f z,hi,grows_eq z,ref_grows_eq z];simp only[qBs,Bool.true_and];cases size == -1<;>cases size==((an_ s id).Xl.length:Int)<;>cases am_ (an_ s id).Xv 31<;>cases mayS s user (an_ s id) 2<;>cases decide (size>65536)<;>cases lD_ s (an_ s id) size<;>exact⟨rfl,rfl⟩
theorem regroups_eq{s:Xx}(z:SizeOK s)(user:Str)(n:Xq)(gid:Str):f8_ s user n gid=some (rb_ s user n gid):=by
 unfold f8_ rb_;rw[lU_ _ _ _ z.ul z.um,lU_ _ _ _ z.ul z.um,hJ_ _ _ _ z.ul z.um];simp only[qBs];cases user==n.Yw<;>cases lB_ s.Yq user n.Yk<;>cases gid==[]<;>cases gid==n.Yk<;>cases dX_ s.Yq user gid<;>cases lB_ s.Yq user gid<;>rfl
theorem changes_eq{s:Xx}(f:FileOK s)(z:SizeOK s)(user:Str){id:Int}(hi:isS s id=true)(d:Yt)(hd:DirB d):gO_ s user (an_ s id) d=some (nk_ s user (an_ s id) d):=by
 have hm:=eX_ f id;unfold gO_ nk_;refine aa_ (xd_ d hd.1 hd.2.1 hd.2.2) ?_;cases is_ d != 0 with
 | true=>rfl
 | false =>
  refine ac_ rfl (aa_ rfl ?_);show(bif fixedD d then _ else _)=some (bif fixedD d then _ else _);cases fixedD d with
  | true=>rfl
  | false =>
   refine ac_ rfl (aa_ (renames_eq f z user _ _ hd.2.2).1 ?_);show(bif eE_ s user (an_ s id) d.Xy != 0 then _ else _)=some (bif eE_ s user (an_ s id) d.Xy != 0 then _ else _);cases eE_ s user (an_ s id) d.Xy != 0 with
   | true=>rfl
   | false =>
    refine ac_ rfl (aa_ (resizes_eq f z user hi _).1 ?_);show(bif eF_ s user (an_ s id) d.Xi != 0 then _ else _)=some (bif eF_ s user (an_ s id) d.Xi != 0 then _ else _);cases eF_ s user (an_ s id) d.Xi != 0 with
    | true=>rfl
    | false =>
     rw[lU_ _ _ _ z.ul z.um,(ga_ _ hm).1,(ga_ _ hd.2.1).1,q5_ _ hd.2.1,regroups_eq z];unfold setsS;simp only[qBs,cond_false];unfold ownsS;cases user==(an_ s id).Yw<;>cases lB_ s.Yq user (an_ s id).Yk<;>cases d.Xv != -1<;>cases am_ d.Xv 31==am_ (an_ s id).Xv 31<;>cases aI_ d.Xv<;>cases d.Xa != -1<;>rfl
theorem nQ_{l:List Xq}(hs:l.Pairwise λ a b=>a.Id_<b.Id_)(m:Xq){x:Int}(h:(ai_ l x).2=true):ai_ (bz_ l m) x=(bif x==m.Id_ then m else(ai_ l x).1,true):=by
 obtain⟨h1,h2⟩:=bu_ h;have:=hb_ (kI_ hs m) (nj_ (n:=m) h1);rw[h2]at this;cases hx:x==m.Id_ with
 | true =>
  rw[hx]at this;simp only[cond_true]at this;rw[show m.Id_=x from(beq_iff_eq.1 hx).symm]at this;exact this
 | false =>
  rw[hx]at this;simp only[cond_false]at this;rw[h2]at this;exact this
theorem rename_keep{t:Xk}(h:OkT t.Xz t.Xr){id:Int}(hi:(ai_ t.Xz id).2=true)(name uid:Str)(now:Int):Keep t (kJ_ t id name uid now).1 id:=by
 rcases rename_cases (id:=id) (name:=name) (uid:=uid) (now:=now) h with⟨e,he⟩|⟨p,h1,_,_,_,h5,he,h6⟩
 .rw[he];exact⟨h,hi,rfl⟩
 .obtain⟨g1,g2⟩:=bu_ hi;have s1:=kI_ h.srt (bI_ (ai_ t.Xz id).1 name);have e1:=nQ_ h.srt (bI_ (ai_ t.Xz id).1 name) hi;have e2:=nQ_ s1 (bU_ p uid now) (by rw[e1]:(ai_ (bz_ t.Xz (bI_ (ai_ t.Xz id).1 name)) id).2=true);have e3:(id==(bU_ p uid now).Id_)=false:=by
   have:(bU_ p uid now).Id_=p.Id_:=rfl;rw[this];simp;omega
  have e4:(id==(bI_ (ai_ t.Xz id).1 name).Id_)=true:=by
   have:(bI_ (ai_ t.Xz id).1 name).Id_=(ai_ t.Xz id).1.Id_:=rfl;rw[this,g2];simp
  rw[e3,e1,e4]at e2;rw[he];exact⟨h6,by rw[e2],by rw[e2];rfl⟩
theorem resize_keep{t:Xk}(h:OkT t.Xz t.Xr){id:Int}(hi:(ai_ t.Xz id).2=true)(size:Int)(uid:Str)(now:Int):Keep t (gu_ t id size uid now).1 id:=by
 rcases resize_cases (id:=id) (size:=size) (uid:=uid) (now:=now) h with⟨e,he⟩|⟨h1,_,he,_,h6⟩
 .rw[he];exact⟨h,hi,rfl⟩
 .obtain⟨g1,g2⟩:=bu_ hi;have e2:=nQ_ h.srt (bU_ (putD (ai_ t.Xz id).1 (fitS (ai_ t.Xz id).1.Xl size.toNat)) uid now) hi;have e4:(id==(bU_ (putD (ai_ t.Xz id).1 (fitS (ai_ t.Xz id).1.Xl size.toNat)) uid now).Id_)=true:=by
   have:(bU_ (putD (ai_ t.Xz id).1 (fitS (ai_ t.Xz id).1.Xl size.toNat)) uid now).Id_=(ai_ t.Xz id).1.Id_:=rfl;rw[this,g2];simp
  rw[e4]at e2;rw[he];exact⟨h6,by rw[e2],by rw[e2];rfl⟩
theorem Keep.refl{t:Xk}(h:OkT t.Xz t.Xr){id:Int}(hi:(ai_ t.Xz id).2=true):Keep t t id:=⟨h,hi,rfl⟩
def dI_(t:Xk)(user:Str)(id:Int)(n:Xq)(d:Yt)(now:Int):Xk:=bif !(d.Xy==[]) && !(d.Xy==n.Xy)then(kJ_ t id d.Xy user (bv_ now)).1 else t
def fc_(t:Xk)(user:Str)(id:Int)(n:Xq)(d:Yt)(now:Int):Xk:=bif d.Xi != -1&&d.Xi != (n.Xl.length:Int)then(gu_ t id d.Xi user (bv_ now)).1 else t
def gidD(n:Xq)(d:Yt):Str:=bif d.Yk==n.Yk then[]else d.Yk
def fx_(t:Xk)(id:Int)(n:Xq)(d:Yt):Xk:=bif(d.Xv != -1||d.Xa != -1) || !(gidD n d==[])then(attrsT t id d.Xv (gidD n d) d.Xa).1 else t
def stepEx(l:List Int)(id:Int)(d:Yt):List Int:=bif d.Xv != -1 && !(am_ d.Xv 29)then outX l id else l
def wstatS(s:Xx)(user:Str)(id:Int)(d:Yt)(now:Int):Xx×Int:=bif gb_ s user id d != 0 then(s,gb_ s user id d)else(putTE s (fx_ (fc_ (dI_ s.Xm user id (an_ s id) d now) user id (an_ s id) d now) id (an_ s id) d) (stepEx s.Xs id d),0)
theorem stepA_keep{t:Xk}(h:OkT t.Xz t.Xr){id:Int}(hi:(ai_ t.Xz id).2=true)(user:Str)(n:Xq)(d:Yt)(now:Int):Keep t (dI_ t user id n d now) id:=by
 unfold dI_;cases !(d.Xy==[]) && !(d.Xy==n.Xy)with
 | true=>exact rename_keep h hi _ _ _
 | false=>exact Keep.refl h hi
theorem stepB_keep{t:Xk}(h:OkT t.Xz t.Xr){id:Int}(hi:(ai_ t.Xz id).2=true)(user:Str)(n:Xq)(d:Yt)(now:Int):Keep t (fc_ t user id n d now) id:=by
 unfold fc_;cases d.Xi != -1&&d.Xi != (n.Xl.length:Int)with
 | true=>exact resize_keep h hi _ _ _
 | false=>exact Keep.refl h hi
theorem p6_{s:Xx}{user:Str}{id:Int}{d:Yt}(h:(gb_ s user id d != 0)=false):(cl_ s user id != 0)=false/\is_ d=0/\eE_ s user (an_ s id) d.Xy=0/\eF_ s user (an_ s id) d.Xi=0/\setsS s user (an_ s id) d=0:=by
 have h0:gb_ s user id d=0:=by simpa using h
 unfold gb_ at h0;cases hc:cl_ s user id != 0 with
 | true=>rw[hc]at h0;rw[show cl_ s user id=0 from h0]at hc;cases hc
 | false =>
  rw[hc]at h0
  replace h0:nk_ s user (an_ s id) d=0:=h0;unfold nk_ at h0;cases h1:is_ d != 0 with
  | true=>rw[h1]at h0;rw[show is_ d=0 from h0]at h1;cases h1
  | false =>
   rw[h1]at h0;cases h2:fixedD d with
   | true=>rw[h2]at h0;cases h0
   | false =>
    rw[h2]at h0;cases h3:eE_ s user (an_ s id) d.Xy != 0 with
    | true=>rw[h3]at h0;rw[show eE_ s user (an_ s id) d.Xy=0 from h0]at h3;cases h3
    | false =>
     rw[h3]at h0;cases h4:eF_ s user (an_ s id) d.Xi != 0 with
     | true=>rw[h4]at h0;rw[show eF_ s user (an_ s id) d.Xi=0 from h0]at h4;cases h4
     | false =>
      rw[h4]at h0;exact⟨rfl,by simpa using h1,by simpa using h3,by simpa using h4,h0⟩
theorem setsS_mode{s:Xx}{user:Str}{n:Xq}{d:Yt}(h:setsS s user n d=0)(hm:(d.Xv != -1)=true):aI_ d.Xv=true/\am_ d.Xv 31=am_ n.Xv 31:=by
 unfold setsS at h;rw[hm]at h;cases h1:ownsS s user n with
 | false=>rw[h1]at h;cases h
 | true =>
  rw[h1]at h;cases h2:am_ d.Xv 31==am_ n.Xv 31 with
  | false=>rw[h2]at h;cases h
  | true =>
   rw[h2]at h;cases h3:aI_ d.Xv with
   | false=>rw[h3]at h;cases h
   | true=>exact⟨rfl,by simpa using h2⟩
theorem checkR_mtime{d:Yt}(h:is_ d=0):d.Xa = -1\/0<=d.Xa/\d.Xa<=1099511627776:=by
 unfold is_ at h;cases hn:okNums d with
 | false=>rw[hn]at h;cases h
 | true =>
  unfold okNums okIn at hn;simp only[qAn,Bool.or_eq_true,beq_iff_eq,qDe]at hn;exact hn.1.2
theorem stepC_mode{t:Xk}(h:OkT t.Xz t.Xr){id:Int}(hi:(ai_ t.Xz id).2=true){n:Xq}{d:Yt}(hn:n.Xv=(ai_ t.Xz id).1.Xv)(hmo:(d.Xv != -1)=true->aI_ d.Xv=true/\am_ d.Xv 31=am_ n.Xv 31)(hmt:d.Xa = -1\/0<=d.Xa/\d.Xa<=1099511627776) :
  OkT (fx_ t id n d).Xz (fx_ t id n d).Xr/\(ai_ (fx_ t id n d).Xz id).2=true/\(ai_ (fx_ t id n d).Xz id).1.Xv=bif d.Xv != -1 then d.Xv else n.Xv:=by
 obtain⟨g1,g2⟩:=bu_ hi;unfold fx_;cases hc:(d.Xv != -1||d.Xa != -1) || !(gidD n d==[])with
 | false =>
  simp only[Bool.or_eq_false_iff]at hc;rw[hc.1.1];exact⟨h,hi,hn.symm⟩
 | true =>
  have he:attrsT t id d.Xv (gidD n d) d.Xa=(Xk.mk t.Xr (bz_ t.Xz (iM_ (ai_ t.Xz id).1 d.Xv (gidD n d) d.Xa)),0):=by
   unfold attrsT;rw[hi];have c1:((d.Xv != -1)&&(!(aI_ d.Xv) || !(am_ d.Xv 31==am_ (ai_ t.Xz id).1.Xv 31)))=false:=by
    cases hm:d.Xv != -1 with
    | false=>rfl
    | true =>
     obtain⟨a,b⟩:=hmo hm;rw[hn]at b;rw[a,b];simp
   have c2:((d.Xa != -1)&&(decide (d.Xa<0)||decide (d.Xa>1099511627776)))=false:=by
    rcases hmt with e|⟨e1,e2⟩
    .rw[e];rfl
    .rw[show decide (d.Xa<0)=false by simpa using e1,show decide (d.Xa>1099511627776)=false by simpa using e2];simp
   rw[c1,c2];rfl
  have h6:OkT (bz_ t.Xz (iM_ (ai_ t.Xz id).1 d.Xv (gidD n d) d.Xa)) t.Xr:=by
   obtain⟨a,b⟩:=attrN_ok (h.flds _ g1) (mode:=d.Xv) (gid:=gidD n d) (mtime:=d.Xa) (by
    cases hm:d.Xv != -1 with
    | false=>exact .inl (by simpa using hm)
    | true=>obtain⟨a,b⟩:=hmo hm;exact .inr ⟨a,by rw[b,hn]⟩) hmt
   exact h.upd g1 rfl rfl a b (.inl rfl)
  rw[cond_true,he];have e2:=nQ_ h.srt (iM_ (ai_ t.Xz id).1 d.Xv (gidD n d) d.Xa) hi;have e4:(id==(iM_ (ai_ t.Xz id).1 d.Xv (gidD n d) d.Xa).Id_)=true:=by
   have:(iM_ (ai_ t.Xz id).1 d.Xv (gidD n d) d.Xa).Id_=(ai_ t.Xz id).1.Id_:=rfl;rw[this,g2];simp
  rw[e4]at e2;refine⟨h6,by rw[e2],?_⟩;rw[e2];show(bif d.Xv != -1 then d.Xv else(ai_ t.Xz id).1.Xv)=_;rw[←hn]
theorem wstat_trees{s:Xx}(f:FileOK s){user:Str}{id:Int}{d:Yt}(now:Int)(hz:(gb_ s user id d != 0)=false) :
  isS s id=true/\Keep s.Xm (dI_ s.Xm user id (an_ s id) d now) id/\Keep s.Xm (fc_ (dI_ s.Xm user id (an_ s id) d now) user id (an_ s id) d now) id /\
  OkT (fx_ (fc_ (dI_ s.Xm user id (an_ s id) d now) user id (an_ s id) d now) id (an_ s id) d).Xz (fx_ (fc_ (dI_ s.Xm user id (an_ s id) d now) user id (an_ s id) d now) id (an_ s id) d).Xr /\
  (ai_ (fx_ (fc_ (dI_ s.Xm user id (an_ s id) d now) user id (an_ s id) d now) id (an_ s id) d).Xz id).2=true /\
  (ai_ (fx_ (fc_ (dI_ s.Xm user id (an_ s id) d now) user id (an_ s id) d now) id (an_ s id) d).Xz id).1.Xv=bif d.Xv != -1 then d.Xv else(an_ s id).Xv:=by
 obtain⟨h1,h2,h3,h4,h5⟩:=p6_ hz;obtain⟨_,_,hi⟩:=hM_ h1;have kA:=stepA_keep f.tr hi user (an_ s id) d now;have kB:=kA.trans (stepB_keep kA.ok kA.is user (an_ s id) d now);exact⟨hi,kA,kB,stepC_mode kB.ok kB.is kB.mode.symm (λ hm=>setsS_mode h5 hm) (checkR_mtime h2)⟩
theorem wstat_eq{s:Xx}(f:FileOK s)(z:SizeOK s)(user:Str)(id:Int)(d:Yt)(now:Int)(hu:user.length<=9223372036854775807)(hd:DirB d):iJ_ s user id d now=some (wstatS s user id d now):=by
 obtain⟨n,e1,e2⟩:=oO_ z user id hu;unfold iJ_ wstatS;refine aa_ (kK_ s z) (aa_ e1 (aa_ (a:=gb_ s user id d) ?_ ?_))
 .unfold gb_ bne;cases hc:cl_ s user id==0 with
  | false=>rfl
  | true =>
   have h0:cl_ s user id=0:=by simpa using hc
   obtain rfl:=e2 h0;exact ah_ rfl (aa_ (changes_eq f z user (hM_ (by rw[h0];rfl)).2.2 d hd) rfl)
 .cases hz:gb_ s user id d != 0 with
  | true=>rfl
  | false =>
   obtain⟨hi,kA,kB,kC,_⟩:=wstat_trees f now hz;obtain rfl:=e2 (hM_ (p6_ hz).1).1;refine ac_ rfl (aa_ (a:=((dI_ s.Xm user id (an_ s id) d now).Xr,s.Yq,s.Yj,(dI_ s.Xm user id (an_ s id) d now).Xz,s.Xs)) ?_ (aa_ (a:=((fc_ (dI_ s.Xm user id (an_ s id) d now) user id (an_ s id) d now).Xr,s.Yq,s.Yj,(fc_ (dI_ s.Xm user id (an_ s id) d now) user id (an_ s id) d now).Xz,s.Xs)) ?_ (aa_ (a:=gidD (an_ s id) d) ?_ (aa_ (a:=((fx_ (fc_ (dI_ s.Xm user id (an_ s id) d now) user id (an_ s id) d now) id (an_ s id) d).Xr,s.Yq,s.Yj,(fx_ (fc_ (dI_ s.Xm user id (an_ s id) d now) user id (an_ s id) d now) id (an_ s id) d).Xz,s.Xs)) ?_ (aa_ (a:=(s.Yq,s.Yj,(fx_ (fc_ (dI_ s.Xm user id (an_ s id) d now) user id (an_ s id) d now) id (an_ s id) d).Xr,(fx_ (fc_ (dI_ s.Xm user id (an_ s id) d now) user id (an_ s id) d now) id (an_ s id) d).Xz,stepEx s.Xs id d)) ?_ rfl)))))
   .unfold dI_;cases !(d.Xy==[]) && !(d.Xy==(an_ s id).Xy)with
    | true=>exact ah_ rfl (aa_ rfl (aa_ (vF_ s.Xm id d.Xy user (bv_ now) f.tr hd.2.2) rfl))
    | false=>rfl
   .refine aa_ (a:=d.Xi != -1&&d.Xi != ((an_ s id).Xl.length:Int)) ?_ ?_
    .rw[lenD_eq (f.tr.flds _ (sY_ hi)) (eX_ f id)];cases d.Xi != -1<;>rfl
    .generalize hA:dI_ s.Xm user id (an_ s id) d now=tA at kA;unfold fc_;cases d.Xi != -1&&d.Xi != ((an_ s id).Xl.length:Int)with
     | true=>exact ah_ rfl (aa_ rfl (aa_ (oP_ tA id d.Xi user (bv_ now) kA.ok) rfl))
     | false=>rfl
   .unfold gidD;cases d.Yk==(an_ s id).Yk<;>rfl
   .generalize hB:fc_ (dI_ s.Xm user id (an_ s id) d now) user id (an_ s id) d now=tB at kB;unfold fx_;cases(d.Xv != -1||d.Xa != -1) || !(gidD (an_ s id) d==[])with
    | true=>exact ah_ rfl (aa_ (xb_ tB id d.Xv _ d.Xa kB.ok hd.2.1) rfl)
    | false=>rfl
   .generalize hC:fx_ (fc_ (dI_ s.Xm user id (an_ s id) d now) user id (an_ s id) d now) id (an_ s id) d=tC;unfold stepEx;rw[(ga_ _ hd.2.1).2.2.1];refine aa_ (a:=d.Xv != -1 && !(am_ d.Xv 29)) (by cases d.Xv != -1<;>rfl) ?_;cases d.Xv != -1 && !(am_ d.Xv 29)with
    | true=>exact ah_ rfl (aa_ (q6_ _ id f.srt (by have:=z.el;show s.Xs.length<=1000;omega)) rfl)
    | false=>rfl
open Go.Sort
theorem hN_{α:Type}{R:α->α->Prop}:∀{l1 l2:List α},l1.Perm l2->l1.Pairwise R->l2.Pairwise R->(∀a,a∈l1->∀b,b∈l1->R a b->R b a->a=b)->l1=l2
 | [],l2,hp,_,_,_=>hp.nil_eq
 | a::l1,[],hp,_,_,_=>absurd hp.length_eq (by simp)
 | a::l1,b::l2,hp,h1,h2,hR=>by
  have h1':=List.pairwise_cons.1 h1;have h2':=List.pairwise_cons.1 h2;have hab:a=b:=by
   by_cases e:a=b
   .exact e
   have ha:a∈b::l2:=hp.subset List.mem_cons_self;have hb:b∈a::l1:=hp.symm.subset List.mem_cons_self;rcases List.mem_cons.1 ha with h|ha'
   .exact h
   rcases List.mem_cons.1 hb with h|hb'
   .exact h.symm
   exact hR a List.mem_cons_self b hb (h1'.1 b hb') (h2'.1 a ha')
  subst hab;rw[hN_ hp.cons_inv h1'.2 h2'.2 λ x hx y hy=>hR x (List.mem_cons_of_mem _ hx) y (List.mem_cons_of_mem _ hy)]
def insS{α:Type}(le:α->α->Bool)(x:α):List α->List α | []=>[x]|y::l=>bif le x y then x::y::l else y::insS le x l
def isort{α:Type}(le:α->α->Bool):List α->List α | []=>[]|x::l=>insS le x (isort le l)
section
variable{α:Type}{le:α->α->Bool}
theorem rd_(x:α):∀(l:List α),(insS le x l).Perm (x::l)
 | []=>List.Perm.refl _
 | y::l=>by
  unfold insS;cases le x y with
  | true=>exact List.Perm.refl _
  | false=>exact((rd_ x l).cons y).trans (List.Perm.swap x y l)
theorem ur_:∀(l:List α),(isort le l).Perm l
 | []=>List.Perm.refl _
 | x::l=>(rd_ x _).trans ((ur_ l).cons x)
theorem sn_(ht:∀a b c,le a b=true->le b c=true->le a c=true)(hl:∀a b,le a b=true\/le b a=true)(x:α):∀(l:List α),l.Pairwise (λ a b=>le a b=true)->(insS le x l).Pairwise (λ a b=>le a b=true)
 | [],_=>by simp[insS]
 | y::l,h=>by
  obtain⟨h1,h2⟩:=List.pairwise_cons.1 h;unfold insS;cases hx:le x y with
  | true =>
   refine List.pairwise_cons.2 ⟨λ z hz => ?_,h⟩;rcases List.mem_cons.1 hz with rfl|hz
   .exact hx
   .exact ht _ _ _ hx (h1 z hz)
  | false =>
   refine List.pairwise_cons.2 ⟨λ z hz => ?_,sn_ ht hl x l h2⟩;rcases List.mem_cons.1 ((rd_ x l).subset hz)with rfl|hz
   .rcases hl z y with h'|h'
    .rw[hx]at h';cases h'
    .exact h'
   .exact h1 z hz
theorem re_(ht:∀a b c,le a b=true->le b c=true->le a c=true)(hl:∀a b,le a b=true\/le b a=true):∀(l:List α),(isort le l).Pairwise (λ a b=>le a b=true)
 | []=>List.Pairwise.nil
 | x::l=>sn_ ht hl x _ (re_ ht hl l)
end
def leK{α:Type}(key:α->Int)(x y:α):Bool:=decide (key x<=key y)
theorem leK_trans{α:Type}(key:α->Int)(a b c:α)(h1:leK key a b=true)(h2:leK key b c=true):leK key a c=true:=by
 unfold leK at *
 simp only[qDe]at *
 omega
theorem leK_total{α:Type}(key:α->Int)(a b:α):leK key a b=true\/leK key b a=true:=by
 unfold leK;simp only[qDe];omega
theorem key_inj{α:Type}{key:α->Int}:∀{l:List α},(l.map key).Nodup->∀a,a∈l->∀b,b∈l->key a=key b->a=b
 | [],_,a,ha,_,_,_=>by cases ha
 | x::l,h,a,ha,b,hb,e=>by
  rw[List.map_cons]at h;obtain⟨h1,h2⟩:=List.nodup_cons.1 h;rcases List.mem_cons.1 ha with ha1|ha1<;>rcases List.mem_cons.1 hb with hb1|hb1
  .rw[ha1,hb1]
  .rw[ha1]at e;exact absurd (List.mem_map.2 ⟨b,hb1,e.symm⟩) h1
  .rw[hb1]at e;exact absurd (List.mem_map.2 ⟨a,ha1,e⟩) h1
  .exact key_inj h2 a ha1 b hb1 e
theorem lg_{α:Type}[Inhabited α]{key:α->Int}{xs ys:List α}(h:dM_ key xs=some ys):ys.Perm xs/\ys.Pairwise λ a b=>leK key a b=true:=by
 unfold dM_ at h;split at h
 .obtain rfl:=qSj h;have hs:=pdq_sorts (fun(x y:α)=>decide (key x<key y)) ⟨λ x=>by simp,λ x y z h1 h2=>by simp at *;omega,λ x y z h1 h2=>by simp at *;omega⟩ xs.toArray 0 xs.length (Lib.bitLen xs.length) true true (Nat.zero_le _) (by simp) (Or.inl rfl);generalize Sort.pdq (fun(x y:α)=>decide (key x<key y)) xs.toArray 0 xs.length (Lib.bitLen xs.length) true true=d at hs;obtain⟨⟨h1,_,h2⟩,h3⟩:=hs;have h1':d.size=xs.length:=by simpa using h1
  have e1:d.extract 0 xs.length=d:=by rw[←h1'];simp
  have e2:xs.toArray.extract 0 xs.length=xs.toArray:=by
   have:xs.length=xs.toArray.size:=by simp
   rw[this];simp
  rw[e1,e2]at h2;refine⟨by simpa using h2,List.pairwise_iff_getElem.2 λ i j hi hj hij => ?_⟩;have hj':j<xs.length:=by simpa[h1']using hj
  have:=h3 i j (Nat.zero_le _) hij hj';rw[getElem!_pos d j (by omega),getElem!_pos d i (by omega)]at this;unfold leK;simp only[qDe,qDf]at *
  simpa using this
 .cases h
def sortByC{α:Type}[Inhabited α](key:α->Int)(xs:List α):Option (List α):=if xs.length<4611686018427387904 then(if(xs.map key).Nodup then some (isort (leK key) xs)else dM_ key xs)else none
theorem sortBy_eq{α:Type}[Inhabited α] : @dM_ α _=sortByC:=by
 funext key xs
 unfold sortByC;split
 .rename_i hl;split
  .rename_i hn;obtain⟨ys,hy⟩:∃ys,dM_ key xs=some ys:=⟨_,by unfold dM_;rw[if_pos hl]⟩;obtain⟨h1,h2⟩:=lg_ hy;rw[hy]
   congr 1
   refine hN_ (h1.trans (ur_ xs).symm) h2 (re_ (leK_trans key) (leK_total key) xs) λ a ha b hb h3 h4 => ?_
   refine key_inj hn a (h1.subset ha) b (h1.subset hb) ?_;unfold leK at h3 h4;simp only[qDe]at h3 h4;omega
  .rfl
 .rename_i hl;unfold dM_;rw[if_neg hl]
end Go.Proofs.YtebokaoegomboaaGreatDoor
