/-
 What the statements of this seat hang on,part 7: Ua Ub Hs.
-/
import Derived.Test.YtebokaoegomboaaGreatDoorZD6
import Derived.Sort.AssemblyPlain
namespace Go.Proofs.YtebokaoegomboaaGreatDoor
open Go.Rt Go.RowKit
theorem nM_{xs:List Str}(h:xs.length<=1000):bc_ xs=some xs:=gV_ (n:=16) (by omega) (by omega)
def okU(i:Nat)(b:UInt8):Bool:=(decide (97<=b.toNat)&&decide (b.toNat<=122))||(!(i==0)&&((decide (48<=b.toNat)&&decide (b.toNat<=57))||b.toNat==45||b.toNat==95))
def gU(i:Nat)(b:UInt8):Option Bool:=if okU i b then none else some false
def vU(s:Str):Bool:=decide (1<=s.length)&&(decide (s.length<=32)&&((aL_ gU 0 s).getD true))
theorem gU_if(i:Nat)(b:UInt8){c:Bool}(h:c = !(okU i b)):(bif c then some (Step.done (Out.ret false))else some (Step.next ((i+1:Nat):Int)):Option (Step Int (Out Unit Bool)))=some (stepO (gU i b) i):=by
 subst h;unfold gU;cases okU i b<;>rfl
theorem okU_a(i:Nat)(b:UInt8):((!((decide ((b.toNat:Int)>=97))&&(decide ((b.toNat:Int)<=122))))&&(((i:Int)==0)||(!((((decide ((b.toNat:Int)>=48))&&(decide ((b.toNat:Int)<=57)))||((b.toNat:Int)==45))||((b.toNat:Int)==95))))) = !(okU i b):=by
 unfold okU;rw[Bool.eq_iff_iff];simp only[qAn,Bool.or_eq_true,Bool.not_eq_true',Bool.and_eq_false_iff,Bool.or_eq_false_iff,qDf,beq_iff_eq,beq_eq_false_iff_ne,Bool.not_eq_false'];omega
theorem tM_(s:Str)(h:s.length<=9223372036854775807):ak_ (if_ s) BIG 0=some (dK_ (aL_ gU 0 s)):=by
 refine aU_ s gU (bB_ h) (λ i hi => ?_) ?_
 .unfold if_;rw[kf_ hi,br_ hi,au_ (by omega)];simp only[cond_true,qBs];exact gU_if i s[i] (okU_a i s[i])
 .unfold if_;rw[bA_];rfl
theorem pk_(s:Str)(h:s.length<=9223372036854775807):eZ_ s=some (vU s):=by
 unfold eZ_ vU;have e1:(s==[]) = !decide (1<=s.length):=by cases s with|nil=>rfl|cons a l=>rw[Bool.eq_iff_iff];simp
 have e2:decide ((s.length:Int)>32) = !decide (s.length<=32):=by rw[Bool.eq_iff_iff];simp only[qDe,Bool.not_eq_true',qDf];omega
 rw[e1,e2];cases decide (1<=s.length)with
 | false=>rfl
 | true =>
  cases decide (s.length<=32)with
  | false=>rfl
  | true =>
   refine ac_ rfl ?_;exact bl_ (tM_ s h) (λ _=>rfl) rfl
theorem sn_(s:Str)(h:s.length<=9223372036854775807):ak_ (g8_ s) BIG 0=some (dK_ (aL_ gU 0 s)):=by
 refine aU_ s gU (bB_ h) (λ i hi => ?_) ?_
 .unfold g8_;rw[kf_ hi,br_ hi,au_ (by omega)];simp only[cond_true,qBs];refine gU_if i s[i] ?_;rw[←okU_a];rw[Bool.eq_iff_iff];simp only[qAn,Bool.or_eq_true,Bool.not_eq_true',Bool.and_eq_false_iff,Bool.or_eq_false_iff,qDf,beq_iff_eq,beq_eq_false_iff_ne,bne_iff_ne,ne_eq]
 .unfold g8_;rw[bA_];rfl
theorem rL_(s:Str)(h:s.length<=9223372036854775807):hY_ s=some (vU s):=by
 unfold hY_ vU;have e1:decide ((s.length:Int)<1) = !decide (1<=s.length):=by rw[Bool.eq_iff_iff];simp only[qDe,Bool.not_eq_true',qDf];omega
 have e2:decide ((s.length:Int)>32) = !decide (s.length<=32):=by rw[Bool.eq_iff_iff];simp only[qDe,Bool.not_eq_true',qDf];omega
 rw[e1,e2];cases decide (1<=s.length)with
 | false=>rfl
 | true =>
  cases decide (s.length<=32)with
  | false=>rfl
  | true =>
   refine ac_ rfl ?_;exact bl_ (sn_ s h) (λ _=>rfl) rfl
abbrev cY_(name:Str)(u:Xf):Bool:=u.Xy==name
def dS_(l:List Xf)(name:Str):Xf×Bool:=match l.find? (cY_ name)with|some u=>(u,true)|none=>(Xf.mk [] [] [],false)
theorem kO_(l:List Xf)(name:Str)(h:l.length<=1000):iB_ l name=some (at_ (cY_ name) l):=by
 rw[←i3_];refine bl_ (aU_ l _ (bB_ (by omega)) (λ i hi => ?_) ?_) (λ _=>rfl) rfl
 .unfold nF_;rw[as_ hi,br_ hi,au_ (by omega)];simp only[cond_true,qBs];unfold cY_;cases l[i].Xy==name<;>rfl
 .unfold nF_;rw[bA_];rfl
def e0_(l:List Xf):Prop:=∀u∈l,u.Yp.length<=1000
theorem wq_(l:List Xf)(name:Str)(h:l.length<=1000):o8_ l name=some (dS_ l name):=by
 unfold o8_ dS_;refine aa_ (kO_ l name h) ?_;rw[ju_];cases hf:l.find? (cY_ name)with
 | none=>rfl
 | some u =>
  refine ac_ rfl ?_;refine aa_ ((mN_ (cY_ name) l (by rw[hf];rfl)).trans hf) rfl
theorem qA_(l:List Xf)(name:Str)(h:l.length<=1000)(hm:e0_ l):i0_ l name=some (dS_ l name):=by
 have e:dS_ l name=((l.find? (cY_ name)).map λ u=>(u,true)).getD (Xf.mk [] [] [],false):=by
  unfold dS_;cases l.find? (cY_ name)<;>rfl
 rw[e,←i2_ _ _ 0];refine bl_ (aU_ l _ (bB_ (by omega)) (λ i hi => ?_) ?_) (λ _=>rfl) rfl
 .unfold gP_;rw[as_ hi,br_ hi,au_ (by omega)];simp only[cond_true,qBs];unfold cY_;cases l[i].Xy==name with
  | false=>rfl
  | true =>
   refine ah_ rfl ?_;refine aa_ (nM_ (hm _ (List.getElem_mem hi))) rfl
 .unfold gP_;rw[bA_];rfl
theorem rM_(l:List Xf)(name:Str)(hm:e0_ l):(dS_ l name).1.Yp.length<=1000:=by
 unfold dS_;cases hf:l.find? (cY_ name)with
 | none=>exact Nat.zero_le _
 | some u=>exact hm u (List.mem_of_find?_eq_some hf)
def hasM(l:List Str)(s:Str):Bool:=l.any λ m=>m==s
def dT_(l:List Xf)(user group:Str):Bool:=user==group||hasM (dS_ l group).1.Yp user
theorem index_texts(l:List Str)(s:Str)(h:l.length<=1000):eb_ l s=some (at_ (λ m=>m==s) l):=by
 rw[←i3_];refine bl_ (aU_ l _ (bB_ (by omega)) (λ i hi => ?_) ?_) (λ _=>rfl) rfl
 .unfold dq_;rw[as_ hi,br_ hi,au_ (by omega)];simp only[cond_true,qBs];have e:(s==l[i])=(l[i]==s):=by rw[Bool.eq_iff_iff,beq_iff_eq,beq_iff_eq];exact⟨Eq.symm,Eq.symm⟩
  rw[e];cases l[i]==s<;>rfl
 .unfold dq_;rw[bA_];rfl
theorem at_any{α:Type}(p:α->Bool)(l:List α):decide (at_ p l>=0)=l.any p:=by
 have h:=ju_ p l;have e:l.any p=(l.find? p).isSome:=by
  rw[Bool.eq_iff_iff,List.find?_isSome,List.any_eq_true]
 rw[e];have:decide (at_ p l>=0) = !decide (at_ p l<0):=by rw[Bool.eq_iff_iff];simp
 rw[this,h];cases l.find? p<;>rfl
theorem uY_(l:List Str)(s:Str)(h:l.length<=1000):bW_ l s=some (hasM l s):=by
 unfold bW_ hasM;refine aa_ (index_texts l s h) ?_;rw[at_any]
theorem hs_(l:List Xf)(user group:Str)(h:l.length<=1000)(hm:e0_ l):eh_ l user group=some (dT_ l user group):=by
 unfold eh_ dT_;cases user==group with
 | true=>rfl
 | false =>
  refine ac_ rfl ?_;refine aa_ (qA_ l group h hm) ?_;have hs:=rM_ l group hm;have hz:(dS_ l group).2=false->(dS_ l group).1.Yp=[]:=by
   unfold dS_;cases l.find? (cY_ group)with
   | none=>exact λ _=>rfl
   | some u=>exact λ h=>nomatch h
  cases h2:(dS_ l group).2 with
  | true=>exact aa_ (ah_ rfl (aa_ (uY_ _ user hs) rfl)) rfl
  | false=>rw[hz h2];exact aa_ (a:=false) rfl rfl
theorem tN_(l:List Xf)(user group:Str)(h:l.length<=1000)(hm:e0_ l):mG_ l user group=some (dT_ l user group):=by
 unfold mG_ dT_;cases user==group with
 | true=>rfl
 | false =>
  refine ac_ rfl ?_;refine aa_ (wq_ l group h) ?_;have hs:=rM_ l group hm;generalize dS_ l group=q at hs;have e:(false||hasM q.1.Yp user)=((q.1.Yp.find? λ m=>m==user).map λ _=>true).getD false:=by
   unfold hasM;rw[Bool.false_or,Bool.eq_iff_iff,List.any_eq_true];cases hf:q.1.Yp.find? λ m=>m==user with
   | none =>
    rw[List.find?_eq_none]at hf;simp only[Option.map_none,Option.getD_none];exact⟨fun⟨x,h1,h2⟩=>absurd h2 (hf x h1),λ h=>nomatch h⟩
   | some x=>exact⟨λ _=>rfl,λ _=>⟨x,List.mem_of_find?_eq_some hf,by simpa using List.find?_some hf⟩⟩
  rw[e,←i2_ _ _ 0];refine bl_ (aU_ _ _ (bB_ (by omega)) (λ i hi => ?_) ?_) (λ _=>rfl) rfl
  .unfold jr_;rw[as_ hi,br_ hi,au_ (by omega)];simp only[cond_true,qBs];cases q.1.Yp[i]==user<;>rfl
  .unfold jr_;rw[bA_];rfl
theorem eqS_iff(x y:Str):eqS x y=true↔x=y:=beq_iff_eq
def Cnt(ks:List Str)(vs:List Int)(l:List Xf):Prop:=ks.length=vs.length/\∀n,aG_ eqS ks vs n 0=((l.countP (cY_ n):Nat):Int)
theorem Cnt.put{ks:List Str}{vs:List Int}{l:List Xf}{u:Xf}(h:Cnt ks vs l)(hl:l.length<=1000):Cnt (aQ_ eqS ks u.Xy) (bm_ eqS ks vs u.Xy (w64 (aG_ eqS ks vs u.Xy 0+1))) (l++[u]):=by
 refine⟨pf_ h.1,λ n => ?_⟩;have hc:=List.countP_le_length (p:=cY_ u.Xy) (l:=l);rw[pg_ eqS_iff h.1,h.2 u.Xy,h.2 n,au_ (by omega),List.countP_append];have e:List.countP (cY_ n) [u]=if u.Xy==n then 1 else 0:=by simp[List.countP_cons,cY_]
 rw[e];have e2:eqS n u.Xy=(u.Xy==n):=by unfold eqS;rw[Bool.eq_iff_iff,beq_iff_eq,beq_iff_eq];exact⟨Eq.symm,Eq.symm⟩
 rw[e2];cases hn:u.Xy==n with
 | true=>obtain rfl:=beq_iff_eq.1 hn;rfl
 | false=>rfl
def dU_(l:List Xf)(n:Str):Bool:=l.any (cY_ n)
def gM(l:List Xf)(ms:List Str)(k:Nat)(m:Str):Option Int:=if !(dU_ l m)||(decide (0<k) && !(Op.bytesLess (ms.getD (k-1) []) m))then some 26 else none
def memE(l:List Xf)(ms:List Str):Int:=(aL_ (gM l ms) 0 ms).getD 0
def gC(l:List Xf)(i:Nat)(u:Xf):Option Int:=if !(vU u.Xy)then some 25 else if(l.take i).any (cY_ u.Xy)then some 7 else if !(u.Yt==[]) && !(dU_ l u.Yt)then some 26 else if memE l u.Yp != 0 then some (memE l u.Yp)else none
def k6_(l:List Xf):Int:=if l.length>64 then 22 else(aL_ (gC l) 0 l).getD 0
def mO_(l:List Xf):Prop:=∀u∈l,u.Xy.length<=9223372036854775807
theorem any_find{α:Type}(p:α->Bool)(l:List α):l.any p = !((l.find? p).isNone):=by
 rw[Bool.eq_iff_iff,List.any_eq_true];cases hf:l.find? p with
 | none =>
  rw[List.find?_eq_none]at hf;exact⟨fun⟨x,h1,h2⟩=>absurd h2 (hf x h1),λ h=>nomatch h⟩
 | some x=>exact⟨λ _=>rfl,λ _=>⟨x,List.mem_of_find?_eq_some hf,by simpa using List.find?_some hf⟩⟩
theorem at_absent(l:List Xf)(n:Str):decide (at_ (cY_ n) l<0) = !(dU_ l n):=by
 unfold dU_;rw[ju_,any_find,Bool.not_not]
theorem at_before(l:List Xf)(i:Nat)(hi:i<l.length):decide (at_ (cY_ l[i].Xy) l<(i:Int))=(l.take i).any (cY_ l[i].Xy):=by
 rw[Bool.eq_iff_iff,qDe,List.any_eq_true];rcases kg_ (cY_ l[i].Xy) l with⟨h1,_⟩|⟨j,x,h1,h2,h3,h4,h5⟩
 .rw[List.find?_eq_none]at h1;exact absurd (beq_self_eq_true l[i].Xy) (h1 _ (List.getElem_mem hi))
 .rw[h2];constructor
  .intro h;have hj:j<i:=by omega
   refine⟨x,?_,h4⟩;rw[List.mem_take_iff_getElem];have hlt:=(List.getElem?_eq_some_iff.1 h3).1;exact⟨j,by omega,(List.getElem?_eq_some_iff.1 h3).2⟩
  .rintro⟨y,hy,hp⟩;rw[List.mem_take_iff_getElem]at hy;obtain⟨q,hq,rfl⟩:=hy;rcases Nat.lt_or_ge q j with h|h
   .have:=h5 q _ h (List.getElem?_eq_getElem (by omega));rw[hp]at this;cases this
   .omega
theorem wr_(l:List Xf)(u:Xf)(h:l.length<=1000)(hu:u.Yp.length<=1000):ak_ (fh_ u l) BIG 0=some (dK_ (aL_ (gM l u.Yp) 0 u.Yp)):=by
 refine aU_ _ _ (bB_ (by omega)) (λ i hi => ?_) ?_
 .unfold fh_;rw[as_ hi,br_ hi,au_ (by omega)];simp only[cond_true,qBs];refine aa_ (kO_ l _ h) ?_;rw[at_absent];unfold gM;cases hp:dU_ l u.Yp[i]with
  | false=>rfl
  | true =>
   rcases Nat.eq_zero_or_pos i with rfl|h0
   .rfl
   .have e:decide ((i:Int)>0)=true:=by simpa using h0
    have e2:decide (0<i)=true:=by simpa using h0
    rw[e,e2,iE_ [] h0 hi (by omega)];simp only[Bool.not_true,cond_false,cond_true,qBs,Bool.false_or,Bool.true_and];cases Op.bytesLess (u.Yp.getD (i-1) []) u.Yp[i]<;>rfl
 .unfold fh_;rw[bA_];rfl
theorem ref05_one(l:List Xf)(i:Nat)(hi:i<l.length)(h:l.length<=1000)(hm:e0_ l)(hs:mO_ l):g9_ l (i:Int)=some ((gC l i l[i]).getD 0):=by
 unfold g9_ gC;rw[as_ hi];refine aa_ rfl (aa_ (rL_ _ (hs _ (List.getElem_mem hi))) ?_);cases hv:vU l[i].Xy with
 | false=>rfl
 | true =>
  refine ac_ rfl (aa_ (kO_ l _ h) ?_);rw[at_before l i hi];cases hb:(l.take i).any (cY_ l[i].Xy)with
  | true=>rfl
  | false =>
   refine ac_ rfl ?_;have e:Option.bind (bif(!(l[i].Yt==[]))then Option.bind (iB_ l l[i].Yt) fun(y4:Int)=>some (decide (y4<0))else some false)=Option.bind (some (!(l[i].Yt==[]) && !(dU_ l l[i].Yt)):Option Bool) (β:=Int):=by
    congr 1
    cases l[i].Yt==[]with
    | true=>rfl
    | false =>
     refine ah_ rfl (aa_ (kO_ l _ h) ?_);rw[at_absent];rfl
   rw[e];refine aa_ rfl ?_;cases hl : !(l[i].Yt==[]) && !(dU_ l l[i].Yt)with
   | true=>rfl
   | false =>
    refine ac_ rfl ?_;refine(bl_ (wr_ l l[i] h (hm _ (List.getElem_mem hi))) (λ _=>rfl) rfl).trans ?_;show some (memE l l[i].Yp)=_;cases hz:memE l l[i].Yp != 0 with
    | true=>simp
    | false=>simp;simpa using hz
theorem gC_ne(l:List Xf)(i:Nat)(u:Xf):(if(gC l i u).getD 0 != 0 then some ((gC l i u).getD 0)else none)=gC l i u:=by
 unfold gC;split
 .rfl
 .split
  .rfl
  .split
   .rfl
   .split
    .rename_i h;simpa using h
    .rfl
theorem uZ_(l:List Xf)(h:l.length<=1000)(hm:e0_ l)(hs:mO_ l):kB_ l=some (k6_ l):=by
 unfold kB_ k6_;by_cases hl:l.length>64
 .rw[if_pos hl];exact ah_ (by simp;omega) rfl
 .rw[if_neg hl];refine ac_ (by simp;omega) ?_;refine bl_ (aU_ l _ (bB_ (by omega)) (λ i hi => ?_) ?_) (λ _=>rfl) rfl
  .unfold j8_;rw[br_ hi,au_ (by omega)];refine ah_ rfl (aa_ (ref05_one l i hi h hm hs) ?_);rw[←gC_ne l i l[i]];cases hz:(gC l i l[i]).getD 0 != 0 with
   | true=>simp[hz,stepO]
   | false=>simp[stepO]
  .unfold j8_;rw[bA_];rfl
theorem rt_(l:List Xf)(ms:List Str)(ks:List Str)(vs:List Int)(hc:Cnt ks vs l)(hu:ms.length<=1000):jm_ (ks,vs) ms=some (memE l ms,ks,vs):=by
 have hz:∀n,(aG_ eqS ks vs n 0==0) = !(dU_ l n):=λ n=>by
  rw[hc.2 n];unfold dU_;rw[Bool.eq_iff_iff,beq_iff_eq,Bool.not_eq_true',List.any_eq_false];have:((l.countP (cY_ n):Nat):Int)=0↔l.countP (cY_ n)=0:=by omega
  rw[this,List.countP_eq_zero]
 have hl:ak_ (gv_ ms (ks,vs)) BIG 0=some (dK_ ((aL_ (gM l ms) 0 ms).map λ e=>(e,ks,vs))):=by
  have hmap:∀(k:Nat) (q:List Str),(aL_ (gM l ms) k q).map (λ e=>(e,ks,vs))=aL_ (λ i m=>(gM l ms i m).map λ e=>(e,ks,vs)) k q:=by
   intro k q
   induction q generalizing k with
   | nil=>rfl
   | cons a q ih =>
    simp only[aL_];cases gM l ms k a with
    | some r=>rfl
    | none=>exact ih (k+1)
  rw[hmap];refine aU_ _ _ (bB_ (by omega)) (λ i hi => ?_) ?_
  .unfold gv_;rw[as_ hi,br_ hi,au_ (by omega)];simp only[cond_true,qBs];rw[hz];unfold gM;cases hp:dU_ l ms[i]with
   | false=>rfl
   | true =>
    rcases Nat.eq_zero_or_pos i with rfl|h0
    .rfl
    .have e:decide ((i:Int)>0)=true:=by simpa using h0
     have e2:decide (0<i)=true:=by simpa using h0
     rw[e,e2,iE_ [] h0 hi (by omega)];simp only[Bool.not_true,cond_false,cond_true,qBs,Bool.false_or,Bool.true_and];cases Op.bytesLess (ms.getD (i-1) []) ms[i]<;>rfl
  .unfold gv_;rw[bA_];rfl
 unfold jm_ memE;rw[hl];cases aL_ (gM l ms) 0 ms<;>rfl
theorem sp_(l:List Xf)(h:l.length<=1000):∃ks vs,ak_ (ig_ l) BIG (0,([]:List Str),([]:List Int))=some (ks,vs)/\Cnt ks vs l:=by
 let f:List Str×List Int->Nat->Xf->List Str×List Int:=λ s _ u=>(aQ_ eqS s.1 u.Xy,bm_ eqS s.1 s.2 u.Xy (w64 (aG_ eqS s.1 s.2 u.Xy 0+1)))
 have key:∀(i:Nat) (q:List Xf) (s:List Str×List Int) (p:List Xf),p.length+q.length<=1000->Cnt s.1 s.2 p->Cnt (fi_ f s i q).1 (fi_ f s i q).2 (p++q):=by
  intro i q
  induction q generalizing i with
  | nil=>intro s p _ hc;simpa[fi_]using hc
  | cons u q ih =>
   intro s p hl hc;simp only[qLc]at hl;have:=ih (i+1) (f s i u) (p++[u]) (by simp;omega) (hc.put (by omega));simpa[fi_]using this
 refine⟨(fi_ f ([],[]) 0 l).1,(fi_ f ([],[]) 0 l).2,?_,by simpa using key 0 l ([],[]) [] (by simpa using h) ⟨rfl,λ n=>rfl⟩⟩;refine jt_ (τ:=Int×List Str×List Int) l f (λ i s=>((i:Int),s.1,s.2)) (λ _ _=>True) (λ s=>(s.1,s.2)) ([],[]) (bB_ (by omega)) trivial (λ i s hi _=>⟨?_,trivial⟩) (λ s _ => ?_)
 .unfold ig_;simp only;rw[br_ hi,as_ hi,au_ (by omega)];rfl
 .unfold ig_;simp only;rw[bA_];rfl
theorem ws_(l:List Xf)(h:l.length<=1000)(hm:e0_ l)(hs:mO_ l):hg_ l=some (k6_ l):=by
 unfold hg_ k6_;by_cases hl:l.length>64
 .rw[if_pos hl];exact ah_ (by simp;omega) rfl
 .rw [if_neg hl];refine ac_ (by simp;omega) ?_;obtain⟨ka,va,h1,hca⟩:=sp_ l h;refine aa_ h1 ?_;refine bl_ (o:=aL_ (gC l) 0 l) ?_ (λ _=>rfl) rfl;refine fe_ (body:=f1_ l) (J:=λ i t b=>∃ks vs,t=((i:Int),ka,va,ks,vs)/\Cnt ks vs (l.take i)/\b=dK_ (aL_ (gC l) i (l.drop i))) l.length (bB_ (by omega)) (λ t b hJ => ?_) (λ i t b hi hJ => ?_) ⟨[],[],rfl,⟨rfl,λ n=>by simp[aG_]⟩,by simp⟩
  .obtain⟨ks,vs,rfl,_,rfl⟩:=hJ;unfold f1_;simp only;rw[bA_];simp[aL_,dK_]
  .obtain⟨ks,vs,rfl,hc,rfl⟩:=hJ;have hmem:=List.getElem_mem hi;have hput:=hc.put (u:=l[i]) (by rw[List.length_take];omega);rw[←iq_ hi]at hput;rw[List.drop_eq_getElem_cons hi];have hpos:decide (aG_ eqS ks vs l[i].Xy 0>0)=(l.take i).any (cY_ l[i].Xy):=by
    rw[hc.2 l[i].Xy,Bool.eq_iff_iff,qDe,List.any_eq_true];have:((List.countP (cY_ l[i].Xy) (l.take i):Nat):Int)>0↔0<List.countP (cY_ l[i].Xy) (l.take i):=by omega
    rw[this,List.countP_pos_iff]
   have hlead:Option.bind (bif(!(l[i].Yt==[]))then some ((aG_ eqS ka va l[i].Yt 0)==0)else some false)=Option.bind (some (!(l[i].Yt==[]) && !(dU_ l l[i].Yt)):Option Bool) (β:=Step (Int×(List Str)×(List Int)×(List Str)×(List Int)) (Out Unit Int)):=by
    congr 1
    cases l[i].Yt==[]with
    | true=>rfl
    | false =>
     have:(aG_ eqS ka va l[i].Yt 0==0) = !(dU_ l l[i].Yt):=by
      rw[hca.2 l[i].Yt];unfold dU_;rw[Bool.eq_iff_iff,beq_iff_eq,Bool.not_eq_true',List.any_eq_false];have:((l.countP (cY_ l[i].Yt):Nat):Int)=0↔l.countP (cY_ l[i].Yt)=0:=by omega
      rw[this,List.countP_eq_zero]
     rw[this];rfl
   have hbody:f1_ l ((i:Int),ka,va,ks,vs)=some (match gC l i l[i]with|some r => .done (.ret r)|none => .next (((i+1:Nat):Int),ka,va,aQ_ eqS ks l[i].Xy,bm_ eqS ks vs l[i].Xy (w64 (aG_ eqS ks vs l[i].Xy 0+1)))):=by
    unfold f1_ gC;simp only;rw[br_ hi,as_ hi];refine ah_ rfl (aa_ rfl (aa_ (pk_ _ (hs _ hmem)) ?_));cases vU l[i].Xy with
    | false=>rfl
    | true =>
     refine ac_ rfl ?_;rw[hpos];cases(l.take i).any (cY_ l[i].Xy)with
     | true=>rfl
     | false =>
      refine ac_ rfl ?_;rw[hlead];refine aa_ rfl ?_;cases !(l[i].Yt==[]) && !(dU_ l l[i].Yt)with
      | true=>rfl
      | false =>
       refine ac_ rfl (aa_ (rt_ l _ ka va hca (hm _ hmem)) ?_);simp only;cases hz:memE l l[i].Yp != 0 with
       | true=>simp
       | false=>simp only[cond_false];rw[au_ (by omega)];rfl
   cases hg:gC l i l[i]with
   | some r =>
    rw[hg]at hbody;exact .inl (by rw[hbody];simp[aL_,hg,dK_])
   | none =>
    rw[hg]at hbody;exact .inr ⟨_,hbody,_,_,rfl,hput,by simp[aL_,hg]⟩
theorem has_and(x:Int)(k:Nat)(hk:k<63)(h1:x<=9223372036854775807):(decide (x>=0)&&(bR_ .i64 x ((2^k:Nat):Int)) != 0)=an_ x k:=by
 by_cases h0:0<=x
 .obtain⟨n,rfl⟩:∃n:Nat,x=(n:Int):=⟨x.toNat,by omega⟩;have hk2:2^k<2^63:=Nat.pow_lt_pow_right (by omega) hk;have h0':decide ((n:Int)>=0)=true:=by simp
  have e1:(((n&&&2^k:Nat):Int) != 0)=(n&&&2^k != 0):=by
   rw[Bool.eq_iff_iff];simp only[bne_iff_ne,ne_eq];omega
  rw[h0',ke_ (by omega) hk2,e1,bit_and,iF_,tbit];rfl
 .have h0':decide (x>=0)=false:=by simp;omega
  rw[h0',iG_ (by omega)];rfl
theorem h5_(x:Int)(k:Nat)(hk:k<63)(h1:x<=9223372036854775807):aq_ x ((2^k:Nat):Int)=some (an_ x k):=congrArg some (has_and x k hk h1)
theorem fC_(x:Int)(k:Nat)(hk:k<63)(h1:x<=9223372036854775807):eW_ x ((2^k:Nat):Int)=some (an_ x k):=rh_ x k hk h1
theorem jx_(x:Int)(k:Nat)(hk:k<63)(h1:x<=9223372036854775807):gT_ x ((2^k:Nat):Int)=some (an_ x k):=rh_ x k hk h1
theorem big_succ:BIG=18446744073709551610+6:=rfl
theorem orI_i64{a b:Nat}(ha:a<2^63)(hb:b<2^63):orI .i64 a b=((a|||b:Nat):Int):=by
 have h1:a|||b<2^63:=Nat.or_lt_two_pow ha hb
 show IntKind.i64.wrap (((BitVec.ofInt 64 (a:Int)|||BitVec.ofInt 64 (b:Int)).toNat:Nat):Int)=_;rw[BitVec.toNat_or,fJ_ (by omega),fJ_ (by omega)];exact eN_ ⟨by omega,by omega⟩
def grB(n:Nat)(mem own:Bool)(i:Nat):Bool:=(n.testBit i||(n.testBit (i+3)&&mem))||(n.testBit (i+6)&&own)
def allowsN(n:Nat)(mem own:Bool)(w:Nat):Bool:=(!(w.testBit 0)||grB n mem own 0)&&((!(w.testBit 1)||grB n mem own 1)&&(!(w.testBit 2)||grB n mem own 2))
def om_(l:List Xf)(user uid gid:Str)(mode want:Int):Bool:=decide (0<=mode)&&(decide (0<=want)&&(decide (want<=7)&&allowsN mode.toNat (dT_ l user gid) (user==uid) want.toNat))
theorem and_self_iff(a w:Nat)(hw:w<8):(a&&&w==w)=((!(w.testBit 0)||a.testBit 0)&&((!(w.testBit 1)||a.testBit 1)&&(!(w.testBit 2)||a.testBit 2))):=by
 rw[Bool.eq_iff_iff,beq_iff_eq];constructor
 .intro h;have k:∀i,(!(w.testBit i)||a.testBit i)=true:=λ i=>by
   have:=congrArg (λ q=>q.testBit i) h;simp only[Nat.testBit_and]at this;cases hw:w.testBit i<;>cases ha:a.testBit i<;>simp_all
  simp only[k,Bool.and_self]
 .intro h;simp only[qAn]at h
  apply Nat.eq_of_testBit_eq;intro i;rw[Nat.testBit_and];have k:∀{x y:Bool},(!x||y)=true->(y&&x)=x:=fun{x y}=>by cases x<;>cases y<;>simp
  match i with
  | 0=>exact k h.1
  | 1=>exact k h.2.1
  | 2=>exact k h.2.2
  | i+3 =>
   have:w.testBit (i+3)=false:=Nat.testBit_lt_two_pow (Nat.lt_of_lt_of_le (by omega:w<2^3) (Nat.pow_le_pow_right (by omega) (by omega)));simp[this]
theorem mP_(n i:Nat)(hi:i<3):(n%8).testBit i=n.testBit i:=by
 rw[show(8:Nat)=2^3 from rfl,Nat.testBit_mod_two_pow];simp[hi]
theorem granted_bits(n:Nat)(mem own:Bool)(i:Nat)(hi:i<3):((if own then(if mem then n%8|||n/8%8 else n%8)|||n/64%8 else(if mem then n%8|||n/8%8 else n%8)):Nat).testBit i=grB n mem own i:=by
 have h8:(n/8%8).testBit i=n.testBit (i+3):=by rw[mP_ _ _ hi,show(8:Nat)=2^3 from rfl,Nat.testBit_div_two_pow]
 have h64:(n/64%8).testBit i=n.testBit (i+6):=by rw[mP_ _ _ hi,show(64:Nat)=2^6 from rfl,Nat.testBit_div_two_pow]
 unfold grB;cases mem<;>cases own<;>simp[Nat.testBit_or,h8,h64,mP_ _ _ hi]
theorem on_(l:List Xf)(user uid gid:Str)(mode want:Int)(h:l.length<=1000)(hm:e0_ l)(h1:mode<=9223372036854775807):fc_ l user uid gid mode want=some (om_ l user uid gid mode want):=by
 unfold fc_ om_;by_cases h0:0<=mode/\0<=want/\want<=7
 .obtain⟨n,rfl⟩:∃n:Nat,mode=(n:Int):=⟨mode.toNat,by omega⟩;obtain⟨w,rfl⟩:∃w:Nat,want=(w:Int):=⟨want.toNat,by omega⟩;refine ac_ (by simp;omega) ?_;rw[hs_ l user gid h hm];have d0:(n:Int).tmod 8=((n%8:Nat):Int):=rfl;have d8:(IntKind.i64.wrap ((n:Int).tdiv 8)).tmod 8=((n/8%8:Nat):Int):=by
   rw[show(n:Int).tdiv 8=((n/8:Nat):Int)from rfl,eN_ ⟨by omega,by omega⟩];rfl
  have d64:(IntKind.i64.wrap ((n:Int).tdiv 64)).tmod 8=((n/64%8:Nat):Int):=by
   rw[show(n:Int).tdiv 64=((n/64:Nat):Int)from rfl,eN_ ⟨by omega,by omega⟩];rfl
  rw[d0,d8,d64];generalize dT_ l user gid=mem;have b1:n%8<8:=Nat.mod_lt _ (by omega);have b2:n/8%8<8:=Nat.mod_lt _ (by omega);have b3:n/64%8<8:=Nat.mod_lt _ (by omega);have b4:n%8|||n/8%8<2^3:=Nat.or_lt_two_pow (by omega) (by omega)
  refine aa_ (a:=((if mem then n%8|||n/8%8 else n%8:Nat):Int)) ?_ ?_
  .refine aa_ rfl ?_;cases mem with
   | true=>rw[cond_true,orI_i64 (by omega) (by omega)];rfl
   | false=>rfl
  .have b5:(if mem then n%8|||n/8%8 else n%8:Nat)<2^3:=by split<;>omega
   have hg:=λ own i hi=>granted_bits n mem own i hi
   generalize(if mem then n%8|||n/8%8 else n%8:Nat)=q at b5 hg;have b6:q|||n/64%8<2^3:=Nat.or_lt_two_pow b5 (by omega)
   refine aa_ (a:=((if user==uid then q|||n/64%8 else q:Nat):Int)) ?_ ?_
   .cases user==uid with
    | true=>rw[cond_true,orI_i64 (by omega) (by omega)];rfl
    | false=>rfl
   .have hg':=hg (user==uid);have b7:(if user==uid then q|||n/64%8 else q:Nat)<8:=by split<;>omega
    generalize(if user==uid then q|||n/64%8 else q:Nat)=g at hg' b7;rw[ke_ (by omega) (by omega)];have e:(((g&&&w:Nat):Int)==(w:Int))=(g&&&w==w):=by rw[Bool.eq_iff_iff,beq_iff_eq,beq_iff_eq];omega
    rw[e,and_self_iff g w (by omega),hg' 0 (by omega),hg' 1 (by omega),hg' 2 (by omega)];have c1:decide (0<=(n:Int))=true:=by simp
    have c2:decide (0<=(w:Int))=true:=by simp
    have c3:decide ((w:Int)<=7)=true:=by simp;omega
    rw[c1,c2,c3,qTn,qTn];rfl
 .refine ah_ (by simp;omega) ?_;have:(decide (0<=mode)&&(decide (0<=want)&&decide (want<=7)))=false:=by
   cases h5:(decide (0<=mode)&&(decide (0<=want)&&decide (want<=7)))with
   | false=>rfl
   | true=>simp at h5;omega
  congr 1
  revert this;cases decide (0<=mode)<;>cases decide (0<=want)<;>cases decide (want<=7)<;>simp
theorem ref06_body(l:List Xf)(user uid gid:Str)(n w i:Nat)(hi:i<=2)(h:l.length<=1000)(hm:e0_ l)(hn:n<2^63)(hw:w<8) :
  js_ (n:Int) l user gid uid (w:Int) ((2^i:Nat):Int)=some (if !(w.testBit i)||grB n (dT_ l user gid) (user==uid) i then .next ((2^(i+1):Nat):Int)else .done (.ret false)):=by
 have hp:2^i<=4:=by
  have:2^i<=2^2:=Nat.pow_le_pow_right (by omega) hi;omega
 have hp1:=Nat.two_pow_pos i;have e8:w64 (8*((2^i:Nat):Int))=((2^(i+3):Nat):Int):=by
  rw[Nat.pow_add];rw[ap_ ⟨by omega,by omega⟩];omega
 have e64:w64 (64*((2^i:Nat):Int))=((2^(i+6):Nat):Int):=by
  rw[Nat.pow_add];rw[ap_ ⟨by omega,by omega⟩];omega
 have e2:w64 (2*((2^i:Nat):Int))=((2^(i+1):Nat):Int):=by
  rw[Nat.pow_add];rw[ap_ ⟨by omega,by omega⟩];omega
 have hb:=λ k hk=>jx_ (n:Int) k hk (by omega)
 have hq:quoI .i64 (w:Int) ((2^i:Nat):Int)=some ((w/2^i:Nat):Int):=by
  unfold quoI;rw[if_neg (by omega),show(w:Int).tdiv ((2^i:Nat):Int)=((w/2^i:Nat):Int)from rfl];have:=Nat.div_le_self w (2^i);generalize w/2^i=q at this;rw[eN_ ⟨by omega,by omega⟩]
 have ht:(((w/2^i:Nat):Int).tmod 2==1)=w.testBit i:=by
  rw[←tbit,show((w/2^i:Nat):Int).tmod 2=((w/2^i%2:Nat):Int)from rfl,Bool.eq_iff_iff,beq_iff_eq,beq_iff_eq];omega
 unfold js_;rw[e8,e64,e2,hb i (by omega),hb (i+3) (by omega),hb (i+6) (by omega),hq];simp only[iF_];refine ah_ (by rw[qDe];omega) ?_;rw[tN_ l user gid h hm];simp only[qBs];rw[ht];unfold grB;cases n.testBit i<;>cases n.testBit (i+3)<;>cases dT_ l user gid<;>cases n.testBit (i+6)<;>cases user==uid<;>cases w.testBit i<;>rfl
theorem tO_(l:List Xf)(user uid gid:Str)(mode want:Int)(h:l.length<=1000)(hm:e0_ l)(h1:mode<=9223372036854775807):mH_ l user uid gid mode want=some (om_ l user uid gid mode want):=by
 unfold mH_ om_;by_cases h0:0<=mode/\0<=want/\want<=7
 .obtain⟨n,rfl⟩:∃n:Nat,mode=(n:Int):=⟨mode.toNat,by omega⟩;obtain⟨w,rfl⟩:∃w:Nat,want=(w:Int):=⟨want.toNat,by omega⟩;refine ac_ (by simp;omega) ?_;have c1:decide (0<=(n:Int))=true:=by simp
  have c2:decide (0<=(w:Int))=true:=by simp
  have c3:decide ((w:Int)<=7)=true:=by simp;omega
  rw[c1,c2,c3,qTn,qTn];have hb:=λ i hi=>ref06_body l user uid gid n w i hi h hm (by omega) (by omega)
  unfold allowsN;rw[big_succ];have b0:=hb 0 (by omega);have b1:=hb 1 (by omega);have b2:=hb 2 (by omega);cases k0:(!(w.testBit 0)||grB n (dT_ l user gid) (user==uid) 0)with
  | false=>rw[k0]at b0;exact aa_ (aZ_ b0) rfl
  | true =>
   rw[k0]at b0;cases k1:(!(w.testBit 1)||grB n (dT_ l user gid) (user==uid) 1)with
   | false=>rw[k1]at b1;exact aa_ (bL_ b0 (aZ_ b1)) rfl
   | true =>
    rw[k1]at b1;cases k2:(!(w.testBit 2)||grB n (dT_ l user gid) (user==uid) 2)with
    | false=>rw[k2]at b2;exact aa_ (bL_ b0 (bL_ b1 (aZ_ b2))) rfl
    | true=>rw[k2]at b2;exact aa_ (bL_ b0 (bL_ b1 (bL_ b2 (aZ_ rfl)))) rfl
 .refine ah_ (by simp;omega) ?_;have:(decide (0<=mode)&&(decide (0<=want)&&decide (want<=7)))=false:=by
   cases h5:(decide (0<=mode)&&(decide (0<=want)&&decide (want<=7)))with
   | false=>rfl
   | true=>simp at h5;omega
  congr 1
  revert this;cases decide (0<=mode)<;>cases decide (0<=want)<;>cases decide (want<=7)<;>simp
theorem trich:∀(a b:Str),(Op.bytesLess a b||a==b) = !(Op.bytesLess b a)
 | [],[]=>rfl
 | [],_::_=>rfl
 | _::_,[]=>rfl
 | x::a,y::b=>by
  have ih:=trich a b;simp only[Op.bytesLess,List.cons_beq_cons];rcases Nat.lt_trichotomy x.toNat y.toNat with h|h|h
  .have h1:decide (x<y)=true:=by simpa[UInt8.lt_iff_toNat_lt]using h
   have h2:decide (y<x)=false:=by simp[UInt8.lt_iff_toNat_lt];omega
   have h3:(y==x)=false:=by rw[beq_eq_false_iff_ne];intro e;subst e;omega
   simp[h1,h2,h3]
  .obtain rfl:x=y:=UInt8.toNat_inj.1 h;have h1:decide (x<x)=false:=by simp
   simp only[h1,beq_self_eq_true,Bool.true_and,Bool.false_or];exact ih
  .have h1:decide (x<y)=false:=by simp[UInt8.lt_iff_toNat_lt];omega
   have h2:decide (y<x)=true:=by simpa[UInt8.lt_iff_toNat_lt]using h
   have h3:(x==y)=false:=by rw[beq_eq_false_iff_ne];intro e;subst e;omega
   simp[h1,h2,h3]
def gQ(l:List Yz)(i:Nat)(q:Yz):Option Int:=if !(vU q.Ys)then some 25 else if decide (0<i) && !(Op.bytesLess (l.getD (i-1) default).Ys q.Ys)then some 2 else if decide (q.Xb<0)||decide (q.Xb>9007199254740991)||decide (q.Zq<0)||decide (q.Zq>9007199254740991)then some 5 else none
def k7_(l:List Yz):Int:=if l.length>64 then 22 else(aL_ (gQ l) 0 l).getD 0
def oo_(l:List Yz):Prop:=∀q∈l,q.Ys.length<=9223372036854775807
theorem u2_(l:List Yz)(h:l.length<=1000)(hs:oo_ l):gd_ l=some (k7_ l):=by
 unfold gd_ k7_;by_cases hl:l.length>64
 .rw[if_pos hl];exact ah_ (by simp;omega) rfl
 .rw [if_neg hl];refine ac_ (by simp;omega) ?_;refine bl_ (aU_ l _ (bB_ (by omega)) (λ i hi => ?_) ?_) (λ _=>rfl) rfl
  .unfold kc_ gQ;rw[br_ hi,as_ hi,au_ (by omega)];refine ah_ rfl (aa_ rfl (aa_ (pk_ _ (hs _ (List.getElem_mem hi))) ?_));cases vU l[i].Ys with
   | false=>rfl
   | true =>
    refine ac_ rfl ?_;have hmm:(decide ((ck_ l[i].Xb l[i].Zq)<0)||decide ((cv_ l[i].Xb l[i].Zq)>9007199254740991))=(decide (l[i].Xb<0)||decide (l[i].Xb>9007199254740991)||decide (l[i].Zq<0)||decide (l[i].Zq>9007199254740991)):=by
     unfold ck_ cv_;rw[Bool.eq_iff_iff];simp only[Bool.or_eq_true,qDe];constructor
     .rintro(hh|hh)<;>split at hh<;>omega
     .intro hh;split<;>split<;>omega
    rw[hmm];rcases Nat.eq_zero_or_pos i with rfl|h0
    .cases(decide (l[0].Xb<0)||decide (l[0].Xb>9007199254740991)||decide (l[0].Zq<0)||decide (l[0].Zq>9007199254740991))<;>rfl
    .have e:decide ((i:Int)>0)=true:=by simpa using h0
     have e2:decide (0<i)=true:=by simpa using h0
     rw[e,e2,iE_ default h0 hi (by omega)];simp only[cond_true,qBs,Bool.true_and,trich];cases Op.bytesLess (l.getD (i-1) default).Ys l[i].Ys<;>cases(decide (l[i].Xb<0)||decide (l[i].Xb>9007199254740991)||decide (l[i].Zq<0)||decide (l[i].Zq>9007199254740991))<;>rfl
  .unfold kc_;rw[bA_];rfl
theorem u3_(l:List Yz)(h:l.length<=1000)(hs:oo_ l):kC_ l=some (k7_ l):=by
 unfold kC_ k7_;by_cases hl:l.length>64
 .rw[if_pos hl];exact ah_ (by simp;omega) rfl
 .rw [if_neg hl];refine ac_ (by simp;omega) ?_;refine bl_ (aU_ l _ (bB_ (by omega)) (λ i hi => ?_) ?_) (λ _=>rfl) rfl
  .unfold j9_ gQ;rw[br_ hi,as_ hi,au_ (by omega)];refine ah_ rfl (aa_ rfl (aa_ (rL_ _ (hs _ (List.getElem_mem hi))) ?_));cases vU l[i].Ys with
   | false=>rfl
   | true =>
    refine ac_ rfl ?_;rcases Nat.eq_zero_or_pos i with rfl|h0
    .cases(decide (l[0].Xb<0)||decide (l[0].Xb>9007199254740991)||decide (l[0].Zq<0)||decide (l[0].Zq>9007199254740991))<;>rfl
    .have e:decide ((i:Int)>0)=true:=by simpa using h0
     have e2:decide (0<i)=true:=by simpa using h0
     rw[e,e2,iE_ default h0 hi (by omega)];simp only[cond_true,qBs,Bool.true_and];cases Op.bytesLess (l.getD (i-1) default).Ys l[i].Ys<;>cases(decide (l[i].Xb<0)||decide (l[i].Xb>9007199254740991)||decide (l[i].Zq<0)||decide (l[i].Zq>9007199254740991))<;>rfl
  .unfold j9_;rw[bA_];rfl
def dw_(l:List Int):Prop:=l.Pairwise (· < ·)
theorem rN_{n:Xq}(h:aM_ n=true):n.Xl.length<=65536:=by
 unfold aM_ at h;simp only[qAn,qDe]at h;exact h.1.2
theorem at_id{l:List Xq}{id:Int}(h:(ai_ l id).2=true):∃i:Nat,at_ (eC_ id) l=(i:Int)/\l[i]? = some (ai_ l id).1/\i<l.length:=by
 rcases kg_ (eC_ id) l with⟨h1,_⟩|⟨i,x,h1,h2,h3,_⟩
 .unfold ai_ at h;rw[h1]at h;cases h
 .refine⟨i,h2,?_,(List.getElem?_eq_some_iff.1 h3).1⟩;unfold ai_;rw[h1];exact h3
theorem l1_{l:List Xq}{id:Int}(h:(ai_ l id).2=false):at_ (eC_ id) l = -1:=by
 rcases kg_ (eC_ id) l with⟨_,h2⟩|⟨i,x,h1,_⟩
 .exact h2
 .unfold ai_ at h;rw[h1]at h;cases h
theorem fdir_eq{l:List Xq}{next:Int}(h:OkT l next){n:Xq}(hn:n∈l):ce_ n.Xv=some (an_ n.Xv 31):=by
 unfold ce_;rw[iH_ (gh_ (h.flds n hn))]
def cT_(dir:Int)(name:Str)(n:Xq):Bool:=(n.Xw==dir&&n.Id_ != 1)&&n.Xy==name
def kP_(l:List Xq)(dir:Int)(name:Str):Int×Int:=bif !(ai_ l dir).2 then(0,8)else bif !(an_ (ai_ l dir).1.Xv 31)then(0,9)else bif name==[46,46]then((ai_ l dir).1.Xw,0)else match l.find? (cT_ dir name)with|some c=>(c.Id_,0)|none=>(0,8)
theorem sq_(t:Xk)(dir:Int)(name:Str)(h:t.Xz.length<=2000):hh_ t dir name=some (at_ (cT_ dir name) t.Xz):=by
 unfold hh_;exact aa_ (qv_ t _ (cT_ dir name) (λ n=>rfl) h) rfl
theorem mQ_(t:Xk)(dir:Int)(name:Str)(h:OkT t.Xz t.Xt):fI_ t dir name=some (kP_ t.Xz dir name):=by
 have hl:=h.len;unfold fI_ kP_;refine aa_ (qw_ t dir h) ?_;unfold md_;cases h1:(ai_ t.Xz dir).2 with
 | false=>rfl
 | true =>
  cases h2:an_ (ai_ t.Xz dir).1.Xv 31 with
  | false=>rfl
  | true =>
   refine ac_ rfl ?_;cases name==[46,46]with
   | true=>exact aa_ (cG_ t dir (by omega)) rfl
   | false =>
    refine ac_ rfl (aa_ (sq_ t dir name (by omega)) ?_);rw[ju_];cases hf:t.Xz.find? (cT_ dir name)with
    | none=>rfl
    | some c=>exact ac_ rfl (aa_ ((mN_ _ _ (by rw[hf];rfl)).trans hf) rfl)
theorem wt_(t:Xk)(dir:Int)(name:Str)(h:OkT t.Xz t.Xt):o9_ t dir name=some (kP_ t.Xz dir name):=by
 have hl:=h.len;obtain⟨r,q,hrq,hr1,_⟩:=h.root;unfold o9_ kP_;refine aa_ (lr_ t dir (by omega)) ?_;cases h1:(ai_ t.Xz dir).2 with
 | false=>rfl
 | true =>
  refine ac_ rfl (aa_ (fdir_eq h (bs_ h1).1) ?_);cases h2:an_ (ai_ t.Xz dir).1.Xv 31 with
  | false=>rfl
  | true =>
   refine ac_ rfl ?_;cases name==[46,46]with
   | true=>rfl
   | false =>
    refine ac_ rfl ?_;have hsc:=tI_ (body:=im_ t dir name) t.Xz (λ _ n=>if(n.Xw==dir&&n.Xy==name)then some (n.Id_,(0:Int))else none) 1 (by rw[hrq];simp) (bB_ (by omega)) (λ i hi _=>by
     unfold im_;rw[br_ hi,as_ hi,au_ (by omega)];refine ah_ rfl ?_;simp only[qBs];cases t.Xz[i].Xw==dir<;>cases t.Xz[i].Xy==name<;>rfl) (by unfold im_;rw[bA_];rfl)
    rw[i2_]at hsc;refine(bl_ hsc (λ _=>rfl) rfl).trans ?_;have hq:(t.Xz.drop 1).find? (λ n=>n.Xw==dir&&n.Xy==name)=t.Xz.find? (cT_ dir name):=by
     have hsrt:=h.srt;rw[hrq]at hsrt ⊢;obtain⟨hs1,_⟩:=List.pairwise_cons.1 hsrt;rw[List.find?_cons];have:cT_ dir name r=false:=by unfold cT_;simp[hr1]
     rw[this];show q.find? _=q.find? _;have:∀(q':List Xq),(∀n∈q',r.Id_<n.Id_)->q'.find? (λ n=>n.Xw==dir&&n.Xy==name)=q'.find? (cT_ dir name):=by
      intro q'
      induction q' with
      | nil=>intro _;rfl
      | cons a q' ih =>
       intro hq;have ha:=hq a (List.mem_cons_self ..);have hne:(a.Id_ != 1)=true:=by rw[bne_iff_ne];omega
       rw[List.find?_cons,List.find?_cons,ih λ n hn=>hq n (List.mem_cons_of_mem _ hn)];unfold cT_;rw[hne,Bool.and_true]
     exact this q hs1
    rw[hq];cases t.Xz.find? (cT_ dir name)<;>rfl
def ht_(l:List Xq)(id:Int):Int:=bif !(ai_ l id).2 then 8 else bif an_ (ai_ l id).1.Xv 31 then 10 else 0
theorem qB_(t:Xk)(id:Int)(h:OkT t.Xz t.Xt):∃i:Int,i1_ t id=some (i,ht_ t.Xz id)/\((ht_ t.Xz id != 0)=false->∃k:Nat,i=(k:Int)/\t.Xz[k]? = some (ai_ t.Xz id).1):=by
 have hl:=h.len;unfold i1_ ht_;rw[dd_ t id (by omega)];cases h1:(ai_ t.Xz id).2 with
 | false =>
  rw[l1_ h1];exact⟨0,rfl,λ h=>nomatch h⟩
 | true =>
  obtain⟨i,e1,e2,e3⟩:=at_id h1;rw[e1];cases h2:an_ (ai_ t.Xz id).1.Xv 31 with
  | true =>
   refine⟨0,aa_ rfl (ac_ (by simp) (aa_ (a:=(ai_ t.Xz id).1) (by rw[bk_,e2]) (aa_ (el_ _ (i4_ h id)) ?_))),λ h=>nomatch h⟩;rw[h2];rfl
  | false =>
   refine⟨(i:Int),aa_ rfl (ac_ (by simp) (aa_ (a:=(ai_ t.Xz id).1) (by rw[bk_,e2]) (aa_ (el_ _ (i4_ h id)) ?_))),λ _=>⟨i,rfl,e2⟩⟩;rw[h2];rfl
theorem minI_nat(a:Int)(b:Nat)(h:0<=a):ck_ a (b:Int)=((min a.toNat b:Nat):Int):=by
 unfold ck_;split<;>omega
structure FileOK(s:Xx):Prop where
 us:k6_ s.Yx=0
 qs:k7_ s.Yj=0
 tr:OkT s.Xm.Xz s.Xm.Xt
 srt:dw_ s.Xs
 exc:∀x∈s.Xs,(ai_ s.Xm.Xz x).2=true/\an_ (ai_ s.Xm.Xz x).1.Xv 29=true
structure SizeOK(s:Xx):Prop where (ul:s.Yx.length<=1000) (um:e0_ s.Yx) (us:mO_ s.Yx) (ql:s.Yj.length<=1000) (qs:oo_ s.Yj) (nl:s.Xm.Xz.length<=1024) (el:s.Xs.length<=500)
def NodesB(s:Xx):Prop:=∀n∈s.Xm.Xz,n.Xv<=9223372036854775807/\n.Xy.length<=9223372036854775807
def e1_(l:List Int)(i:Nat):Int:=(0::l).getD i 0
theorem k8_{l:List Int}{i:Nat}(h0:0<i)(hi:i<=l.length):l[i-1]? = some (e1_ l i):=by
 unfold e1_;obtain⟨k,rfl⟩:∃k,i=k+1:=⟨i-1,by omega⟩;rw[List.getD_cons_succ,List.getD_eq_getElem?_getD,Nat.add_sub_cancel,List.getElem?_eq_getElem (by omega)];rfl
theorem sorted_iff{l:List Int}:dw_ l↔∀i x,0<i->l[i]? = some x->e1_ l i<x:=by
 unfold dw_;rw[List.pairwise_iff_getElem];constructor
 .intro h i n h0 hn;obtain⟨hi,rfl⟩:=List.getElem?_eq_some_iff.1 hn;have:=k8_ h0 (Nat.le_of_lt hi);obtain⟨_,e⟩:=List.getElem?_eq_some_iff.1 this;rw[←e];exact h _ _ _ _ (by omega)
 .intro h;have key:∀(d i:Nat) (hj:i+d+1<l.length),(l[i]'(by omega))<(l[i+d+1]'hj):=by
   intro d
   induction d with
   | zero =>
    intro i hj;have:=h (i+1) _ (by omega) (List.getElem?_eq_getElem (by omega));have e:=k8_ (l:=l) (i:=i+1) (by omega) (by omega);obtain⟨_,e⟩:=List.getElem?_eq_some_iff.1 e;rw[←e]at this;exact this
   | succ d ih =>
    intro i hj;have h1:=ih i (by omega);have:=h (i+d+1+1) _ (by omega) (List.getElem?_eq_getElem (by omega));have e:=k8_ (l:=l) (i:=i+d+1+1) (by omega) (by omega);obtain⟨_,e⟩:=List.getElem?_eq_some_iff.1 e;rw[←e]at this;simp only[Nat.add_sub_cancel]at this;exact Int.lt_trans h1 this
  intro i j hi hj hij;have:=key (j-i-1) i (by omega);simpa[show i+(j-i-1)+1=j by omega]using this
def eB(t:List Xq)(l:List Int)(i:Nat)(x:Int):Bool:=((ai_ t x).2&&an_ (ai_ t x).1.Xv 29)&&decide (e1_ l i<x)
def gE(t:List Xq)(l:List Int)(i:Nat)(x:Int):Option Bool:=if eB t l i x then none else some false
theorem qD_(s:Xx)(h:OkT s.Xm.Xz s.Xm.Xt)(hl:s.Xs.length<=1000):ak_ (du_ s) BIG (0,0)=some (dK_ (aL_ (gE s.Xm.Xz s.Xs) 0 s.Xs)):=by
 refine fe_ (body:=du_ s) (J:=λ i t b=>t=(e1_ s.Xs i,(i:Int))/\b=dK_ (aL_ (gE s.Xm.Xz s.Xs) i (s.Xs.drop i))) s.Xs.length (bB_ (by omega)) (λ t b hJ => ?_) (λ i t b hi hJ => ?_) ⟨rfl,by simp⟩
 .obtain⟨rfl,rfl⟩:=hJ;unfold du_;simp only;rw[bA_];simp[aL_,dK_]
 .obtain⟨rfl,rfl⟩:=hJ;rw[List.drop_eq_getElem_cons hi];have hp:s.Xs[i]=e1_ s.Xs (i+1):=by
   have:=k8_ (l:=s.Xs) (i:=i+1) (by omega) (by omega);rw[Nat.add_sub_cancel,List.getElem?_eq_getElem hi]at this;exact qSj this
  have hbody:du_ s (e1_ s.Xs i,(i:Int))=some (match gE s.Xm.Xz s.Xs i s.Xs[i]with|some r => .done (.ret r)|none => .next (e1_ s.Xs (i+1),((i+1:Nat):Int))):=by
   unfold du_;simp only;rw[br_ hi,as_ hi,au_ (by omega)];refine ah_ rfl (aa_ rfl (aa_ (cG_ _ _ (by have:=h.len;omega)) ?_));unfold gE eB;have e1:decide (s.Xs[i]<=e1_ s.Xs i) = !(decide (e1_ s.Xs i<s.Xs[i])):=by rw[Bool.eq_iff_iff];simp
   rw[e1,←hp];have hc:=h5_ (ai_ s.Xm.Xz s.Xs[i]).1.Xv 29 (by omega) (i4_ h _);simp only[Nat.reducePow,Int.cast_ofNat_Int]at hc;rw[hc];cases(ai_ s.Xm.Xz s.Xs[i]).2<;>cases an_ (ai_ s.Xm.Xz s.Xs[i]).1.Xv 29<;>cases decide (e1_ s.Xs i<s.Xs[i])<;>rfl
  cases hg:gE s.Xm.Xz s.Xs i s.Xs[i]with
  | some r =>
   rw[hg]at hbody;exact .inl (by rw[hbody];simp[aL_,hg,dK_])
  | none =>
   rw[hg]at hbody;exact .inr ⟨_,hbody,rfl,by simp[aL_,hg]⟩
theorem sr_(s:Xx)(h:OkT s.Xm.Xz s.Xm.Xt)(hl:s.Xs.length<=1000):ak_ (hb_ s) BIG 0=some (dK_ (aL_ (gE s.Xm.Xz s.Xs) 0 s.Xs)):=by
 refine aU_ s.Xs _ (bB_ (by omega)) (λ i hi => ?_) ?_
 .unfold hb_;rw[br_ hi,as_ hi,au_ (by omega)];refine ah_ rfl (aa_ rfl (aa_ (lr_ _ _ (by have:=h.len;omega)) ?_));unfold gE eB;have hc:=fC_ (ai_ s.Xm.Xz s.Xs[i]).1.Xv 29 (by omega) (i4_ h _);simp only[Nat.reducePow,Int.cast_ofNat_Int]at hc;rw[hc];simp only[qBs];cases hn:(ai_ s.Xm.Xz s.Xs[i]).2 with
  | false=>rfl
  | true =>
   have hge:1<=s.Xs[i]:=by
    obtain⟨h1,h2⟩:=bs_ hn;rw[←h2];exact h.ge h1
   cases an_ (ai_ s.Xm.Xz s.Xs[i]).1.Xv 29 with
   | false=>rfl
   | true =>
    rcases Nat.eq_zero_or_pos i with rfl|h0
    .have:decide (e1_ s.Xs 0<s.Xs[0])=true:=by
      rw[qDe];show(0:Int)<_;omega
     rw[this];rfl
    .have e0:decide ((i:Int)>0)=true:=by simpa using h0
     have hp:al_ s.Xs (w64 ((i:Int)-1))=some (e1_ s.Xs i):=by
      rw[w_pred h0 (by omega),bk_];exact k8_ h0 (Nat.le_of_lt hi)
     have e1:decide (e1_ s.Xs i>=s.Xs[i]) = !(decide (e1_ s.Xs i<s.Xs[i])):=by rw[Bool.eq_iff_iff];simp
     rw[e0,hp];simp only[cond_true,qBs];rw[e1];cases decide (e1_ s.Xs i<s.Xs[i])<;>rfl
 .unfold hb_;rw[bA_];rfl
theorem excl_iff(s:Xx)(h:OkT s.Xm.Xz s.Xm.Xt):(aL_ (gE s.Xm.Xz s.Xs) 0 s.Xs).getD true=true↔dw_ s.Xs/\∀x∈s.Xs,(ai_ s.Xm.Xz x).2=true/\an_ (ai_ s.Xm.Xz x).1.Xv 29=true:=by
 rw[pj_ (g:=gE s.Xm.Xz s.Xs) (p:=eB s.Xm.Xz s.Xs) (λ _ _=>rfl),sorted_iff];have ek:∀i x,eB s.Xm.Xz s.Xs i x=true↔((ai_ s.Xm.Xz x).2=true/\an_ (ai_ s.Xm.Xz x).1.Xv 29=true)/\e1_ s.Xs i<x:=λ i x=>by
  unfold eB;simp only[qAn,qDe]
 simp only[Nat.zero_add,ek];constructor
 .intro h';refine⟨λ i x _ hx=>(h' i x hx).2,λ x hx => ?_⟩;obtain⟨i,hi⟩:=List.mem_iff_getElem?.1 hx;exact(h' i x hi).1
 .rintro⟨h1,h2⟩ i x hx;have hm:=h2 x (List.mem_iff_getElem?.2 ⟨_,hx⟩);refine⟨hm,?_⟩;rcases Nat.eq_zero_or_pos i with rfl|h0
  .obtain⟨h3,h4⟩:=bs_ hm.1;have:=h.ge h3;show(0:Int)<x;omega
  .exact h1 i x h0 hx
theorem tP_(s:Xx):FileOK s↔k6_ s.Yx=0/\k7_ s.Yj=0/\OkT s.Xm.Xz s.Xm.Xt/\dw_ s.Xs/\∀x∈s.Xs,(ai_ s.Xm.Xz x).2=true/\an_ (ai_ s.Xm.Xz x).1.Xv 29=true :=
 ⟨λ h=>⟨h.us,h.qs,h.tr,h.srt,h.exc⟩,fun⟨a,b,c,d,e⟩=>⟨a,b,c,d,e⟩⟩
theorem filesrv_right_iff(s:Xx)(z:SizeOK s)(hb:NodesB s):∃b,pE_ s=some b/\(b=true↔FileOK s):=by
 rw[tP_];unfold pE_;rw[ws_ _ z.ul z.um z.us,u2_ _ z.ql z.qs];simp only[qBs];cases hu:k6_ s.Yx != 0 with
 | true=>exact⟨false,rfl,λ h=>(nomatch h),λ h=>by rw[h.1]at hu;cases hu⟩
 | false =>
  simp only[cond_false,qBs];cases hq:k7_ s.Yj != 0 with
  | true=>exact⟨false,rfl,λ h=>(nomatch h),λ h=>by rw[h.2.1]at hq;cases hq⟩
  | false =>
   obtain⟨b,hb1,hb2⟩:=hr_ s.Xm (by have:=z.nl;omega) hb;rw[hb1];cases b with
   | false=>exact⟨false,rfl,λ h=>(nomatch h),λ h=>hb2.2 h.2.2.1⟩
   | true =>
    have ht:=hb2.1 rfl;refine⟨_,ac_ (A:=some false) rfl (bl_ (qD_ s ht (by have:=z.el;omega)) (λ _=>rfl) rfl),?_⟩;rw[excl_iff s ht];exact⟨λ h=>⟨by simpa using hu,by simpa using hq,ht,h⟩,λ h=>h.2.2.2⟩
theorem tQ_(s:Xx)(z:SizeOK s)(hb:NodesB s):∃b,kD_ s=some b/\(b=true↔FileOK s):=by
 rw[tP_];unfold kD_;rw[uZ_ _ z.ul z.um z.us,u3_ _ z.ql z.qs];simp only[qBs];cases hu:k6_ s.Yx != 0 with
 | true=>exact⟨false,rfl,λ h=>(nomatch h),λ h=>by rw[h.1]at hu;cases hu⟩
 | false =>
  simp only[cond_false,qBs];cases hq:k7_ s.Yj != 0 with
  | true=>exact⟨false,rfl,λ h=>(nomatch h),λ h=>by rw[h.2.1]at hq;cases hq⟩
  | false =>
   obtain⟨b,hb1,hb2⟩:=jw_ s.Xm (by have:=z.nl;omega) hb;rw[hb1];cases b with
   | false=>exact⟨false,rfl,λ h=>(nomatch h),λ h=>hb2.2 h.2.2.1⟩
   | true =>
    have ht:=hb2.1 rfl;refine⟨_,ac_ (A:=some false) rfl (bl_ (sr_ s ht (by have:=z.el;omega)) (λ _=>rfl) rfl),?_⟩;rw[excl_iff s ht];exact⟨λ h=>⟨by simpa using hu,by simpa using hq,ht,h⟩,λ h=>h.2.2.2⟩
abbrev am_(s:Xx)(id:Int):Xq:=(ai_ s.Xm.Xz id).1
abbrev isS(s:Xx)(id:Int):Bool:=(ai_ s.Xm.Xz id).2
def cj_(s:Xx)(user:Str)(id:Int):Int:=bif !(vU user)then 25 else bif !(isS s id)then 8 else 0
def dirC(s:Xx)(user:Str)(id:Int):Int:=bif !(vU user)then 25 else bif !(isS s id)then 8 else bif !(an_ (am_ s id).Xv 31)then 9 else 0
def mayS(s:Xx)(user:Str)(n:Xq)(want:Int):Bool:=om_ s.Yx user n.Yw n.Yv n.Xv want
theorem nl2{s:Xx}(z:SizeOK s):s.Xm.Xz.length<=2000:=by have:=z.nl;omega
theorem eO_{s:Xx}(f:FileOK s)(id:Int):(am_ s id).Xv<=9223372036854775807:=i4_ f.tr id
theorem fU_(x:Int)(h1:x<=9223372036854775807):aq_ x 2147483648=some (an_ x 31)/\aq_ x 1073741824=some (an_ x 30)/\aq_ x 536870912=some (an_ x 29)/\aq_ x 64=some (an_ x 6) :=
 ⟨h5_ x 31 (by omega) h1,h5_ x 30 (by omega) h1,h5_ x 29 (by omega) h1,h5_ x 6 (by omega) h1⟩
theorem has_r(x:Int)(h1:x<=9223372036854775807):eW_ x 2147483648=some (an_ x 31)/\eW_ x 1073741824=some (an_ x 30)/\eW_ x 536870912=some (an_ x 29)/\eW_ x 64=some (an_ x 6)/\eW_ x 16=some (an_ x 4) :=
 ⟨fC_ x 31 (by omega) h1,fC_ x 30 (by omega) h1,fC_ x 29 (by omega) h1,fC_ x 6 (by omega) h1,fC_ x 4 (by omega) h1⟩
theorem op_{s:Xx}(z:SizeOK s)(user:Str)(id:Int)(hu:user.length<=9223372036854775807):∃n,cD_ s user id=some (n,cj_ s user id)/\(cj_ s user id=0->n=am_ s id):=by
 unfold cD_ cj_ isS;rw[pk_ _ hu,cG_ _ _ (nl2 z)];cases vU user with
 | false=>exact⟨_,rfl,λ h=>by cases h⟩
 | true =>
  simp only[qBs,Bool.not_true,cond_false];cases(ai_ s.Xm.Xz id).2 with
  | false=>exact⟨_,rfl,λ h=>by cases h⟩
  | true=>exact⟨_,rfl,λ _=>rfl⟩
theorem qE_{s:Xx}(f:FileOK s)(z:SizeOK s)(user:Str)(id:Int)(hu:user.length<=9223372036854775807):∃n,cz_ s user id=some (n,dirC s user id)/\(dirC s user id=0->n=am_ s id):=by
 obtain⟨n,e1,e2⟩:=op_ z user id hu;unfold cz_ dirC;rw[e1];unfold cj_ at e1 e2 ⊢;cases hv:vU user with
 | false=>exact⟨n,rfl,λ h=>by cases h⟩
 | true =>
  rw[hv]at e2;cases hi:isS s id with
  | false=>exact⟨n,rfl,λ h=>by cases h⟩
  | true =>
   rw[hi]at e2;obtain rfl:=e2 rfl;refine⟨am_ s id,aa_ rfl (aa_ (a:=bif !(an_ (am_ s id).Xv 31)then 9 else 0) (aa_ (a := !(an_ (am_ s id).Xv 31)) (ah_ rfl (aa_ (fU_ _ (eO_ f id)).1 rfl)) ?_) rfl),λ _=>rfl⟩;cases an_ (am_ s id).Xv 31<;>rfl
theorem may_eq{s:Xx}(z:SizeOK s)(user:Str){n:Xq}(hn:n.Xv<=9223372036854775807)(want:Int):c0_ s user n want=some (mayS s user n want):=by
 unfold c0_ mayS;exact aa_ (on_ _ _ _ _ _ _ z.ul z.um hn) rfl
theorem tR_{s:Xx}(f:FileOK s)(z:SizeOK s)(user:Str)(id want:Int):nl_ s user id want=some (isS s id&&mayS s user (am_ s id) want):=by
 unfold nl_ mayS isS;refine aa_ (lr_ _ _ (nl2 z)) ?_;cases(ai_ s.Xm.Xz id).2 with
 | false=>rfl
 | true=>exact aa_ (aa_ (tO_ _ _ _ _ _ _ z.ul z.um (i4_ f.tr _)) rfl) rfl
theorem ss_{s:Xx}{id:Int}(h:isS s id=true):am_ s id∈s.Xm.Xz:=(bs_ h).1
def walkS(s:Xx)(user:Str)(id:Int)(name:Str):Int×Int:=bif dirC s user id != 0 then(0,dirC s user id)else bif !(mayS s user (am_ s id) 1)then(0,11)else kP_ s.Xm.Xz id name
theorem dirC_zero{s:Xx}{user:Str}{id:Int}(h:(dirC s user id != 0)=false):dirC s user id=0/\vU user=true/\isS s id=true/\an_ (am_ s id).Xv 31=true:=by
 have h0:dirC s user id=0:=by simpa using h
 refine⟨h0,?_⟩;unfold dirC at h0;cases hv:vU user with
 | false=>rw[hv]at h0;cases h0
 | true =>
  rw[hv]at h0;cases hi:isS s id with
  | false=>rw[hi]at h0;cases h0
  | true =>
   rw[hi]at h0;cases hd:an_ (am_ s id).Xv 31 with
   | false=>rw[hd]at h0;cases h0
   | true=>exact⟨rfl,rfl,rfl⟩
theorem walk_eq{s:Xx}(f:FileOK s)(z:SizeOK s)(user:Str)(id:Int)(name:Str)(hu:user.length<=9223372036854775807):eu_ s user id name=some (walkS s user id name):=by
 obtain⟨n,e1,e2⟩:=qE_ f z user id hu;unfold eu_ walkS;refine aa_ e1 ?_;cases hc:dirC s user id != 0 with
 | true=>rfl
 | false =>
  obtain rfl:=e2 (dirC_zero hc).1;refine ac_ rfl (aa_ (may_eq z user (eO_ f _) 1) ?_);cases mayS s user (am_ s id) 1 with
  | false=>rfl
  | true=>exact ac_ rfl (aa_ (mQ_ _ _ _ f.tr) rfl)
structure Keep(t t':Xk)(id:Int):Prop where
 ok:OkT t'.Xz t'.Xt
 is:(ai_ t'.Xz id).2=true
 mode:(ai_ t'.Xz id).1.Xv=(ai_ t.Xz id).1.Xv
theorem Keep.trans{a b c:Xk}{id:Int}(h:Keep a b id)(g:Keep b c id):Keep a c id:=⟨g.ok,g.is,g.mode.trans h.mode⟩
theorem scan_nil{α β:Type}:∀(k:Nat) (l:List α),aL_ (λ _ _=>(none:Option β)) k l=none
 | _,[]=>rfl
 | k,_::l=>scan_nil (k+1) l
theorem same_loop{α:Type}{body:Int->Option (Step Int (Out Unit Bool))}(l:List α)(hl:l.length<=2000)(hb:∀i,i<l.length->body (i:Int)=some (.next ((i+1:Nat):Int)))(he:body (l.length:Int)=some (.done (.fall ()))):ak_ body BIG 0=some (.fall ()):=by
 have:=aU_ (body:=body) l (λ _ _=>(none:Option Bool)) (bB_ (by omega)) (λ i hi=>hb i hi) he;rw[this,scan_nil];rfl
theorem same_tree13(t:Xk)(hl:t.Xz.length<=2000):hm_ t t=some true:=by
 unfold hm_;refine ac_ (by simp) (aa_ (same_loop t.Xz (by omega) (λ i hi => ?_) ?_) rfl)
 .unfold hJ_;rw[br_ hi,as_ hi,au_ (by omega)];simp
 .unfold hJ_;rw[bA_];rfl
theorem rO_{xs:List Xf}(h:xs.length<=1000):bj_ xs=some xs:=gV_ (n:=56) (by omega) (by omega)
theorem qG_{xs:List Yz}(h:xs.length<=1000):aV_ xs=some xs:=gV_ (n:=32) (by omega) (by omega)
theorem rP_{xs:List Xq}(h:xs.length<=2000):bx_ xs=some xs:=gV_ (n:=128) (by omega) (by omega)
theorem l2_{xs:List Int}(h:xs.length<=1000):bS_ xs=some xs:=gV_ (n:=8) (by omega) (by omega)
def k9_(l:List Xf)(user group:Str):Bool:=if(dS_ l group).1.Yt==[]then dT_ l user group else(dS_ l group).1.Yt==user
theorem lu_(l:List Xf)(user group:Str)(h:l.length<=1000)(hm:e0_ l):ho_ l user group=some (k9_ l user group):=by
 unfold ho_ k9_;refine aa_ (qA_ l group h hm) ?_;have hz:(dS_ l group).2=false->(dS_ l group).1.Yt=[]:=by
  unfold dS_;cases l.find? (cY_ group)with
  | none=>exact λ _=>rfl
  | some u=>exact λ h=>nomatch h
 cases h2:(dS_ l group).2 with
 | true =>
  cases h3:(dS_ l group).1.Yt==[]with
  | true=>exact aa_ (hs_ l user group h hm) rfl
  | false=>rfl
 | false =>
  rw[hz h2];exact aa_ (hs_ l user group h hm) rfl
theorem nN_(x:Int)(k:Nat)(hk:k<63)(h1:x<=9223372036854775807):iD_ x ((2^k:Nat):Int)=some (an_ x k):=rh_ x k hk h1
theorem tree_app_eq(x:Int)(h1:x<=9223372036854775807):mC_ x=some (an_ x 30):=congrArg some (has_lit x 30 (by omega) h1)
theorem andNot_511{n:Nat}(h:n<2^63):cu_ .i64 (n:Int) 511=((n-n%512:Nat):Int):=by
 rw[show(511:Int)=((511:Nat):Int)from rfl,nL_ h (by omega)]
 congr 1
 apply Nat.eq_of_testBit_eq;intro i;have e:n-n%512=2^9*(n/2^9)+0:=by have:=Nat.div_add_mod n 512;omega
 rw[Nat.testBit_and,e,Nat.testBit_two_pow_mul_add _ (by omega:0<2^9),Nat.testBit_div_two_pow,show 2^64-1-511=2^64-(511+1)by omega,Nat.testBit_two_pow_sub_succ (by omega)];by_cases hi:i<9
 .rw[if_pos hi];have:(511:Nat).testBit i=true:=by
   have:∀j,j<9->(511:Nat).testBit j=true:=by decide
   exact this i hi
  simp[this]
 .rw[if_neg hi];have h5:(511:Nat).testBit i=false:=Nat.testBit_lt_two_pow (Nat.lt_of_lt_of_le (by omega:511<2^9) (Nat.pow_le_pow_right (by omega) (by omega)));rw[h5,show i-9+9=i by omega];by_cases h64:i<64
  .simp[h64]
  .have:n.testBit i=false:=Nat.testBit_lt_two_pow (Nat.lt_of_lt_of_le h (Nat.pow_le_pow_right (by omega) (by omega)));simp[this]
theorem sub_two{r:Nat}(h:r<2^63):(cu_ .i64 (r:Int) 1610612736==0)=(r==0||r==1073741824||r==536870912||r==1610612736):=by
 have e := @rI_ r 1610612736 h (by omega);rw[show((1610612736:Nat):Int)=1610612736 from rfl]at e;rw[e];rw[show(1610612736:Int)=((1610612736:Nat):Int)from rfl,ke_ h (by omega)];rw[Bool.eq_iff_iff,beq_iff_eq];simp only[Bool.or_eq_true,beq_iff_eq];constructor
 .intro hh;have hr:r&&&1610612736=r:=by omega
  have hle:=and_le hr;have hz:r%2^29=0:=by
   apply Nat.eq_of_testBit_eq;intro i;rw[Nat.testBit_mod_two_pow,Nat.zero_testBit];by_cases hi:i<29
   .have hb:(1610612736:Nat).testBit i=false:=by
     have:∀j,j<29->(1610612736:Nat).testBit j=false:=by decide
     exact this i hi
    have:=congrArg (λ q=>q.testBit i) hr;simp only[Nat.testBit_and,hb,Bool.and_false]at this;simp[←this]
   .simp[hi]
  omega
 .rintro(((rfl|rfl)|rfl)|rfl)<;>decide
theorem qH_(x:Int)(h1:x<=9223372036854775807):c9_ x=some (aI_ x):=by
 unfold c9_ aI_;by_cases h0:0<=x
 .obtain⟨n,rfl⟩:∃n:Nat,x=(n:Int):=⟨x.toNat,by omega⟩;have h0':decide ((n:Int)<0)=false:=by simp
  have h0'':decide (0<=(n:Int))=true:=by simp
  rw[h0',h0'',andNot_511 (by omega),sub_two (by omega)];refine ac_ rfl (congrArg some ?_);unfold topI;rw[Bool.eq_iff_iff];simp only[Bool.or_eq_true,beq_iff_eq,Bool.true_and];omega
 .have h0':decide (x<0)=true:=by simp;omega
  have h0'':decide (0<=x)=false:=by simp;omega
  rw[h0',h0''];rfl
def e2_(m:Int):Int×Int:=if 0<=m/\m<128 then(match cP_ m with|some r=>r|none=>(0,12))else(0,12)
theorem open_small:((List.range 128).all λ n=>(cP_ (n:Int)==ref06_Open (n:Int))&&(cP_ (n:Int)).isSome)=true:=by kernel_rfl
theorem mR_(m:Int)(hm:I64 m):cP_ m=some (e2_ m):=by
 unfold e2_;by_cases h:0<=m/\m<128
 .rw[if_pos h];obtain⟨n,rfl⟩:∃n:Nat,m=(n:Int):=⟨m.toNat,by omega⟩;have:=List.all_eq_true.1 open_small n (List.mem_range.2 (by omega));rw[qAn]at this;cases hp:cP_ (n:Int)with
  | none=>rw[hp]at this;cases this.2
  | some r=>rfl
 .rw [if_neg h];unfold cP_;have e16:=nN_ m 4 (by omega) hm.2;have e64:∀q:Int,q<=9223372036854775807->iD_ q 64=some (an_ q 6):=λ q hq=>nN_ q 6 (by omega) hq
  simp only[Nat.reducePow,Int.cast_ofNat_Int]at e16;have hlow:m<0\/128<=m:=by omega
  rw[e16];refine aa_ (a:=if an_ m 4 then m-16 else m) ?_ ?_
  .refine aa_ rfl ?_;cases hb:an_ m 4 with
   | false=>rfl
   | true =>
    have:0<=m:=by
     rcases Int.lt_or_le m 0 with h1|h1
     .rw[iG_ h1]at hb;cases hb
     .exact h1
    rw[cond_true,ap_ ⟨by omega,by omega⟩];rfl
  .generalize ho:(if an_ m 4 then m-16 else m)=o;have ho1:o<0\/112<=o:=by
    subst ho;cases hb:an_ m 4 with
    | false=>simp;omega
    | true =>
     have:0<=m:=by
      rcases Int.lt_or_le m 0 with h1|h1
      .rw[iG_ h1]at hb;cases hb
      .exact h1
     simp;omega
   have ho2:o<=m:=by subst ho;split<;>omega
   rw[e64 m hm.2];have hneg:an_ m 6=true->0<=m:=λ hb=>by
    rcases Int.lt_or_le m 0 with h1|h1
    .rw[iG_ h1]at hb;cases hb
    .exact h1
   have hpos:0<=m->112<=o:=λ h0=>by
    subst ho;cases an_ m 4<;>simp<;>omega
   have hmo:m<0->o<0:=λ h0=>by
    subst ho;rw[iG_ h0];simpa using h0
   refine aa_ (a:=if an_ m 6 then o-64 else o) ?_ ?_
   .refine aa_ rfl ?_;cases hb:an_ m 6 with
    | false=>rfl
    | true =>
     have h1:=hpos (hneg hb);have h2:=hm.2;rw[cond_true,ap_ ⟨by omega,by omega⟩];rfl
   .refine ah_ ?_ rfl;rw[Bool.or_eq_true,qDe,qDe];cases hb:an_ m 6 with
    | false=>simp;omega
    | true =>
     have h1:=hpos (hneg hb);simp;omega
theorem sub_bit{x k:Nat}(h:x.testBit k=true)(j:Nat):(x-2^k).testBit j=(x.testBit j && !(j==k)):=by
 have h1:x=2^(k+1)*(x/2^(k+1))+(2^k+x%2^k):=by
  have h2:=Nat.div_add_mod x (2^(k+1));have h3:x%2^(k+1)=2^k+x%2^k:=by
   rw[Nat.testBit_eq_decide_div_mod_eq,qDe]at h;rw[Nat.pow_succ,Nat.mod_mul,h,Nat.mul_one,Nat.add_comm]
  omega
 have hr:x%2^k<2^k:=Nat.mod_lt _ (Nat.two_pow_pos k);have hpp:2^(k+1)=2^k+2^k:=by rw[Nat.pow_succ];omega
 have h4:x-2^k=2^(k+1)*(x/2^(k+1))+x%2^k:=by
  rw (occs := .pos [1]) [h1];omega
 rw[h4,Nat.testBit_two_pow_mul_add _ (by omega)];by_cases hj:j<k+1
 .rw[if_pos hj,Nat.testBit_mod_two_pow];by_cases hjk:j=k
  .subst hjk;simp
  .have:j<k:=by omega
   simp[this,hjk]
 .rw[if_neg hj,Nat.testBit_div_two_pow,show j-(k+1)+(k+1)=j by omega];have:(j==k)=false:=by rw[beq_eq_false_iff_ne];omega
  simp[this]
def inhB(d m j:Nat):Bool:=m.testBit j&&(!(d.testBit j)&&(m.testBit 31 || !((j==0)||(j==3)||(j==6))))
theorem inherit_ref(d m:Nat)(hd:d<2^63)(hm:m<2^63):∃r:Nat,f5_ (d:Int) (m:Int)=some (r:Int)/\r<=m/\∀j,r.testBit j=(m.testBit j && !(decide (j<9)&&inhB d m j)):=by
 unfold f5_
 have key:∀(n k out:Nat),k+n=9->out<=m->(∀j,out.testBit j=(m.testBit j && !(decide (j<k)&&inhB d m j))) ->
   ∃r:Nat,ak_ (fT_ (m:Int) (d:Int)) (n+1) ((out:Int),((2^k:Nat):Int))=some (r:Int)/\r<=m/\∀j,r.testBit j=(m.testBit j && !(decide (j<9)&&inhB d m j)):=by
  intro n
  induction n with
  | zero =>
   intro k out hk ho hb;obtain rfl:k=9:=by omega
   exact⟨out,aZ_ (by unfold fT_;rfl),ho,hb⟩
  | succ n ih =>
   intro k out hk ho hb;have hp:2^k<=256:=by
    have:2^k<=2^8:=Nat.pow_le_pow_right (by omega) (by omega);omega
   have hp1:=Nat.two_pow_pos k;have e2:w64 (2*((2^k:Nat):Int))=((2^(k+1):Nat):Int):=by
    rw[Nat.pow_succ];rw[ap_ ⟨by omega,by omega⟩];omega
   have m31:=jx_ (m:Int) 31 (by omega) (by omega);simp only[Nat.reducePow,Int.cast_ofNat_Int]at m31;have hex:((((2^k:Nat):Int)==1)||(((2^k:Nat):Int)==8)||(((2^k:Nat):Int)==64))=((k==0)||(k==3)||(k==6)):=by
    match k,(show k<9 by omega)with
    | 0,_=>rfl
    | 1,_=>rfl
    | 2,_=>rfl
    | 3,_=>rfl
    | 4,_=>rfl
    | 5,_=>rfl
    | 6,_=>rfl
    | 7,_=>rfl
    | 8,_=>rfl
   obtain⟨r,h1,h2⟩:=ih (k+1) (if inhB d m k then out-2^k else out) (by omega) (by split<;>omega) (λ j=>by
    cases hi:inhB d m k with
    | false =>
     simp only[Bool.false_eq_true,if_false];rw[hb j];by_cases hjk:j=k
     .subst hjk;simp[hi]
     .have:decide (j<k+1)=decide (j<k):=by rw[Bool.eq_iff_iff,qDe,qDe];omega
      rw[this]
    | true =>
     simp only[if_true];have hmk:m.testBit k=true:=by unfold inhB at hi;simp only[qAn]at hi;exact hi.1
     have hok:out.testBit k=true:=by rw[hb k,hmk];simp
     rw[sub_bit hok j,hb j];by_cases hjk:j=k
     .subst hjk;simp[hi]
     .have:decide (j<k+1)=decide (j<k):=by rw[Bool.eq_iff_iff,qDe,qDe];omega
      rw[this];have:(j==k)=false:=by simpa using hjk
      rw[this];simp)
   refine⟨r,bL_ ?_ h1,h2⟩;unfold fT_;simp only;refine ah_ (by rw[qDe];omega) ?_;rw[e2,jx_ (m:Int) k (by omega) (by omega),jx_ (d:Int) k (by omega) (by omega),m31,hex];simp only[iF_];refine aa_ (a:=((if inhB d m k then out-2^k else out:Nat):Int)) ?_ rfl;have hsub:inhB d m k=true->w64 ((out:Int)-((2^k:Nat):Int))=((out-2^k:Nat):Int):=λ hi=>by
    have hmk:m.testBit k=true:=by unfold inhB at hi;simp only[qAn]at hi;exact hi.1
    have hok:out.testBit k=true:=by rw[hb k,hmk];simp
    have hle:2^k<=out:=Nat.ge_two_pow_of_testBit hok;rw[ap_ ⟨by omega,by omega⟩];omega
   revert hsub;unfold inhB;cases m.testBit k<;>cases d.testBit k<;>cases m.testBit 31<;>cases((k==0)||(k==3)||(k==6))<;>intro hsub<;>first|rfl|exact congrArg some (hsub rfl)
 have hB:BIG=18446744073709551606+(9+1):=rfl;have big:∀{σ β:Type} {body:σ->Option (Step σ β)} {n k:Nat} {s:σ} {b:β},ak_ body n s=some b->ak_ body (k+n) s=some b:=by
  intro σ β body n
  induction n with
  | zero=>intro k s b h;cases h
  | succ n ih =>
   intro k s b h;rw[show k+(n+1)=(k+n)+1 by omega];simp only[ak_]at h ⊢;split at h
   .exact h
   .exact ih h
   .exact h
 obtain⟨r,h1,h2⟩:=key 9 0 m rfl (Nat.le_refl _) (λ j=>by simp);refine⟨r,ac_ (by simp) (aa_ (a:=(r:Int)) ?_ rfl),h2⟩;rw[hB];exact big h1
theorem mT_{a b:Nat}(ha:a<2^63)(hb:b<2^63):∃r:Nat,cu_ .i64 (a:Int) (b:Int)=(r:Int)/\r<2^63/\r<=a/\∀j,r.testBit j=(a.testBit j && !(b.testBit j)):=by
 refine⟨_,nL_ ha hb,Nat.lt_of_le_of_lt Nat.and_le_left ha,Nat.and_le_left,λ j => ?_⟩;rw[Nat.testBit_and,show 2^64-1-b=2^64-(b+1)by omega,Nat.testBit_two_pow_sub_succ (by omega)];by_cases h64:j<64
 .simp[h64]
 .have:a.testBit j=false:=Nat.testBit_lt_two_pow (Nat.lt_of_lt_of_le ha (Nat.pow_le_pow_right (by omega) (by omega)));simp[this]
theorem bits511(j:Nat):(511:Nat).testBit j=decide (j<9):=by
 by_cases h:j<9
 .have:∀j,j<9->(511:Nat).testBit j=true:=by decide
  simp[h,this j h]
 .have:(511:Nat).testBit j=false:=Nat.testBit_lt_two_pow (Nat.lt_of_lt_of_le (by omega:511<2^9) (Nat.pow_le_pow_right (by omega) (by omega)));simp[h,this]
theorem bits438(j:Nat):(438:Nat).testBit j=(decide (j<9) && !((j==0)||(j==3)||(j==6))):=by
 by_cases h:j<9
 .have:∀j,j<9->(438:Nat).testBit j = !((j==0)||(j==3)||(j==6)):=by decide
  simp[h,this j h]
 .have:(438:Nat).testBit j=false:=Nat.testBit_lt_two_pow (Nat.lt_of_lt_of_le (by omega:438<2^9) (Nat.pow_le_pow_right (by omega) (by omega)));simp[h,this]
theorem inherit_kind(d m:Int)(hd:0<=d/\d<=9223372036854775807)(hm:0<=m/\m<=9223372036854775807):∃q r,ew_ d m=some q/\f5_ d m=some r/\orI .i64 (cu_ .i64 m 511) (bR_ .i64 q 511)=r/\0<=r/\r<=m/\(aI_ m=true->aI_ r=true):=by
 obtain⟨d,rfl⟩:∃n:Nat,d=(n:Int):=⟨d.toNat,by omega⟩;obtain⟨m,rfl⟩:∃n:Nat,m=(n:Int):=⟨m.toNat,by omega⟩;obtain⟨r,h1,h2,h3⟩:=inherit_ref d m (by omega) (by omega);have hlt:m<2^63:=by omega
 have hmask:∃k:Nat,(k=511/\m.testBit 31=true\/k=438/\m.testBit 31=false)/\ew_ (d:Int) (m:Int)=some (cu_ .i64 (m:Int) (cu_ .i64 (k:Int) (d:Int))):=by
  have m31:=nN_ (m:Int) 31 (by omega) (by omega);simp only[Nat.reducePow,Int.cast_ofNat_Int]at m31;unfold ew_;cases hb:m.testBit 31 with
  | true =>
   refine⟨511,.inl ⟨rfl,rfl⟩,ac_ (by simp) ?_⟩;refine aa_ (a:=511) (aa_ m31 ?_) rfl;rw[iF_,hb];rfl
  | false =>
   refine⟨438,.inr ⟨rfl,rfl⟩,ac_ (by simp) ?_⟩;refine aa_ (a:=438) (aa_ m31 ?_) rfl;rw[iF_,hb];rfl
 obtain⟨k,hk,hp⟩:=hmask;have hk63:k<2^63:=by rcases hk with⟨rfl,_⟩|⟨rfl,_⟩<;>omega
 obtain⟨a,a1,a2,_,a3⟩:=mT_ (a:=k) (b:=d) hk63 (by omega);obtain⟨q,q1,q2,_,q3⟩:=mT_ (a:=m) (b:=a) hlt a2;obtain⟨t,t1,t2,_,t3⟩:=mT_ (a:=m) (b:=511) hlt (by omega);have hr:t|||(q&&&511)=r:=by
  apply Nat.eq_of_testBit_eq;intro j;rw[Nat.testBit_or,Nat.testBit_and,t3,q3,a3,h3,bits511];unfold inhB;rcases hk with⟨rfl,hb⟩|⟨rfl,hb⟩
  .rw[bits511,hb];cases m.testBit j<;>cases d.testBit j<;>cases decide (j<9)<;>rfl
  .rw[bits438,hb];cases m.testBit j<;>cases d.testBit j<;>cases decide (j<9)<;>cases((j==0)||(j==3)||(j==6))<;>rfl
 refine⟨_,_,by rw[hp,a1,q1],h1,?_,by omega,by omega,λ hok => ?_⟩
 .rw[show(511:Int)=((511:Nat):Int)from rfl,t1,ke_ q2 (by omega),orI_i64 t2 (Nat.lt_of_le_of_lt Nat.and_le_left q2),hr]
 .have htop:r/512=m/512:=by
   apply Nat.eq_of_testBit_eq;intro j;rw[show(512:Nat)=2^9 from rfl,Nat.testBit_div_two_pow,Nat.testBit_div_two_pow,h3];have:decide (j+9<9)=false:=by simp
   rw[this];simp
  unfold aI_ topI at hok ⊢;simp only[qAn,Bool.or_eq_true,qDe,beq_iff_eq]at hok ⊢;omega
def l3_(l:List Yz)(name:Str):Yz×Bool:=match l.find? λ q=>q.Ys==name with|some u=>(u,true)|none=>(Yz.mk [] 0 0,false)
theorem tS_(l:List Yz)(name:Str):l3_ l name=(aL_ (λ _ q=>if q.Ys==name then some (q,true)else none) 0 l).getD (Yz.mk [] 0 0,false):=by
 rw[i2_];unfold l3_;cases l.find? λ q=>q.Ys==name<;>rfl
theorem wu_(l:List Yz)(name:Str)(h:l.length<=1000):o7_ l name=some (l3_ l name):=by
 rw[tS_];refine bl_ (aU_ l _ (bB_ (by omega)) (λ i hi => ?_) ?_) (λ _=>rfl) rfl
 .unfold ll_;rw[as_ hi,br_ hi,au_ (by omega)];simp only[cond_true,qBs];cases l[i].Ys==name<;>rfl
 .unfold ll_;rw[bA_];rfl
theorem wv_(l:List Yz)(name:Str)(h:l.length<=1000):ts_ l name=some (l3_ l name):=by
 rw[tS_];refine bl_ (aU_ l _ (bB_ (by omega)) (λ i hi => ?_) ?_) (λ _=>rfl) rfl
 .unfold ln_;rw[as_ hi,br_ hi,au_ (by omega)];simp only[cond_true,qBs];cases l[i].Ys==name<;>rfl
 .unfold ln_;rw[bA_];rfl
def usedN(l:List Xq)(name:Str):Int×Int:=fi_ (fun(s:Int×Int) _ (n:Xq)=>if n.Yw==name then(w64 (s.1+1),w64 (s.2+(n.Xl.length:Int)))else s) (0,0) 0 l
theorem ww_(t:Xk)(name:Str)(h:t.Xz.length<=2000):lX_ t name=some (usedN t.Xz name):=by
 unfold lX_;refine aa_ (a:=usedN t.Xz name) ?_ rfl;refine jt_ (τ:=Int×Int×Int) t.Xz _ (λ i s=>(s.1,s.2,(i:Int))) (λ _ _=>True) (λ s=>(s.1,s.2)) (0,0) (bB_ (by omega)) trivial (λ i s hi _=>⟨?_,trivial⟩) (λ s _ => ?_)
 .unfold lm_;simp only;rw[br_ hi,as_ hi,au_ (by omega)];refine ah_ rfl ?_;simp only[qBs];cases t.Xz[i].Yw==name<;>rfl
 .unfold lm_;simp only;rw[bA_];rfl
theorem wx_(t:Xk)(name:Str)(h:t.Xz.length<=2000):pa_ t name=some (usedN t.Xz name):=by
 unfold pa_;refine aa_ (a:=usedN t.Xz name) ?_ rfl;refine jt_ (τ:=Int×Int×Int) t.Xz _ (λ i s=>(s.1,s.2,(i:Int))) (λ _ _=>True) (λ s=>(s.1,s.2)) (0,0) (bB_ (by omega)) trivial (λ i s hi _=>⟨?_,trivial⟩) (λ s _ => ?_)
 .unfold lp_;simp only;rw[br_ hi,as_ hi,au_ (by omega)];refine ah_ rfl ?_;simp only[qBs];cases t.Xz[i].Yw==name<;>rfl
 .unfold lp_;simp only;rw[bA_];rfl
def l4_(l:List Yz)(t:Xk)(name:Str)(files bytes:Int):Bool:=if !(l3_ l name).2 then true else((decide (files<=0)||decide (files<=w64 ((l3_ l name).1.Xb-(usedN t.Xz name).1)))&&(decide (bytes<=0)||decide (bytes<=w64 ((l3_ l name).1.Zq-(usedN t.Xz name).2))))
theorem pH_(l:List Yz)(t:Xk)(name:Str)(files bytes:Int)(h:l.length<=1000)(ht:t.Xz.length<=2000):hl_ l t name files bytes=some (l4_ l t name files bytes):=by
 unfold hl_ l4_;refine aa_ (wu_ l name h) ?_;cases(l3_ l name).2 with
 | false=>rfl
 | true=>exact ac_ rfl (aa_ (ww_ t name ht) rfl)
theorem wy_(l:List Yz)(t:Xk)(name:Str)(files bytes:Int)(h:l.length<=1000)(ht:t.Xz.length<=2000):pb_ l t name files bytes=some (l4_ l t name files bytes):=by
 unfold pb_ l4_;refine aa_ (wv_ l name h) ?_;cases(l3_ l name).2 with
 | false=>rfl
 | true=>exact ac_ rfl (aa_ (wx_ t name ht) rfl)
def posI(l:List Int)(x:Int):Nat:=l.countP λ y=>decide (y<x)
theorem cut_of{l:List Int}{x:Int}{p:Nat}(hp:p<=l.length)(h1:∀k y,k<p->l[k]? = some y->y<x)(h2:∀k y,p<=k->l[k]? = some y->x<=y):posI l x=p/\l.take p=l.filter (λ y=>decide (y<x))/\l.drop p=l.filter (λ y=>decide (x<=y)):=by
 have ht:∀y∈l.take p,y<x:=λ y hy=>by
  rw[List.mem_take_iff_getElem]at hy;obtain⟨k,hk,rfl⟩:=hy;exact h1 k _ (by omega) (List.getElem?_eq_getElem (by omega))
 have hd:∀y∈l.drop p,x<=y:=λ y hy=>by
  obtain⟨k,hk⟩:=List.mem_iff_getElem?.1 hy;rw[List.getElem?_drop]at hk;exact h2 (p+k) _ (by omega) hk
 have e:l=l.take p++l.drop p:=(List.take_append_drop p l).symm;refine⟨?_,?_,?_⟩
 .unfold posI;rw[e,List.countP_append,List.countP_eq_length.2 (λ y hy=>by simpa using ht y hy),List.countP_eq_zero.2 (λ y hy=>by have:=hd y hy;simp;omega),List.length_take];omega
 .rw (occs := .pos [2]) [e];rw[List.filter_append,List.filter_eq_self.2 (λ y hy=>by simpa using ht y hy),List.filter_eq_nil_iff.2 (λ y hy=>by have:=hd y hy;simp;omega),List.append_nil]
 .rw (occs := .pos [2]) [e];have e1:(l.take p).filter (λ y=>decide (x<=y))=[]:=List.filter_eq_nil_iff.2 (λ y hy=>by have:=ht y hy;simp;omega);have e2:(l.drop p).filter (λ y=>decide (x<=y))=l.drop p:=List.filter_eq_self.2 (λ y hy=>by simpa using hd y hy);rw[List.filter_append,e1,e2,List.nil_append]
theorem pm_{l:List Int}(hs:dw_ l){i j:Nat}{x y:Int}(hi:l[i]? = some x)(hj:l[j]? = some y)(h:i<j):x<y:=by
 obtain⟨h1,rfl⟩:=List.getElem?_eq_some_iff.1 hi;obtain⟨h2,rfl⟩:=List.getElem?_eq_some_iff.1 hj;exact List.pairwise_iff_getElem.1 hs i j h1 h2 h
theorem search_loop(l:List Int)(x:Int)(hs:dw_ l)(hl:l.length<=1000):∃p:Nat,ak_ (aX_ l x) BIG (0,(l.length:Int))=some (p:Int)/\p<=l.length/\(∀k y,k<p->l[k]? = some y->y<x)/\∀k y,p<=k->l[k]? = some y->x<=y:=by
 have key:∀(n i j:Nat),j-i<=n->i<=j->j<=l.length->(∀k y,k<i->l[k]? = some y->y<x)->(∀k y,j<=k->l[k]? = some y->x<=y) ->
   ∃p:Nat,ak_ (aX_ l x) (n+1) ((i:Int),(j:Int))=some (p:Int)/\p<=l.length/\(∀k y,k<p->l[k]? = some y->y<x)/\∀k y,p<=k->l[k]? = some y->x<=y:=by
  intro n
  induction n with
  | zero =>
   intro i j hn hij hj h1 h2;obtain rfl:i=j:=by omega
   exact⟨i,aZ_ (by unfold aX_;exact ac_ (by simp) rfl),hj,h1,h2⟩
  | succ n ih =>
   intro i j hn hij hj h1 h2;by_cases hlt:i<j
   .have hmid:w64 (((IntKind.u64.wrap (w64 ((i:Int)+(j:Int)))).fdiv (2^1)))=(((i+j)/2:Nat):Int):=by
     rw[ap_ (n:=(i:Int)+(j:Int)) ⟨by omega,by omega⟩,wu64,Int.emod_eq_of_lt (by omega) (by omega),Int.fdiv_eq_ediv_of_nonneg _ (by omega),ap_ ⟨by omega,by omega⟩];omega
    have hm:(i+j)/2<l.length:=by omega
    have hless:cmp_Less_int l[(i+j)/2] x=some (decide (l[(i+j)/2]<x)):=by
     unfold cmp_Less_int cmp_isNaN_int;simp
    by_cases hc:l[(i+j)/2]<x
    .obtain⟨p,hp,hq⟩:=ih ((i+j)/2+1) j (by omega) (by omega) hj (λ k y hk hy=>by
      rcases Nat.lt_or_ge k ((i+j)/2)with h|h
      .have:=pm_ hs hy (List.getElem?_eq_getElem hm) h;omega
      .obtain rfl:k=(i+j)/2:=by omega
       rw[List.getElem?_eq_getElem hm]at hy;obtain rfl:=qSj hy;exact hc) h2
     refine⟨p,bL_ ?_ hp,hq⟩;unfold aX_;simp only;rw[hmid,as_ hm,au_ (by omega)];refine ah_ (by simpa using hlt) (aa_ rfl (aa_ hless ?_));rw[show decide (l[(i+j)/2]<x)=true by simpa using hc];rfl
    .obtain⟨p,hp,hq⟩:=ih i ((i+j)/2) (by omega) (by omega) (by omega) h1 (λ k y hk hy=>by
      rcases Nat.lt_or_ge ((i+j)/2) k with h|h
      .have:=pm_ hs (List.getElem?_eq_getElem hm) hy h;omega
      .obtain rfl:k=(i+j)/2:=by omega
       rw[List.getElem?_eq_getElem hm]at hy;obtain rfl:=qSj hy;omega)
     refine⟨p,bL_ ?_ hp,hq⟩;unfold aX_;simp only;rw[hmid,as_ hm];refine ah_ (by simpa using hlt) (aa_ rfl (aa_ hless ?_));rw[show decide (l[(i+j)/2]<x)=false by simpa using hc];rfl
   .obtain rfl:i=j:=by omega
    exact⟨i,aZ_ (by unfold aX_;exact ac_ (by simp) rfl),hj,h1,h2⟩
 have big:∀{σ β:Type} {body:σ->Option (Step σ β)} {n k:Nat} {s:σ} {b:β},ak_ body n s=some b->ak_ body (k+n) s=some b:=by
  intro σ β body n
  induction n with
  | zero=>intro k s b h;cases h
  | succ n ih =>
   intro k s b h;rw[show k+(n+1)=(k+n)+1 by omega];simp only[ak_]at h ⊢;split at h
   .exact h
   .exact ih h
   .exact h
 obtain⟨p,hp,hq⟩:=key 1000 0 l.length (by omega) (by omega) (Nat.le_refl _) (λ k y hk=>by omega) (λ k y hk hy=>by rw[List.getElem?_eq_none hk]at hy;cases hy);exact⟨p,by rw[show BIG=18446744073709550615+(1000+1)from rfl];exact big hp,hq⟩
theorem search_eq(l:List Int)(x:Int)(hs:dw_ l)(hl:l.length<=1000):bF_ l x=some ((posI l x:Int),decide (x∈l))/\posI l x<=l.length/\l.take (posI l x)=l.filter (λ y=>decide (y<x))/\l.drop (posI l x)=l.filter (λ y=>decide (x<=y))/\(x∈l->l[posI l x]? = some x):=by
 obtain⟨p,hp,h0,h1,h2⟩:=search_loop l x hs hl;obtain⟨e,e1,e2⟩:=cut_of h0 h1 h2;have hmem:x∈l->l[p]? = some x:=λ hx=>by
  obtain⟨k,hk⟩:=List.mem_iff_getElem?.1 hx;rcases Nat.lt_trichotomy k p with h|h|h
  .have:=h1 k x h hk;omega
  .subst h;exact hk
  .have hlt:p<l.length:=by have:=(List.getElem?_eq_some_iff.1 hk).1;omega
   have h5:=pm_ hs (List.getElem?_eq_getElem hlt) hk h;have h6:=h2 p _ (Nat.le_refl _) (List.getElem?_eq_getElem hlt);omega
 rw[e];refine⟨?_,h0,e1,e2,hmem⟩;unfold bF_;refine aa_ hp ?_;by_cases hlt:p<l.length
 .rw[br_ hlt,as_ hlt];have nan:cM_ l[p]=some false:=by unfold cM_;simp
  rw[show(Option.bind (some l[p]) λ y6=>Option.bind (cM_ y6) λ y7=>Option.bind (bif y7 then Option.bind (cM_ x) λ y8=>some y8 else some false) λ y9=>some y9)=some false by simp[nan]];have:(l[p]==x)=decide (x∈l):=by
   rw[Bool.eq_iff_iff,beq_iff_eq,qDe];constructor
   .intro h;rw[←h];exact List.getElem_mem hlt
   .intro h;have:=hmem h;rw[List.getElem?_eq_getElem hlt]at this;exact qSj this
  simp only[qBs,cond_true];rw[this];cases decide (x∈l)<;>rfl
 .have:decide ((p:Int)<(l.length:Int))=false:=by simp;omega
  rw[this];have hx:decide (x∈l)=false:=by
   rw[qDf];intro h;have:=(List.getElem?_eq_some_iff.1 (hmem h)).1;omega
  rw[hx];rfl
def putX(l:List Int)(x:Int):List Int:=l.filter (λ y=>decide (y<x))++x::l.filter (λ y=>decide (x<y))
def outX(l:List Int)(x:Int):List Int:=l.filter λ y=>y != x
theorem drop_ge{l:List Int}{x:Int}(hx:x∉l):l.filter (λ y=>decide (x<=y))=l.filter (λ y=>decide (x<y)):=by
 apply List.filter_congr;intro y hy;have:y≠x:=λ e=>hx (e▸hy)
 rw[Bool.eq_iff_iff,qDe,qDe];omega
theorem drop_ge'{l:List Int}{x:Int}(hs:dw_ l)(hx:x∈l):l.filter (λ y=>decide (x<=y))=x::l.filter (λ y=>decide (x<y)):=by
 induction l with
 | nil=>cases hx
 | cons a l ih =>
  obtain⟨h1,h2⟩:=List.pairwise_cons.1 hs;rw[List.filter_cons,List.filter_cons];rcases List.mem_cons.1 hx with rfl|hx
  .have e1:decide (x<=x)=true:=by simp
   have e2:decide (x<x)=false:=by simp
   rw[e1,e2];simp only[if_true,Bool.false_eq_true,if_false]
   congr 1
   apply List.filter_congr;intro y hy;have:=h1 y hy;rw[Bool.eq_iff_iff,qDe,qDe];omega
  .have hax:=h1 x hx;have e1:decide (x<=a)=false:=by simp;omega
   have e2:decide (x<a)=false:=by simp;omega
   rw[e1,e2];simp only[Bool.false_eq_true,if_false];exact ih h2 hx
theorem putX_mem{l:List Int}{x:Int}(hs:dw_ l)(hx:x∈l):putX l x=l:=by
 unfold putX;rw[←drop_ge' hs hx]
 induction l with
 | nil=>rfl
 | cons a l ih =>
  obtain⟨h1,h2⟩:=List.pairwise_cons.1 hs;rw[List.filter_cons,List.filter_cons];by_cases ha:a<x
  .have e2:decide (x<=a)=false:=by simp;omega
   rw[if_pos (by simpa using ha),e2];simp only[Bool.false_eq_true,if_false,List.cons_append];rcases List.mem_cons.1 hx with rfl|hx
   .omega
   .rw[ih h2 hx]
  .have e2:decide (x<=a)=true:=by simp;omega
   rw[if_neg (by simpa using ha),e2];have hn:l.filter (λ y=>decide (y<x))=[]:=by
    rw[List.filter_eq_nil_iff];intro y hy;have:=h1 y hy;simp;omega
   have ha':l.filter (λ y=>decide (x<=y))=l:=by
    rw[List.filter_eq_self];intro y hy;have:=h1 y hy;simp;omega
   rw[hn,ha'];simp
theorem outX_cut{l:List Int}{x:Int}(hs:dw_ l):outX l x=l.filter (λ y=>decide (y<x))++l.filter (λ y=>decide (x<y)):=by
 unfold outX
 induction l with
 | nil=>rfl
 | cons a l ih =>
  obtain⟨h1,h2⟩:=List.pairwise_cons.1 hs;rw[List.filter_cons,List.filter_cons,List.filter_cons];rcases Int.lt_trichotomy a x with h|h|h
  .have e1:(a != x)=true:=by rw[bne_iff_ne];omega
   have e2:decide (a<x)=true:=by simpa using h
   have e3:decide (x<a)=false:=by simp;omega
   rw[e1,e2,e3];simp only[if_true,Bool.false_eq_true,if_false,List.cons_append];rw[ih h2]
  .subst h;simp only[bne_self_eq_false,Bool.false_eq_true,if_false,Int.lt_irrefl,decide_false];exact ih h2
  .have e1:(a != x)=true:=by rw[bne_iff_ne];omega
   have e2:decide (a<x)=false:=by simp;omega
   have e3:decide (x<a)=true:=by simpa using h
   rw[e1,e2,e3];simp only[if_true,Bool.false_eq_true,if_false];have hn:l.filter (λ y=>decide (y<x))=[]:=by
    rw[List.filter_eq_nil_iff];intro y hy;have:=h1 y hy;simp;omega
   rw[ih h2,hn];rfl
theorem outX_sorted{l:List Int}{x:Int}(hs:dw_ l):dw_ (outX l x):=hs.filter _
theorem mem_outX{l:List Int}{x y:Int}:y∈outX l x↔y∈l/\y≠x:=by
 unfold outX;rw[List.mem_filter,bne_iff_ne]
theorem outX_len(l:List Int)(x:Int):(outX l x).length<=l.length:=List.length_filter_le _ _
theorem insN_one{xs:List Int}{p:Nat}{x:Int}(h:p<=xs.length)(hl:xs.length<=1000):insN 8 xs (p:Int) [x]=some (xs.take p++x::xs.drop p):=by
 show(if 0<=(p:Int)/\(p:Int)<=(xs.length:Int)/\(xs.length+(0+1))*8<=140737488355328 then some (xs.take (p:Int).toNat++([x]++xs.drop (p:Int).toNat))else none)=_;rw[if_pos ⟨by omega,by omega,by omega⟩,qTn];rfl
theorem delN_one{α:Type}{xs:List α}{p:Nat}(h:p<xs.length):delN xs (p:Int) ((p+1:Nat):Int)=some (xs.take p++xs.drop (p+1)):=by
 cases xs with
 | nil=>simp at h
 | cons a l =>
  show(if 0<=(p:Int)/\(p:Int)<=((p+1:Nat):Int)/\((p+1:Nat):Int)<=((a::l).length:Int)then some ((a::l).take (p:Int).toNat++(a::l).drop ((p+1:Nat):Int).toNat)else none)=_;rw[if_pos ⟨by omega,by omega,by omega⟩,qTn,qTn]
def setX(s:Xx)(l:List Int):Xx:=Xx.mk s.Yx s.Yj s.Xm l
theorem lock_eq(s:Xx)(x:Int)(hs:dw_ s.Xs)(hl:s.Xs.length<=1000):ex_ s x=some (setX s (putX s.Xs x)):=by
 obtain⟨h1,h2,h3,h4,h5⟩:=search_eq s.Xs x hs hl;unfold ex_ setX;refine aa_ (a:=(s.Yx,s.Yj,s.Xm.Xt,s.Xm.Xz,putX s.Xs x)) ?_ rfl;refine aa_ h1 ?_;by_cases hx:x∈s.Xs
 .rw[show decide (x∈s.Xs)=true by simpa using hx,putX_mem hs hx];rfl
 .rw[show decide (x∈s.Xs)=false by simpa using hx];refine ah_ rfl (aa_ (l2_ hl) (aa_ (a:=putX s.Xs x) ?_ rfl));refine(insN_one h2 hl).trans ?_;rw[h3,h4,drop_ge hx];rfl
theorem qI_(s:Xx)(x:Int)(hs:dw_ s.Xs)(hl:s.Xs.length<=1000):er_ s x=some (setX s (outX s.Xs x)):=by
 obtain⟨h1,h2,h3,h4,h5⟩:=search_eq s.Xs x hs hl;unfold er_ setX;refine aa_ (a:=(s.Yx,s.Yj,s.Xm.Xt,s.Xm.Xz,outX s.Xs x)) ?_ rfl;refine aa_ h1 ?_;by_cases hx:x∈s.Xs
 .rw[show decide (x∈s.Xs)=true by simpa using hx];have hlt:=(List.getElem?_eq_some_iff.1 (h5 hx)).1;refine ah_ rfl (aa_ (l2_ hl) (aa_ (a:=outX s.Xs x) ?_ rfl));rw[au_ (by omega)];refine(delN_one hlt).trans ?_;rw[outX_cut hs,h3]
  congr 2
  rw[←List.drop_drop,h4,drop_ge' hs hx];rfl
 .rw[show decide (x∈s.Xs)=false by simpa using hx];have:outX s.Xs x=s.Xs:=by
   unfold outX;rw[List.filter_eq_self];intro y hy;rw[bne_iff_ne];exact λ e=>hx (e▸hy)
  rw[this];rfl
theorem wz_(l:List Int)(x:Int)(hl:l.length<=1000):cF_ l x=some (decide (x∈l)):=by
 have h:gn_ l x=some (at_ (λ y=>y==x) l):=by
  rw[←i3_];refine bl_ (aU_ l _ (bB_ (by omega)) (λ i hi => ?_) ?_) (λ _=>rfl) rfl
  .unfold fd_;rw[as_ hi,br_ hi,au_ (by omega)];simp only[cond_true,qBs];have e:(x==l[i])=(l[i]==x):=by rw[Bool.eq_iff_iff,beq_iff_eq,beq_iff_eq];exact⟨Eq.symm,Eq.symm⟩
   rw[e];cases l[i]==x<;>rfl
  .unfold fd_;rw[bA_];rfl
 unfold cF_;refine aa_ h ?_;rw[at_any]
 congr 1
 rw[Bool.eq_iff_iff,List.any_eq_true,qDe];constructor
 .rintro⟨y,h1,h2⟩;rw[beq_iff_eq]at h2;exact h2▸h1
 .intro h;exact⟨x,h,by simp⟩
def di_(s:Str):Str:=bif decide ((s.length:Int)>64)then[]else s
theorem h6_{n:Xq}(h:aM_ n=true):0<=n.Xo/\n.Xo<=2147483647:=by
 unfold aM_ at h;simp only[qAn,qDe]at h;exact h.1.1.1.1.1.2
theorem okNode_dir{n:Xq}(h:aM_ n=true)(hd:an_ n.Xv 31=true):n.Xl=[]:=by
 unfold aM_ at h;simp only[qAn,Bool.or_eq_true,hd,beq_iff_eq]at h;rcases h.2 with h2|h2
 .cases h2
 .exact h2
theorem eP_(t:Xk)(h:t.Xz.length<=2000):aE_ t=some t:=by
 unfold aE_;refine aa_ (makeI_eq (by omega) (by omega) (by omega)) ?_;rw[qTn];have:lH_ (List.replicate t.Xz.length (Xq.mk 0 0 0 [] 0 [] [] [] 0 0 [])) t.Xz=t.Xz:=by
  unfold lH_;simp
 rw[this]
def bv_(l:List Xq)(n:Xq):List Xq:=l.map λ m=>bif m.Id_==n.Id_ then n else m
theorem kh_(l:List Xq)(n:Xq):(bv_ l n).length=l.length:=by simp[bv_]
theorem pp_{l:List Xq}(hs:l.Pairwise λ a b=>a.Id_<b.Id_){i:Nat}{m n:Xq}(hi:l[i]? = some m)(hn:n.Id_=m.Id_):l.set i n=bv_ l n:=by
 apply List.ext_getElem?;intro j;unfold bv_;rw[List.getElem?_set,List.getElem?_map];have hlt:=(List.getElem?_eq_some_iff.1 hi).1;by_cases hij:i=j
 .subst hij;rw[if_pos rfl,if_pos hlt,hi];simp[hn]
 .rw[if_neg hij];cases hj:l[j]? with
  | none=>rfl
  | some x =>
   have hne:(x.Id_==n.Id_)=false:=by
    rw[beq_eq_false_iff_ne];intro e;obtain⟨hj1,rfl⟩:=List.getElem?_eq_some_iff.1 hj;obtain⟨hi1,rfl⟩:=List.getElem?_eq_some_iff.1 hi;rw[List.pairwise_iff_getElem]at hs;rcases Nat.lt_trichotomy i j with h|h|h
    .have:=hs i j hi1 hj1 h;omega
    .exact hij h
    .have:=hs j i hj1 hi1 h;omega
   simp[hne]
def bP_(n:Xq)(uid:Str)(now:Int):Xq:=Xq.mk n.Id_ n.Xw ((w64 (n.Xo+1)).tmod 2147483648) n.Xy n.Xv n.Yw n.Yv (di_ uid) n.Xu (bt_ now) n.Xl
theorem eQ_(s:Str):ea_ s=some (di_ s):=by unfold ea_ di_;cases decide ((s.length:Int)>64)<;>rfl
theorem hu_(t:Xk)(i:Nat)(n:Xq)(uid:Str)(now:Int)(hi:t.Xz[i]? = some n)(hs:t.Xz.Pairwise λ a b=>a.Id_<b.Id_)(hv:0<=n.Xo/\n.Xo<=2147483647):c1_ t (i:Int) uid now=some (Xk.mk t.Xt (bv_ t.Xz (bP_ n uid now))):=by
 have hlt:=(List.getElem?_eq_some_iff.1 hi).1;have hset:∀x:Xq,al_ (t.Xz.set i x) (i:Int)=some x:=λ x=>by
  rw[bk_,List.getElem?_set,if_pos rfl,if_pos hlt]
 have hv1:w64 (n.Xo+1)=n.Xo+1:=ap_ ⟨by omega,by omega⟩;rw[←pp_ hs hi (n:=bP_ n uid now) rfl];unfold c1_;rw[bk_,hi];refine aa_ rfl ?_;simp only[qTn];by_cases hc:n.Xo=2147483647
 .have ec:decide (w64 (n.Xo+1)>2147483647)=true:=by rw[hv1,qDe];omega
  refine aa_ (ah_ ec rfl) ?_;rw[List.set_set];refine aa_ (hset _) (aa_ rfl (aa_ (eQ_ uid) ?_));rw[List.set_set,List.set_set];have:(w64 (n.Xo+1)).tmod 2147483648=0:=by rw[hv1,hc];rfl
  unfold bP_;rw[this];rfl
 .have ec:decide (w64 (n.Xo+1)>2147483647)=false:=by rw[hv1,qDf];omega
  refine aa_ (ac_ ec rfl) ?_;refine aa_ (hset _) (aa_ rfl (aa_ (eQ_ uid) ?_));rw[List.set_set,List.set_set];have:(w64 (n.Xo+1)).tmod 2147483648=w64 (n.Xo+1):=by
   rw[hv1,Int.tmod_eq_emod_of_nonneg (by omega),Int.emod_eq_of_lt (by omega) (by omega)]
  unfold bP_;rw[this];rfl
def newN(t:Xk)(dir:Int)(name:Str)(mode:Int)(uid gid:Str)(now:Int):Xq:=Xq.mk t.Xt dir 0 name mode (di_ uid) (di_ gid) (di_ uid) (bt_ now) (bt_ now) []
def ki_(t:Xk)(dir:Int)(name:Str)(mode:Int)(uid gid:Str)(now:Int):Xk×Int×Int:=bif !(ai_ t.Xz dir).2 then(t,0,8)else bif !(an_ (ai_ t.Xz dir).1.Xv 31)then(t,0,9)else bif !(bM_ name)then(t,0,6)else bif !(aI_ mode)then(t,0,1)else bif(t.Xz.find? (cT_ dir name)).isSome then(t,0,7)else bif decide ((t.Xz.length:Int)>=1024)||decide (t.Xt>1048575)then(t,0,22)else(Xk.mk (w64 (t.Xt+1)) (bv_ t.Xz (bP_ (ai_ t.Xz dir).1 uid now)++[newN t dir name mode uid gid now]),t.Xt,0)
theorem at_pos{α:Type}(p:α->Bool)(l:List α):decide (at_ p l>=0)=(l.find? p).isSome:=by
 have:=ju_ p l;have e:decide (at_ p l>=0) = !decide (at_ p l<0):=by rw[Bool.eq_iff_iff];simp
 rw[e,this];cases l.find? p<;>rfl
theorem u4_(t:Xk)(dir:Int)(name:Str)(mode:Int)(uid gid:Str)(now:Int)(h:OkT t.Xz t.Xt)(hm:mode<=9223372036854775807)(hn:name.length<=9223372036854775807):h3_ t dir name mode uid gid now=some (ki_ t dir name mode uid gid now):=by
 have hl:=h.len;have hc:=eP_ t (by omega);unfold h3_ ki_;refine aa_ (qw_ t dir h) ?_;unfold md_;cases h1:(ai_ t.Xz dir).2 with
 | false=>exact aa_ hc rfl
 | true =>
  cases h2:an_ (ai_ t.Xz dir).1.Xv 31 with
  | false=>exact aa_ hc rfl
  | true =>
   refine ac_ rfl (aa_ (hq_ name hn) ?_);cases bM_ name with
   | false=>exact aa_ hc rfl
   | true =>
    refine ac_ rfl (aa_ (lq_ mode hm) ?_);cases aI_ mode with
    | false=>exact aa_ hc rfl
    | true =>
     refine ac_ rfl (aa_ (sq_ t dir name (by omega)) ?_);rw[at_pos];cases(t.Xz.find? (cT_ dir name)).isSome with
     | true=>exact aa_ hc rfl
     | false =>
      refine ac_ rfl ?_;cases decide ((t.Xz.length:Int)>=1024)||decide (t.Xt>1048575)with
      | true=>exact aa_ hc rfl
      | false =>
       obtain⟨i,e1,e2,e3⟩:=at_id h1;refine ac_ rfl (aa_ hc (aa_ (dd_ t dir (by omega)) ?_));rw[e1];refine aa_ (hu_ t i _ uid now e2 h.srt (h6_ (h.flds _ (bs_ h1).1))) ?_;refine aa_ rfl (aa_ (eQ_ uid) (aa_ (eQ_ gid) (aa_ (eQ_ uid) (aa_ (cx_ ?_ ?_) rfl))))
       .simp[kh_];omega
       .simp[kh_];omega
def kj_(t:Xk)(id:Int)(uid:Str)(now:Int):Xk×Int:=bif !(ai_ t.Xz id).2 then(t,8)else bif id==1 then(t,1)else bif decide (((cS_ t.Xz id).length:Int)>0)then(t,23)else(Xk.mk t.Xt ((bv_ t.Xz (bP_ (ai_ t.Xz (ai_ t.Xz id).1.Xw).1 uid now)).filter λ n=>n.Id_ != id),0)
theorem filter_cut{l:List Xq}(hs:l.Pairwise λ a b=>a.Id_<b.Id_){i:Nat}{m:Xq}(hi:l[i]? = some m):(l.filter λ n=>n.Id_ != m.Id_)=l.take i++l.drop (i+1):=by
 induction l generalizing i with
 | nil=>simp at hi
 | cons x l ih =>
  obtain⟨h1,h2⟩:=List.pairwise_cons.1 hs;rw[List.filter_cons];cases i with
  | zero =>
   simp at hi;subst hi;simp only[bne_self_eq_false,Bool.false_eq_true,if_false,List.take_zero,List.nil_append,List.drop_succ_cons,List.drop_zero];rw[List.filter_eq_self];intro n hn;have:=h1 n hn;rw[bne_iff_ne];omega
  | succ i =>
   have hi':l[i]? = some m:=by simpa using hi
   have:=h1 m (List.mem_of_getElem? hi');have hne:(x.Id_ != m.Id_)=true:=by rw[bne_iff_ne];omega
   rw[hne,ih h2 hi'];rfl
theorem kk_{l:List Xq}(hs:l.Pairwise λ a b=>a.Id_<b.Id_)(n:Xq):(bv_ l n).Pairwise λ a b=>a.Id_<b.Id_:=by
 unfold bv_;rw[List.pairwise_map];refine hs.imp fun{a b} hab => ?_
 have ea:(bif a.Id_==n.Id_ then n else a).Id_=a.Id_:=by
  cases h:a.Id_==n.Id_ with
  | true=>exact(beq_iff_eq.1 h).symm
  | false=>rfl
 have eb:(bif b.Id_==n.Id_ then n else b).Id_=b.Id_:=by
  cases h:b.Id_==n.Id_ with
  | true=>exact(beq_iff_eq.1 h).symm
  | false=>rfl
 rw[ea,eb];exact hab
theorem updN_get{l:List Xq}{n:Xq}{i:Nat}{m:Xq}(h:l[i]? = some m):∃m',(bv_ l n)[i]? = some m'/\m'.Id_=m.Id_:=by
 unfold bv_;rw[List.getElem?_map,h];refine⟨_,rfl,?_⟩;show(bif m.Id_==n.Id_ then n else m).Id_=m.Id_;cases h:m.Id_==n.Id_ with
 | true=>exact(beq_iff_eq.1 h).symm
 | false=>rfl
theorem u5_(t:Xk)(id:Int)(uid:Str)(now:Int)(h:OkT t.Xz t.Xt):kM_ t id uid now=some (kj_ t id uid now):=by
 have hl:=h.len;have hc:=eP_ t (by omega);unfold kM_ kj_;refine aa_ (dd_ t id (by omega)) ?_;cases h1:(ai_ t.Xz id).2 with
 | false =>
  rw[l1_ h1];exact aa_ hc rfl
 | true =>
  obtain⟨i,e1,e2,e3⟩:=at_id h1;rw[e1];refine ac_ (by simp) ?_;cases h2:id==1 with
  | true=>exact aa_ hc rfl
  | false =>
   refine ac_ rfl (aa_ (iJ_ t id h) ?_);cases decide (((cS_ t.Xz id).length:Int)>0)with
   | true=>exact aa_ hc rfl
   | false =>
    obtain⟨hm,hid⟩:=bs_ h1;have hne:(ai_ t.Xz id).1.Id_≠1:=by rw[hid];simpa using h2
    obtain⟨p,hp1,hp2,hp3,hp4⟩:=h.par _ hm hne;have hpn:=iI_ h.srt hp1;rw[hp2]at hpn;have hp:(ai_ t.Xz (ai_ t.Xz id).1.Xw).2=true:=by rw[hpn]
    obtain⟨j,f1,f2,f3⟩:=at_id hp;refine ac_ rfl (aa_ hc (aa_ (a:=(ai_ t.Xz id).1) (by rw[bk_,e2]) (aa_ (dd_ t _ (by omega)) ?_)));rw[f1];refine aa_ (hu_ t j _ uid now f2 h.srt (h6_ (h.flds _ (bs_ hp).1))) ?_;generalize hU:bv_ t.Xz (bP_ (ai_ t.Xz (ai_ t.Xz id).1.Xw).1 uid now)=U;have hUl:U.length=t.Xz.length:=by rw[←hU,kh_]
    rw[au_ (by omega)];refine aa_ (cf_ (by omega) (by omega) (by simp only[hUl];omega)) (aa_ (cf_ (by omega) (by simp only[hUl];omega) (by omega)) (aa_ (cf_ (by omega) (by omega) (by simp only[hUl];omega)) ?_));have hsrt:U.Pairwise λ a b=>a.Id_<b.Id_:=by rw[←hU];exact kk_ h.srt _
    obtain⟨m',g1,g2⟩:=updN_get (n:=bP_ (ai_ t.Xz (ai_ t.Xz id).1.Xw).1 uid now) e2;rw[hU]at g1;have hcut:=filter_cut hsrt g1;rw[g2,hid]at hcut;rw[hcut];simp only[qTn,Int.toNat_zero,List.drop_zero];refine aa_ (cx_ ?_ ?_) rfl
    .simp;omega
    .simp;omega
def putD(n:Xq)(d:Str):Xq:=Xq.mk n.Id_ n.Xw n.Xo n.Xy n.Xv n.Yw n.Yv n.Yg n.Xu n.Xa d
def bG_(n:Xq)(s:Str):Xq:=Xq.mk n.Id_ n.Xw n.Xo s n.Xv n.Yw n.Yv n.Yg n.Xu n.Xa n.Xl
theorem fileT_zero{l:List Xq}{id:Int}(h:(ht_ l id != 0)=false):(ai_ l id).2=true/\an_ (ai_ l id).1.Xv 31=false:=by
 unfold ht_ at h;cases h1:(ai_ l id).2<;>cases h2:an_ (ai_ l id).1.Xv 31<;>rw[h1,h2]at h<;>first|exact⟨rfl,rfl⟩|(cases h)
def fitS(s:Str)(n:Nat):Str:=s.take n++List.replicate (n-s.length) 0
theorem su_(s:Str)(n:Nat):(fitS s n).length=n:=by simp[fitS];omega
theorem rQ_(s:Str)(n:Nat)(hs:s.length<=65536)(hn:n<=65536):mD_ s (n:Int)=some (fitS s n):=by
 unfold mD_ fitS;by_cases h:n<=s.length
 .refine ah_ (by simpa using h) (aa_ (cf_ (by omega) (by omega) (by omega)) ?_);rw[qTn,Int.toNat_zero,List.drop_zero,show n-s.length=0 by omega];simp
 .refine ac_ (by simp;omega) ?_;rw[ap_ ⟨by omega,by omega⟩,show(n:Int)-(s.length:Int)=((n-s.length:Nat):Int)by omega];have hr:strings_Repeat [0] ((n-s.length:Nat):Int)=some (List.replicate (n-s.length) 0):=by
   unfold strings_Repeat;rw[if_pos ⟨by omega,by omega,by rw[qTn,List.length_singleton];omega⟩];simp
  refine aa_ hr (aa_ (cy_ (by simp;omega)) ?_);rw[List.take_of_length_le (by omega)]
def gi_(t:Xk)(id size:Int)(uid:Str)(now:Int):Xk×Int:=bif ht_ t.Xz id != 0 then(t,ht_ t.Xz id)else bif decide (size<0)then(t,1)else bif decide (size>65536)then(t,4)else bif size==((ai_ t.Xz id).1.Xl.length:Int)then(t,0)else(Xk.mk t.Xt (bv_ t.Xz (bP_ (putD (ai_ t.Xz id).1 (fitS (ai_ t.Xz id).1.Xl size.toNat)) uid now)),0)
theorem upd_upd{l:List Xq}{a b:Xq}(h:a.Id_=b.Id_):bv_ (bv_ l a) b=bv_ l b:=by
 unfold bv_;rw[List.map_map]
 congr 1
 funext m
 show(bif(bif m.Id_==a.Id_ then a else m).Id_==b.Id_ then b else(bif m.Id_==a.Id_ then a else m))=_;cases hm:m.Id_==a.Id_ with
 | true =>
  have:=beq_iff_eq.1 hm;simp[h,this]
 | false=>rfl
theorem tT_{t:Xk}{k:Nat}{m n:Xq}(hk:t.Xz[k]? = some m)(hid:n.Id_=m.Id_)(hs:t.Xz.Pairwise λ a b=>a.Id_<b.Id_)(hv:0<=n.Xo/\n.Xo<=2147483647)(uid:Str)(now:Int) :
  c1_ (Xk.mk t.Xt (t.Xz.set k n)) (k:Int) uid now=some (Xk.mk t.Xt (bv_ t.Xz (bP_ n uid now))):=by
 have hlt:=(List.getElem?_eq_some_iff.1 hk).1;have hset:=pp_ hs hk hid;rw[hu_ (Xk.mk t.Xt (t.Xz.set k n)) k n uid now (by simp only;rw[List.getElem?_set,if_pos rfl,if_pos hlt]) (by simp only;rw[hset];exact kk_ hs n) hv];simp only;rw[hset,upd_upd (by rfl)]
theorem oq_(t:Xk)(id size:Int)(uid:Str)(now:Int)(h:OkT t.Xz t.Xt):gg_ t id size uid now=some (gi_ t id size uid now):=by
 have hl:=h.len;have hc:=eP_ t (by omega);obtain⟨i,e1,e2⟩:=qB_ t id h;unfold gg_ gi_;refine aa_ e1 ?_;cases hf:ht_ t.Xz id != 0 with
 | true=>exact aa_ hc rfl
 | false =>
  obtain⟨k,rfl,e3⟩:=e2 hf;have hm:=List.mem_of_getElem? e3;have hd:=rN_ (h.flds _ hm);have hv:=h6_ (h.flds _ hm);refine ac_ rfl ?_;by_cases h0:size<0
  .rw[show decide (size<0)=true by simpa using h0];exact aa_ hc rfl
  .by_cases h1:size>65536
   .rw[show decide (size<0)=false by simpa using h0,show decide (size>65536)=true by simpa using h1];exact aa_ hc rfl
   .rw[show decide (size<0)=false by simpa using h0,show decide (size>65536)=false by simpa using h1];refine ac_ rfl (ac_ rfl (aa_ (a:=(ai_ t.Xz id).1) (by rw[bk_,e3]) ?_));cases size==((ai_ t.Xz id).1.Xl.length:Int)with
    | true=>exact aa_ hc rfl
    | false =>
     refine ac_ rfl (aa_ hc (aa_ (a:=(ai_ t.Xz id).1) (by rw[bk_,e3]) ?_));obtain⟨n,rfl⟩:∃n:Nat,size=(n:Int):=⟨size.toNat,by omega⟩;refine aa_ (rQ_ _ n hd (by omega)) (aa_ (a:=(ai_ t.Xz id).1) (by rw[bk_,e3]) ?_);refine aa_ (tT_ e3 (n:=putD (ai_ t.Xz id).1 (fitS (ai_ t.Xz id).1.Xl n)) rfl h.srt hv uid now) rfl
def wrS(old:Str)(o:Nat)(data:Str):Str:=fitS old o++data++old.drop (o+data.length)
def writeT(t:Xk)(id offset:Int)(data uid:Str)(now:Int):Xk×Int×Int :=
 bif ht_ t.Xz id != 0 then(t,0,ht_ t.Xz id)else bif decide (offset<0)then(t,0,1)else bif data==[]then(t,0,0)else
 let o:=bif an_ (ai_ t.Xz id).1.Xv 30 then((ai_ t.Xz id).1.Xl.length:Int)else offset
 bif decide (o+(data.length:Int)>65536)then(t,0,4)else
 (Xk.mk t.Xt (bv_ t.Xz (bP_ (putD (ai_ t.Xz id).1 (wrS (ai_ t.Xz id).1.Xl o.toNat data)) uid now)),(data.length:Int),0)
theorem drop_min(s:Str)(k:Nat):s.drop (min k s.length)=s.drop k:=by
 rcases Nat.lt_or_ge k s.length with h'|h'
 .rw[Nat.min_eq_left (by omega)]
 .rw[Nat.min_eq_right h',List.drop_eq_nil_of_le h',List.drop_eq_nil_of_le (Nat.le_refl _)]
theorem wA_(t:Xk)(id offset:Int)(data uid:Str)(now:Int)(h:OkT t.Xz t.Xt)(ho:offset<=9223372036854775807)(hdl:data.length<=9223372036854775807):jp_ t id offset data uid now=some (writeT t id offset data uid now):=by
 have hl:=h.len;have hc:=eP_ t (by omega);obtain⟨i,e1,e2⟩:=qB_ t id h;unfold jp_ writeT;refine aa_ e1 ?_;cases hf:ht_ t.Xz id != 0 with
 | true=>exact aa_ hc rfl
 | false =>
  obtain⟨k,rfl,e3⟩:=e2 hf;have hm:=List.mem_of_getElem? e3;have hd:=rN_ (h.flds _ hm);have hv:=h6_ (h.flds _ hm);have hmode:=h.hm hm;refine ac_ rfl ?_;by_cases h0:offset<0
  .rw[show decide (offset<0)=true by simpa using h0];exact aa_ hc rfl
  .rw [show decide (offset<0)=false by simpa using h0];refine ac_ rfl ?_;cases data==[]with
   | true=>exact aa_ hc rfl
   | false =>
    refine ac_ rfl (aa_ (a:=(ai_ t.Xz id).1) (by rw[bk_,e3]) ?_);have hg:=tree_app_eq _ hmode;generalize hN:(ai_ t.Xz id).1=N at hd hv hg e3;generalize hO:(bif an_ N.Xv 30 then(N.Xl.length:Int)else offset)=o;have ho0:0<=o/\o<=9223372036854775807:=by
     subst hO;cases an_ N.Xv 30
     .simp;omega
     .simp;omega
    refine aa_ (a:=o) (aa_ (a:=N) (by rw[bk_,e3]) (aa_ hg ?_)) ?_
    .rw[←hO];cases an_ N.Xv 30<;>rfl
    .simp only[cond_false];by_cases hbig:o+(data.length:Int)>65536
     .have c1:decide (o+(data.length:Int)>65536)=true:=by simpa using hbig
      rw[c1];refine ah_ ?_ (aa_ hc rfl);rw[Bool.or_eq_true,qDe,qDe];by_cases h6:o>65536
      .exact .inl h6
      .rw[ap_ ⟨by omega,by omega⟩];exact .inr (by omega)
     .have c1:decide (o+(data.length:Int)>65536)=false:=by simpa using hbig
      rw[c1];refine ac_ ?_ ?_
      .rw[ap_ ⟨by omega,by omega⟩];simp;omega
      .refine aa_ hc ?_;obtain⟨p,rfl⟩:∃p:Nat,o=(p:Int):=⟨o.toNat,by omega⟩;refine aa_ (rQ_ _ p hd (by omega)) (aa_ (cy_ (by rw[su_];omega)) ?_);rw[ap_ ⟨by omega,by omega⟩,show(p:Int)+(data.length:Int)=((p+data.length:Nat):Int)by omega,minI_nat _ _ (by omega),qTn];refine aa_ (cf_ (by omega) (by omega) (by omega)) ?_;rw[qTn,qTn,List.take_length,drop_min];refine aa_ (cy_ (by simp[su_];omega)) ?_;refine aa_ (a:=N) (by rw[bk_,e3]) ?_;refine aa_ (tT_ e3 (n:=putD N (wrS N.Xl p data)) rfl h.srt hv uid now) ?_;simp only[qTn,cond_false]
def kl_(t:Xk)(id:Int)(name uid:Str)(now:Int):Xk×Int:=bif !(ai_ t.Xz id).2 then(t,8)else bif id==1 then(t,1)else bif !(bM_ name)then(t,6)else bif(ai_ t.Xz id).1.Xy==name then(t,0)else bif(t.Xz.find? (cT_ (ai_ t.Xz id).1.Xw name)).isSome then(t,7)else(Xk.mk t.Xt (bv_ (bv_ t.Xz (bG_ (ai_ t.Xz id).1 name)) (bP_ (ai_ (bv_ t.Xz (bG_ (ai_ t.Xz id).1 name)) (ai_ t.Xz id).1.Xw).1 uid now)),0)
theorem mem_updN{l:List Xq}{n x:Xq}(hx:x∈bv_ l n):∃m∈l,x.Id_=m.Id_/\(x=m/\m.Id_≠n.Id_\/x=n/\m.Id_=n.Id_):=by
 unfold bv_ at hx;obtain⟨m,hm,rfl⟩:=List.mem_map.1 hx;refine⟨m,hm,?_⟩;cases h:m.Id_==n.Id_ with
 | true=>exact⟨(beq_iff_eq.1 h).symm,.inr ⟨rfl,beq_iff_eq.1 h⟩⟩
 | false=>exact⟨rfl,.inl ⟨rfl,by simpa using h⟩⟩
theorem mU_{l:List Xq}{n m:Xq}(hm:m∈l):(bif m.Id_==n.Id_ then n else m)∈bv_ l n:=List.mem_map.2 ⟨m,hm,rfl⟩
theorem u6_ (t:Xk) (id:Int) (name uid:Str) (now:Int) (h:OkT t.Xz t.Xt) (hn:name.length<=9223372036854775807):kN_ t id name uid now=some (kl_ t id name uid now):=by
 have hl:=h.len;have hc:=eP_ t (by omega);unfold kN_ kl_;refine aa_ (dd_ t id (by omega)) ?_;cases h1:(ai_ t.Xz id).2 with
 | false =>
  rw[l1_ h1];exact aa_ hc rfl
 | true =>
  obtain⟨i,e1,e2,e3⟩:=at_id h1;rw[e1];refine ac_ (by simp) ?_;cases h2:id==1 with
  | true=>exact aa_ hc rfl
  | false =>
   refine ac_ rfl (aa_ (hq_ name hn) ?_);cases h3:bM_ name with
   | false=>exact aa_ hc rfl
   | true =>
    refine ac_ rfl (aa_ (a:=(ai_ t.Xz id).1) (by rw[bk_,e2]) ?_);have e4:(name==(ai_ t.Xz id).1.Xy)=((ai_ t.Xz id).1.Xy==name):=by rw[Bool.eq_iff_iff,beq_iff_eq,beq_iff_eq];exact⟨Eq.symm,Eq.symm⟩
    rw[e4];cases(ai_ t.Xz id).1.Xy==name with
    | true=>exact aa_ hc rfl
    | false =>
     refine ac_ rfl (aa_ (a:=(ai_ t.Xz id).1) (by rw[bk_,e2]) (aa_ (sq_ t _ name (by omega)) ?_));rw[at_pos];cases(t.Xz.find? (cT_ (ai_ t.Xz id).1.Xw name)).isSome with
     | true=>exact aa_ hc rfl
     | false =>
      obtain⟨hm,hid⟩:=bs_ h1;have hne:(ai_ t.Xz id).1.Id_≠1:=by rw[hid];simpa using h2
      obtain⟨p,hp1,hp2,hp3,hp4⟩:=h.par _ hm hne;have hset:=pp_ h.srt e2 (n:=bG_ (ai_ t.Xz id).1 name) rfl;have hsrt:=kk_ h.srt (bG_ (ai_ t.Xz id).1 name);have hpu:p∈bv_ t.Xz (bG_ (ai_ t.Xz id).1 name):=by
       have:=mU_ (n:=bG_ (ai_ t.Xz id).1 name) hp1;have hb:(p.Id_==(bG_ (ai_ t.Xz id).1 name).Id_)=false:=by
        rw[beq_eq_false_iff_ne];show p.Id_≠(ai_ t.Xz id).1.Id_;omega
       rw[hb]at this;exact this
      have hpn:=iI_ hsrt hpu;rw[hp2]at hpn;have hp:(ai_ (bv_ t.Xz (bG_ (ai_ t.Xz id).1 name)) (ai_ t.Xz id).1.Xw).2=true:=by rw[hpn]
      obtain⟨j,f1,f2,f3⟩:=at_id hp;refine ac_ rfl (aa_ hc (aa_ (a:=(ai_ t.Xz id).1) (by rw[bk_,e2]) ?_));simp only[qTn];rw[show t.Xz.set i (Xq.mk (ai_ t.Xz id).1.Id_ (ai_ t.Xz id).1.Xw (ai_ t.Xz id).1.Xo name (ai_ t.Xz id).1.Xv (ai_ t.Xz id).1.Yw (ai_ t.Xz id).1.Yv (ai_ t.Xz id).1.Yg (ai_ t.Xz id).1.Xu (ai_ t.Xz id).1.Xa (ai_ t.Xz id).1.Xl)=bv_ t.Xz (bG_ (ai_ t.Xz id).1 name)from hset];refine aa_ (a:=bG_ (ai_ t.Xz id).1 name) (by rw[bk_,←hset,List.getElem?_set,if_pos rfl,if_pos e3]) ?_;refine aa_ (dd_ _ _ (by rw[kh_];omega)) ?_;have hvp:0<=p.Xo/\p.Xo<=2147483647:=h6_ (h.flds _ hp1);have f2':(bv_ t.Xz (bG_ (ai_ t.Xz id).1 name))[j]? = some p:=by rw[f2,hpn]
      show Option.bind (c1_ (Xk.mk t.Xt (bv_ t.Xz (bG_ (ai_ t.Xz id).1 name))) (at_ (eC_ (ai_ t.Xz id).1.Xw) (bv_ t.Xz (bG_ (ai_ t.Xz id).1 name))) uid now) _=_;rw[f1];refine aa_ (hu_ _ j p uid now f2' hsrt hvp) ?_;rw[hpn];rfl
def ir_(n:Xq)(mode:Int)(gid:Str)(mtime:Int):Xq:=Xq.mk n.Id_ n.Xw n.Xo n.Xy (bif mode != -1 then mode else n.Xv) n.Yw (bif !(di_ gid==[])then gid else n.Yv) n.Yg n.Xu (bif mtime != -1 then mtime else n.Xa) n.Xl
def attrsT(t:Xk)(id mode:Int)(gid:Str)(mtime:Int):Xk×Int:=bif !(ai_ t.Xz id).2 then(t,8)else bif(mode != -1)&&(!(aI_ mode) || !(an_ mode 31==an_ (ai_ t.Xz id).1.Xv 31))then(t,1)else bif(mtime != -1)&&(decide (mtime<0)||decide (mtime>1099511627776))then(t,5)else(Xk.mk t.Xt (bv_ t.Xz (ir_ (ai_ t.Xz id).1 mode gid mtime)),0)
theorem short_or(gid:Str)(h:(di_ gid==[])=false):di_ gid=gid:=by
 unfold di_ at h ⊢;cases hc:decide ((gid.length:Int)>64)with
 | true=>rw[hc]at h;cases h
 | false=>rfl
theorem wB_ (t:Xk) (id mode:Int) (gid:Str) (mtime:Int) (h:OkT t.Xz t.Xt) (hmo:mode<=9223372036854775807):lZ_ t id mode gid mtime=some (attrsT t id mode gid mtime):=by
 have hl:=h.len;have hc:=eP_ t (by omega);unfold lZ_ attrsT;refine aa_ (dd_ t id (by omega)) ?_;cases h1:(ai_ t.Xz id).2 with
 | false =>
  rw[l1_ h1];exact aa_ hc rfl
 | true =>
  obtain⟨i,e1,e2,e3⟩:=at_id h1;rw[e1];have hg:=i4_ h id;generalize hN:(ai_ t.Xz id).1=N at e2 hg;refine ac_ (by simp) (aa_ (a:=(mode != -1)&&(!(aI_ mode) || !(an_ mode 31==an_ N.Xv 31))) ?_ ?_)
  .cases mode != -1 with
   | false=>rfl
   | true =>
    refine ah_ rfl (aa_ (lq_ mode hmo) ?_);cases aI_ mode with
    | false=>rfl
    | true =>
     refine aa_ (a := !(an_ mode 31==an_ N.Xv 31)) ?_ rfl;exact ac_ rfl (aa_ (el_ mode hmo) (aa_ (a:=N) (by rw[bk_,e2]) (aa_ (el_ _ hg) rfl)))
  .cases (mode != -1)&&(!(aI_ mode) || !(an_ mode 31==an_ N.Xv 31))with
   | true=>exact aa_ hc rfl
   | false =>
    refine ac_ rfl (aa_ (a:=(mtime != -1)&&(decide (mtime<0)||decide (mtime>1099511627776))) ?_ ?_)
    .cases mtime != -1 with
     | false=>rfl
     | true=>refine ah_ rfl (aa_ rfl ?_);exact congrArg some (clock_ne mtime)
    .cases(mtime != -1)&&(decide (mtime<0)||decide (mtime>1099511627776))with
     | true=>exact aa_ hc rfl
     | false =>
      refine ac_ rfl (aa_ hc (aa_ (a:=N) (by rw[bk_,e2]) ?_));simp only[qTn];have hget:∀(x:Xq) (q:List Xq),q.length=t.Xz.length->al_ (q.set i x) (i:Int)=some x:=λ x q hq=>by
       rw[bk_,List.getElem?_set,if_pos rfl,if_pos (by omega)]
      have hself:t.Xz.set i N=t.Xz:=by
       apply List.ext_getElem?;intro j;rw[List.getElem?_set];split
       .rename_i hij;subst hij;first|rw[if_pos e3,e2]|rw[e2]
       .rfl
      let n1:Xq:=Xq.mk N.Id_ N.Xw N.Xo N.Xy (bif mode != -1 then mode else N.Xv) N.Yw N.Yv N.Yg N.Xu N.Xa N.Xl
      let n2:Xq:=Xq.mk N.Id_ N.Xw N.Xo N.Xy (bif mode != -1 then mode else N.Xv) N.Yw (bif !(di_ gid==[])then gid else N.Yv) N.Yg N.Xu N.Xa N.Xl
      refine aa_ (a:=t.Xz.set i n1) ?_ ?_
      .show(bif mode != -1 then _ else _)=some (t.Xz.set i (Xq.mk N.Id_ N.Xw N.Xo N.Xy (bif mode != -1 then mode else N.Xv) N.Yw N.Yv N.Yg N.Xu N.Xa N.Xl));cases mode != -1 with
       | true=>rfl
       | false=>exact congrArg some hself.symm
      .refine aa_ (hget n1 _ rfl) (aa_ (a:=t.Xz.set i n2) (aa_ (eQ_ gid) ?_) ?_)
       .show _=some (t.Xz.set i (Xq.mk N.Id_ N.Xw N.Xo N.Xy (bif mode != -1 then mode else N.Xv) N.Yw (bif !(di_ gid==[])then gid else N.Yv) N.Yg N.Xu N.Xa N.Xl));cases hs:di_ gid==[]with
        | true=>rfl
        | false =>
         rw[short_or gid hs];refine ah_ rfl ?_;rw[List.set_set];rfl
       .refine aa_ (hget n2 _ rfl) (aa_ (a:=t.Xz.set i (ir_ N mode gid mtime)) ?_ ?_)
        .show(bif mtime != -1 then _ else _)=some (t.Xz.set i (Xq.mk N.Id_ N.Xw N.Xo N.Xy (bif mode != -1 then mode else N.Xv) N.Yw (bif !(di_ gid==[])then gid else N.Yv) N.Yg N.Xu (bif mtime != -1 then mtime else N.Xa) N.Xl));cases mtime != -1 with
         | true =>
          refine ah_ rfl ?_;rw[List.set_set];rfl
         | false=>rfl
        .rw[pp_ h.srt e2 (n:=ir_ N mode gid mtime) rfl];rfl
theorem jy_(n:Xq):aM_ n=true↔aI_ n.Xv=true/\(0<=n.Xo/\n.Xo<=2147483647)/\(0<=n.Xu/\n.Xu<=1099511627776)/\(0<=n.Xa/\n.Xa<=1099511627776)/\(n.Yw.length<=64/\n.Yv.length<=64/\n.Yg.length<=64)/\n.Xl.length<=65536/\(an_ n.Xv 31=true->n.Xl=[]):=by
 unfold aM_;simp only[qAn,qDe,Bool.or_eq_true,Bool.not_eq_true',beq_iff_eq];constructor
 .rintro⟨⟨⟨⟨⟨⟨h1,h2⟩,h3⟩,h4⟩,h5⟩,h6⟩,h7⟩
  exact ⟨h1, h2, h3, h4, h5, h6, fun hd => by rcases h7 with h7|h7;· rw[hd]at h7;cases h7
                                              ·exact h7⟩
 .rintro⟨h1,h2,h3,h4,h5,h6,h7⟩;refine⟨⟨⟨⟨⟨⟨h1,h2⟩,h3⟩,h4⟩,h5⟩,h6⟩,?_⟩;cases hd:an_ n.Xv 31 with
  | false=>exact .inl rfl
  | true=>exact .inr (h7 hd)
theorem jz_(s:Str):(di_ s).length<=64:=by
 unfold di_;by_cases h:(s.length:Int)>64
 .rw[show decide ((s.length:Int)>64)=true by simpa using h];exact Nat.zero_le _
 .rw[show decide ((s.length:Int)>64)=false by simpa using h];show s.length<=64;omega
theorem qL_(x:Int):0<=bt_ x/\bt_ x<=1099511627776:=by
 unfold bt_ ck_ cv_;split<;>split<;>omega
theorem touch_ok{n:Xq}(h:aM_ n=true)(uid:Str)(now:Int):aM_ (bP_ n uid now)=true:=by
 rw[jy_]at h ⊢;obtain⟨h1,h2,h3,h4,h5,h6,h7⟩:=h;refine⟨h1,?_,h3,qL_ now,⟨h5.1,h5.2.1,jz_ uid⟩,h6,h7⟩;show 0<=(w64 (n.Xo+1)).tmod 2147483648/\(w64 (n.Xo+1)).tmod 2147483648<=2147483647;rw[ap_ ⟨by omega,by omega⟩,Int.tmod_eq_emod_of_nonneg (by omega)];omega
theorem putD_ok{n:Xq}(h:aM_ n=true){d:Str}(hd:d.length<=65536)(hf:an_ n.Xv 31=false):aM_ (putD n d)=true:=by
 rw[jy_]at h ⊢;obtain⟨h1,h2,h3,h4,h5,h6,h7⟩:=h;exact⟨h1,h2,h3,h4,h5,hd,fun(e:an_ n.Xv 31=true)=>by rw[hf]at e;cases e⟩
theorem putName_ok{n:Xq}(h:aM_ n=true)(s:Str):aM_ (bG_ n s)=true:=by
 rw[jy_]at h ⊢;exact h
theorem OkT.upd{l:List Xq}{next:Int}(h:OkT l next){n n':Xq}(hn:n∈l)(hid:n'.Id_=n.Id_)(hp:n'.Xw=n.Xw)(hok:aM_ n'=true)(hd:an_ n'.Xv 31=an_ n.Xv 31)
  (hname:n'.Xy=n.Xy\/(n.Id_≠1/\bM_ n'.Xy=true/\∀c∈l,c.Id_≠1->c.Xw=n.Xw->c.Xy=n'.Xy->c.Id_=n.Id_)):OkT (bv_ l n') next:=by
 have phi:∀m∈l,(bif m.Id_==n'.Id_ then n' else m).Id_=m.Id_/\(bif m.Id_==n'.Id_ then n' else m).Xw=m.Xw/\an_ (bif m.Id_==n'.Id_ then n' else m).Xv 31=an_ m.Xv 31/\aM_ (bif m.Id_==n'.Id_ then n' else m)=true /\
   ((m.Id_≠n.Id_/\(bif m.Id_==n'.Id_ then n' else m).Xy=m.Xy)\/(m=n/\(bif m.Id_==n'.Id_ then n' else m).Xy=n'.Xy)):=λ m hm=>by
  cases hb:m.Id_==n'.Id_ with
  | true =>
   have e:=beq_iff_eq.1 hb;obtain rfl:=ok_ h.srt hm hn (by rw[e,hid]);exact⟨hid,hp,hd,hok,.inr ⟨rfl,rfl⟩⟩
  | false =>
   have e:m.Id_≠n'.Id_:=by simpa using hb
   exact⟨rfl,rfl,rfl,h.flds m hm,.inl ⟨by rw[←hid];exact e,rfl⟩⟩
 have mem:∀x,x∈bv_ l n'->∃m∈l,x=bif m.Id_==n'.Id_ then n' else m:=λ x hx=>by
  obtain⟨m,hm,e⟩:=List.mem_map.1 hx;exact⟨m,hm,e.symm⟩
 refine⟨kk_ h.srt n',?_,λ x hx => ?_,λ x hx h1 => ?_,λ x hx h1 => ?_,λ a ha b hb h1 h2 h3 h4 => ?_,λ x hx => ?_,h.nx2,by rw[kh_];exact h.len⟩
 .obtain⟨r,q,e,h1,h2,h3,h4⟩:=h.root;have hr:r∈l:=by rw[e];exact List.mem_cons_self ..
  obtain⟨p1,p2,p3,p4,p5⟩:=phi r hr;refine⟨_,q.map λ m=>bif m.Id_==n'.Id_ then n' else m,by rw[e];rfl,p1.trans h1,p2.trans h2,?_,p3.trans h4⟩;rcases p5 with⟨_,p5⟩|⟨rfl,p5⟩
  .rw[p5];exact h3
  .rw[p5];rcases hname with hname|⟨hne,_⟩
   .rw[hname];exact h3
   .exact absurd h1 hne
 .obtain⟨m,hm,rfl⟩:=mem x hx;exact(phi m hm).2.2.2.1
 .obtain⟨m,hm,rfl⟩:=mem x hx;obtain⟨p1,p2,p3,p4,p5⟩:=phi m hm;rw[p1]at h1;rcases p5 with⟨_,p5⟩|⟨rfl,p5⟩
  .rw[p5];exact h.nam m hm h1
  .rw[p5];rcases hname with hname|⟨_,hn2,_⟩
   .rw[hname];exact h.nam m hm h1
   .exact hn2
 .obtain⟨m,hm,rfl⟩:=mem x hx;obtain⟨p1,p2,p3,p4,p5⟩:=phi m hm;rw[p1]at h1 ⊢;rw[p2];obtain⟨q,q1,q2,q3,q4⟩:=h.par m hm h1;obtain⟨r1,r2,r3,_⟩:=phi q q1;exact⟨_,mU_ q1,r1.trans q2,by rw[r1];exact q3,r3.trans q4⟩
 .obtain⟨m,hm,rfl⟩:=mem a ha;obtain⟨k,hk,rfl⟩:=mem b hb;obtain⟨p1,p2,p3,p4,p5⟩:=phi m hm;obtain⟨r1,r2,r3,r4,r5⟩:=phi k hk;rw[p1]at h1;rw[r1]at h2;rw[p2,r2]at h3;rw[p1,r1];rcases p5 with⟨p5,p6⟩|⟨rfl,p6⟩
  .rcases r5 with⟨r5,r6⟩|⟨rfl,r6⟩
   .rw[p6,r6]at h4;exact h.uniq m hm k hk h1 h2 h3 h4
   .rw[p6,r6]at h4;rcases hname with hname|⟨_,_,hn3⟩
    .rw[hname]at h4;exact h.uniq m hm k hk h1 h2 h3 h4
    .exact hn3 m hm h1 h3 h4
  .rcases r5 with⟨r5,r6⟩|⟨rfl,r6⟩
   .rw[p6,r6]at h4;rcases hname with hname|⟨_,_,hn3⟩
    .rw[hname]at h4;exact h.uniq m hm k hk h1 h2 h3 h4
    .exact(hn3 k hk h2 h3.symm h4.symm).symm
   .rfl
 .obtain⟨m,hm,rfl⟩:=mem x hx;rw[(phi m hm).1];exact h.nxt m hm
theorem OkT.touch{l:List Xq}{next:Int}(h:OkT l next){n:Xq}(hn:n∈l)(uid:Str)(now:Int):OkT (bv_ l (bP_ n uid now)) next :=
 h.upd hn rfl rfl (touch_ok (h.flds n hn) uid now) rfl (.inl rfl)
theorem OkT.add{l:List Xq}{next:Int}(h:OkT l next){d n:Xq}(hd:d∈l)(hdir:an_ d.Xv 31=true)(hid:n.Id_=next)(hp:n.Xw=d.Id_)(hok:aM_ n=true)(hname:bM_ n.Xy=true)
  (hnew:∀c∈l,c.Id_≠1->c.Xw=d.Id_->c.Xy≠n.Xy) (hnx:next<=1048575) (hl:l.length<1024):OkT (l++[n]) (next+1):=by
 have hdn:=h.nxt d hd;have hd1:=h.ge hd;refine⟨List.pairwise_append.2 ⟨h.srt,List.pairwise_singleton ..,λ a ha b hb => ?_⟩,?_,λ x hx => ?_,λ x hx h1 => ?_,λ x hx h1 => ?_,λ a ha b hb h1 h2 h3 h4 => ?_,λ x hx => ?_,by omega,by simp;omega⟩
 .rw[List.mem_singleton.1 hb,hid];exact h.nxt a ha
 .obtain⟨r,q,e,h1,h2,h3,h4⟩:=h.root;exact⟨r,q++[n],by rw[e];rfl,h1,h2,h3,h4⟩
 .rcases List.mem_append.1 hx with hx|hx
  .exact h.flds x hx
  .rw[List.mem_singleton.1 hx];exact hok
 .rcases List.mem_append.1 hx with hx|hx
  .exact h.nam x hx h1
  .rw[List.mem_singleton.1 hx];exact hname
 .rcases List.mem_append.1 hx with hx|hx
  .obtain⟨p,p1,p2⟩:=h.par x hx h1;exact⟨p,List.mem_append_left _ p1,p2⟩
  .rw[List.mem_singleton.1 hx];exact⟨d,List.mem_append_left _ hd,hp.symm,by rw[hid];exact hdn,hdir⟩
 .rcases List.mem_append.1 ha with ha|ha
  .rcases List.mem_append.1 hb with hb|hb
   .exact h.uniq a ha b hb h1 h2 h3 h4
   .rw[List.mem_singleton.1 hb]at h3 h4;exact absurd h4 (hnew a ha h1 (h3.trans hp))
  .rcases List.mem_append.1 hb with hb|hb
   .rw[List.mem_singleton.1 ha]at h3 h4;exact absurd h4.symm (hnew b hb h2 (h3.symm.trans hp))
   .rw[List.mem_singleton.1 ha,List.mem_singleton.1 hb]
 .rcases List.mem_append.1 hx with hx|hx
  .have:=h.nxt x hx;omega
  .rw[List.mem_singleton.1 hx];omega
theorem nq_{l:List Xq}{dir:Int}{name:Str}(h:(l.find? (cT_ dir name)).isSome=false):∀c∈l,c.Id_≠1->c.Xw=dir->c.Xy≠name:=λ c hc h1 h2 h3=>by
 have hn:l.find? (cT_ dir name)=none:=by
  cases hf:l.find? (cT_ dir name)with
  | none=>rfl
  | some x=>rw[hf]at h;cases h
 rw[List.find?_eq_none]at hn;exact hn c hc (by unfold cT_;simp[h1,h2,h3])
theorem newN_ok(t:Xk)(dir:Int)(name:Str){mode:Int}(uid gid:Str)(now:Int)(h:aI_ mode=true):aM_ (newN t dir name mode uid gid now)=true:=by
 rw[jy_];exact⟨h,⟨by show(0:Int)<=0;omega,by show(0:Int)<=2147483647;omega⟩,qL_ now,qL_ now,⟨jz_ _,jz_ _,jz_ _⟩,Nat.zero_le _,λ _=>rfl⟩
theorem create_cases {t:Xk} {dir:Int} {name:Str} {mode:Int} {uid gid:Str} {now:Int} (h:OkT t.Xz t.Xt) :
  (∃e,e≠0/\ki_ t dir name mode uid gid now=(t,0,e)) \/
  (ki_ t dir name mode uid gid now=(Xk.mk (t.Xt+1) (bv_ t.Xz (bP_ (ai_ t.Xz dir).1 uid now)++[newN t dir name mode uid gid now]),t.Xt,0)/\(ai_ t.Xz dir).2=true/\an_ (ai_ t.Xz dir).1.Xv 31=true/\aI_ mode=true /\
   OkT (bv_ t.Xz (bP_ (ai_ t.Xz dir).1 uid now)++[newN t dir name mode uid gid now]) (t.Xt+1)):=by
 unfold ki_;cases h1:(ai_ t.Xz dir).2 with
 | false=>exact .inl ⟨8,by omega,rfl⟩
 | true =>
  cases h2:an_ (ai_ t.Xz dir).1.Xv 31 with
  | false=>exact .inl ⟨9,by omega,rfl⟩
  | true =>
   cases h3:bM_ name with
   | false=>exact .inl ⟨6,by omega,rfl⟩
   | true =>
    cases h4:aI_ mode with
    | false=>exact .inl ⟨1,by omega,rfl⟩
    | true =>
     cases h5:(t.Xz.find? (cT_ dir name)).isSome with
     | true=>exact .inl ⟨7,by omega,rfl⟩
     | false =>
      cases h6:decide ((t.Xz.length:Int)>=1024)||decide (t.Xt>1048575)with
      | true=>exact .inl ⟨22,by omega,rfl⟩
      | false =>
       simp only[Bool.or_eq_false_iff,qDf]at h6;obtain⟨hm,hid⟩:=bs_ h1;have hnx0:=h.nxt _ hm;have hge:=h.ge hm;have hw:w64 (t.Xt+1)=t.Xt+1:=ap_ ⟨by omega,by omega⟩;refine .inr ⟨by rw[hw];rfl,rfl,rfl,rfl,?_⟩;have hD:=mU_ (n:=bP_ (ai_ t.Xz dir).1 uid now) hm;have hb:((ai_ t.Xz dir).1.Id_==(bP_ (ai_ t.Xz dir).1 uid now).Id_)=true:=beq_self_eq_true _;rw[hb]at hD;have hU:=h.touch hm uid now;refine hU.add hD h2 rfl (show dir=_ from hid.symm) (newN_ok t dir name uid gid now h4) h3 (λ c hc c1 c2 => ?_) (by omega) (by rw[kh_];omega);obtain⟨m,hm2,e1,e2⟩:=mem_updN hc;have hcp:m.Xw=c.Xw/\m.Xy=c.Xy:=by
        rcases e2 with⟨e2,_⟩|⟨e2,e3⟩
        .rw[e2];exact⟨rfl,rfl⟩
        .rw[e2];have:=ok_ h.srt hm2 hm e3;rw[this];exact⟨rfl,rfl⟩
       rw[←hcp.2];refine nq_ h5 m hm2 (by rw[←e1];exact c1) ?_;rw[hcp.1,c2];exact hid
theorem resize_cases{t:Xk}{id size:Int}{uid:Str}{now:Int}(h:OkT t.Xz t.Xt) :
  (∃e,gi_ t id size uid now=(t,e))\/((ai_ t.Xz id).2=true/\an_ (ai_ t.Xz id).1.Xv 31=false/\gi_ t id size uid now=(Xk.mk t.Xt (bv_ t.Xz (bP_ (putD (ai_ t.Xz id).1 (fitS (ai_ t.Xz id).1.Xl size.toNat)) uid now)),0)/\0<=size /\
   OkT (bv_ t.Xz (bP_ (putD (ai_ t.Xz id).1 (fitS (ai_ t.Xz id).1.Xl size.toNat)) uid now)) t.Xt):=by
 unfold gi_;cases h1:ht_ t.Xz id != 0 with
 | true=>exact .inl ⟨_,rfl⟩
 | false =>
  obtain⟨f1,f2⟩:=fileT_zero h1;have hm:=(bs_ f1).1;by_cases h2:size<0
  .rw[show decide (size<0)=true by simpa using h2];exact .inl ⟨_,rfl⟩
  .rw[show decide (size<0)=false by simpa using h2];by_cases h3:size>65536
   .rw[show decide (size>65536)=true by simpa using h3];exact .inl ⟨_,rfl⟩
   .rw[show decide (size>65536)=false by simpa using h3];cases h4:size==((ai_ t.Xz id).1.Xl.length:Int)with
    | true=>exact .inl ⟨_,rfl⟩
    | false =>
     refine .inr ⟨f1,f2,rfl,by omega,?_⟩;exact h.upd hm rfl rfl (touch_ok (putD_ok (h.flds _ hm) (by rw[su_];omega) f2) uid now) rfl (.inl rfl)
theorem rename_cases {t:Xk} {id:Int} {name uid:Str} {now:Int} (h:OkT t.Xz t.Xt) :
  (∃e,kl_ t id name uid now=(t,e))\/(∃p,(ai_ t.Xz id).2=true/\id≠1/\p∈t.Xz/\p.Id_=(ai_ t.Xz id).1.Xw/\p.Id_<id/\kl_ t id name uid now=(Xk.mk t.Xt (bv_ (bv_ t.Xz (bG_ (ai_ t.Xz id).1 name)) (bP_ p uid now)),0) /\
   OkT (bv_ (bv_ t.Xz (bG_ (ai_ t.Xz id).1 name)) (bP_ p uid now)) t.Xt):=by
 unfold kl_;cases h1:(ai_ t.Xz id).2 with
 | false=>exact .inl ⟨8,rfl⟩
 | true =>
  cases h2:id==1 with
  | true=>exact .inl ⟨1,rfl⟩
  | false =>
   have h2':id≠1:=by simpa using h2
   cases h3:bM_ name with
   | false=>exact .inl ⟨6,rfl⟩
   | true =>
    cases h4:(ai_ t.Xz id).1.Xy==name with
    | true=>exact .inl ⟨0,rfl⟩
    | false =>
     cases h5:(t.Xz.find? (cT_ (ai_ t.Xz id).1.Xw name)).isSome with
     | true=>exact .inl ⟨7,rfl⟩
     | false =>
      obtain⟨hm,hid⟩:=bs_ h1;have hne:(ai_ t.Xz id).1.Id_≠1:=by rw[hid];exact h2'
      obtain⟨p,hp1,hp2,hp3,hp4⟩:=h.par _ hm hne;have hU:=h.upd hm (n':=bG_ (ai_ t.Xz id).1 name) rfl rfl (putName_ok (h.flds _ hm) name) rfl (.inr ⟨hne,h3,λ c hc c1 c2 c3=>absurd c3 (nq_ h5 c hc c1 c2)⟩);have hpu:p∈bv_ t.Xz (bG_ (ai_ t.Xz id).1 name):=by
       have:=mU_ (n:=bG_ (ai_ t.Xz id).1 name) hp1;have hb:(p.Id_==(bG_ (ai_ t.Xz id).1 name).Id_)=false:=by
        rw[beq_eq_false_iff_ne];show p.Id_≠(ai_ t.Xz id).1.Id_;omega
       rw[hb]at this;exact this
      have hpn:=iI_ hU.srt hpu;rw[hp2]at hpn;exact .inr ⟨p,rfl,h2',hp1,hp2,by rw[hid]at hp3;exact hp3,by rw[hpn];rfl,hU.touch hpu uid now⟩
theorem attrN_ok{n:Xq}(h:aM_ n=true){mode:Int}{gid:Str}{mtime:Int}(h1:mode = -1\/aI_ mode=true/\an_ mode 31=an_ n.Xv 31)(h2:mtime = -1\/0<=mtime/\mtime<=1099511627776):aM_ (ir_ n mode gid mtime)=true/\an_ (ir_ n mode gid mtime).Xv 31=an_ n.Xv 31:=by
 have hd:an_ (ir_ n mode gid mtime).Xv 31=an_ n.Xv 31:=by
  unfold ir_;rcases h1 with rfl|⟨h1,h3⟩
  .rfl
  .show an_ (bif mode != -1 then mode else n.Xv) 31=_;cases mode != -1 with
   | true=>exact h3
   | false=>rfl
 refine⟨?_,hd⟩;rw[jy_]at h ⊢;obtain⟨k1,k2,k3,k4,k5,k6,k7⟩:=h;refine⟨?_,k2,k3,?_,⟨k5.1,?_,k5.2.2⟩,k6,λ e=>k7 (hd▸e)⟩
 .show aI_ (bif mode != -1 then mode else n.Xv)=true;rcases h1 with rfl|⟨h1,_⟩
  .exact k1
  .cases mode != -1 with
   | true=>exact h1
   | false=>exact k1
 .show 0<=(bif mtime != -1 then mtime else n.Xa)/\(bif mtime != -1 then mtime else n.Xa)<=_;rcases h2 with rfl|h2
  .exact k4
  .cases mtime != -1 with
   | true=>exact h2
   | false=>exact k4
 .show(bif !(di_ gid==[])then gid else n.Yv).length<=64;cases hs:di_ gid==[]with
  | true=>exact k5.2.1
  | false =>
   rw[←short_or gid hs];exact jz_ gid
theorem set_self{α:Type}{l:List α}{i:Nat}{x:α}(h:l[i]? = some x):l.set i x=l:=by
 obtain⟨hi,rfl⟩:=List.getElem?_eq_some_iff.1 h;exact List.set_getElem_self hi
theorem copy_loop{body:Int×List Xf->Option (Step (Int×List Xf) (List Xf))}(l:List Xf)(hl:l.length<=1000)
  (hb:∀i,i<l.length->body ((i:Int),l)=some (.next (((i+1:Nat):Int),l))) (he:body ((l.length:Int),l)=some (.done l)):ak_ body BIG (0,l)=some l :=
 bd_ (λ i=>((i:Int),l)) l.length (bB_ (by omega)) (λ i hi=>hb i hi) he
theorem fresh_loop(l:List Xf)(hl:l.length<=1000)(hm:e0_ l):ak_ (dr_ l) BIG (0,l)=some l:=by
 refine copy_loop l hl (λ i hi => ?_) ?_
 .unfold dr_;simp only;rw[br_ hi,as_ hi,au_ (by omega)];refine ah_ rfl (aa_ rfl (aa_ (nM_ (hm _ (List.getElem_mem hi))) (aa_ rfl ?_)));exact congrArg (λ q=>some (Step.next (((i+1:Nat):Int),q))) (set_self (List.getElem?_eq_getElem hi))
 .unfold dr_;simp only;rw[bA_];rfl
theorem km_(s:Xx)(z:SizeOK s):cb_ s=some s:=by
 have:=z.nl;have:=z.el;unfold cb_;exact aa_ (rO_ z.ul) (aa_ (fresh_loop _ z.ul z.um) (aa_ (rP_ (by omega)) (aa_ (qG_ z.ql) (aa_ (l2_ (by omega)) rfl))))
def h7_(s:Xx)(user:Str)(n:Xq):Bool:=(isS s n.Xw&&n.Id_ != 1)&&mayS s user (am_ s n.Xw) 2
def putTr(s:Xx)(t:Xk):Xx:=Xx.mk s.Yx s.Yj t s.Xs
def putTE(s:Xx)(t:Xk)(e:List Int):Xx:=Xx.mk s.Yx s.Yj t e
theorem sv_{s:Xx}(f:FileOK s)(z:SizeOK s)(user:Str)(n:Xq):dc_ s user n=some (h7_ s user n):=by
 unfold dc_ h7_ isS;refine aa_ (cG_ _ _ (nl2 z)) ?_;cases hb:(ai_ s.Xm.Xz n.Xw).2&&n.Id_ != 1 with
 | false=>rfl
 | true=>exact aa_ (aa_ (may_eq z user (eO_ f _) 2) rfl) rfl
theorem node_id{s:Xx}{id:Int}(h:isS s id=true):(am_ s id).Id_=id:=(bs_ h).2
theorem hv_{s:Xx}{user:Str}{id:Int}(h:(cj_ s user id != 0)=false):cj_ s user id=0/\vU user=true/\isS s id=true:=by
 have h0:cj_ s user id=0:=by simpa using h
 refine⟨h0,?_⟩;unfold cj_ at h0;cases hv:vU user with
 | false=>rw[hv]at h0;cases h0
 | true =>
  rw[hv]at h0;cases hi:isS s id with
  | false=>rw[hi]at h0;cases h0
  | true=>exact⟨rfl,rfl⟩
def la_(s:Xx)(user:Str)(n:Xq)(mode:Int):Int:=bif(e2_ mode).2 != 0 then(e2_ mode).2 else bif an_ n.Xv 31&&mode != 0 then 10 else bif !(mayS s user n (e2_ mode).1)then 11 else bif an_ mode 6 && !(h7_ s user n)then 11 else bif an_ n.Xv 29&&decide (n.Id_∈s.Xs)then 24 else 0
def jA_(s:Xx)(user:Str)(id mode:Int):Int:=bif cj_ s user id != 0 then cj_ s user id else la_ s user (am_ s id) mode
theorem openM_pos{m:Int}(h:((e2_ m).2 != 0)=false):0<=m/\m<128:=by
 unfold e2_ at h;split at h
 .assumption
 .cases h
theorem opens_eq{s:Xx}(z:SizeOK s)(f:FileOK s)(user:Str)(n:Xq)(mode:Int)(hm:I64 mode)(hn:n.Xv<=9223372036854775807):eL_ s user n mode=some (la_ s user n mode):=by
 unfold eL_ la_;refine aa_ (mR_ mode hm) ?_;cases hc:(e2_ mode).2 != 0 with
 | true=>rfl
 | false =>
  obtain⟨h0,h1⟩:=openM_pos hc;refine ac_ rfl (aa_ (fU_ _ hn).1 ?_);cases an_ n.Xv 31&&mode != 0 with
  | true=>rfl
  | false =>
   refine ac_ rfl (aa_ (may_eq z user hn _) ?_);cases mayS s user n (e2_ mode).1 with
   | false=>rfl
   | true =>
    have e6:(bR_ .i64 mode 64 != 0)=an_ mode 6:=by
     have:=has_and mode 6 (by omega) (by omega);rw[show decide (mode>=0)=true by simpa using h0,Bool.true_and]at this;exact this
    rw[e6,sv_ f z];refine ac_ rfl (aa_ (a:=an_ mode 6 && !(h7_ s user n)) (by cases an_ mode 6<;>rfl) ?_);cases an_ mode 6 && !(h7_ s user n)with
    | true=>rfl
    | false =>
     refine ac_ rfl (aa_ (fU_ _ hn).2.2.1 ?_);rw[wz_ _ _ (by have:=z.el;omega)];refine aa_ (a:=an_ n.Xv 29&&decide (n.Id_∈s.Xs)) (by cases an_ n.Xv 29<;>rfl) ?_;cases an_ n.Xv 29&&decide (n.Id_∈s.Xs)<;>rfl
def openS(s:Xx)(user:Str)(id mode now:Int):Xx×Int:=bif jA_ s user id mode != 0 then(s,jA_ s user id mode)else(putTE s (bif an_ mode 4 && !(an_ (am_ s id).Xv 30)then(gi_ s.Xm id 0 user (bt_ now)).1 else s.Xm) (bif an_ (am_ s id).Xv 29 then putX s.Xs id else s.Xs),0)
theorem opensS_zero{s:Xx}{user:Str}{id mode:Int}(h:(jA_ s user id mode != 0)=false):(cj_ s user id != 0)=false/\la_ s user (am_ s id) mode=0/\0<=mode/\mode<128:=by
 have h0:jA_ s user id mode=0:=by simpa using h
 unfold jA_ at h0;cases hc:cj_ s user id != 0 with
 | true=>rw[hc]at h0;rw[show cj_ s user id=0 from h0]at hc;cases hc
 | false =>
  rw[hc]at h0;have h1:la_ s user (am_ s id) mode=0:=h0;refine⟨rfl,h1,?_⟩;unfold la_ at h1;cases ho:(e2_ mode).2 != 0 with
  | true=>rw[ho]at h1;rw[show(e2_ mode).2=0 from h1]at ho;cases ho
  | false=>exact openM_pos ho
theorem open_eq{s:Xx}(f:FileOK s)(z:SizeOK s)(user:Str)(id mode now:Int)(hu:user.length<=9223372036854775807)(hm:I64 mode):fw_ s user id mode now=some (openS s user id mode now):=by
 obtain⟨n,e1,e2⟩:=op_ z user id hu;unfold fw_ openS;refine aa_ (km_ s z) (aa_ e1 ?_);cases hc:cj_ s user id != 0 with
 | true =>
  have:jA_ s user id mode=cj_ s user id:=by unfold jA_;rw[hc];rfl
  rw[this,hc];rfl
 | false =>
  obtain⟨h0,_,hi⟩:=hv_ hc;obtain rfl:=e2 h0;have e3:jA_ s user id mode=la_ s user (am_ s id) mode:=by unfold jA_;rw[hc];rfl
  refine ac_ rfl (aa_ (opens_eq z f user _ mode hm (eO_ f id)) ?_);rw[e3];cases hz:la_ s user (am_ s id) mode != 0 with
  | true=>rfl
  | false =>
   rw[←e3]at hz;obtain⟨_,_,hp,hq⟩:=opensS_zero hz;have e4:(bR_ .i64 mode 16 != 0)=an_ mode 4:=by
    have:=has_and mode 4 (by omega) (by omega);rw[show decide (mode>=0)=true by simpa using hp,Bool.true_and]at this;exact this
   rw[e4];refine ac_ rfl (aa_ (a:=let t:=(bif an_ mode 4 && !(an_ (am_ s id).Xv 30)then(gi_ s.Xm id 0 user (bt_ now)).1 else s.Xm);(t.Xt,s.Yx,s.Yj,t.Xz,s.Xs)) ?_ (aa_ (a:=let t:=(bif an_ mode 4 && !(an_ (am_ s id).Xv 30)then(gi_ s.Xm id 0 user (bt_ now)).1 else s.Xm);(s.Yx,s.Yj,t.Xt,t.Xz,bif an_ (am_ s id).Xv 29 then putX s.Xs id else s.Xs)) ?_ rfl))
   .rw[(fU_ _ (eO_ f id)).2.1];refine aa_ (a:=an_ mode 4 && !(an_ (am_ s id).Xv 30)) (by cases an_ mode 4<;>rfl) ?_;cases an_ mode 4 && !(an_ (am_ s id).Xv 30)with
    | true=>exact ah_ rfl (aa_ rfl (aa_ (oq_ s.Xm id 0 user (bt_ now) f.tr) rfl))
    | false=>rfl
   .refine aa_ (fU_ _ (eO_ f id)).2.2.1 ?_;cases an_ (am_ s id).Xv 29 with
    | true=>exact ah_ rfl (aa_ (lock_eq _ id f.srt (by have:=z.el;show s.Xs.length<=1000;omega)) rfl)
    | false=>rfl
def or_(s:Xx)(user:Str)(n:Xq)(name:Str)(perm mode:Int):Int:=bif !(bM_ name)then 6 else bif !(aI_ perm)then 1 else bif(e2_ mode).2 != 0 then(e2_ mode).2 else bif an_ perm 31&&mode != 0 then 12 else bif !(mayS s user n 2)then 11 else bif(kP_ s.Xm.Xz n.Id_ name).2==0 then 7 else bif !(l4_ s.Yj s.Xm user 1 0)then 21 else 0
def gW_(s:Xx)(user:Str)(id:Int)(name:Str)(perm mode:Int):Int:=bif dirC s user id != 0 then dirC s user id else or_ s user (am_ s id) name perm mode
def inhI(d m:Int):Int:=(f5_ d m).getD 0
def createS(s:Xx)(user:Str)(id:Int)(name:Str)(perm mode now:Int):Xx×Int×Int :=
 bif gW_ s user id name perm mode != 0 then(s,0,gW_ s user id name perm mode)else
 let r:=inhI (am_ s id).Xv perm
 let c:=ki_ s.Xm id name r user (am_ s id).Yv (bt_ now)
 bif c.2.2 != 0 then(s,0,c.2.2)else(putTE s c.1 (bif an_ r 29 then putX s.Xs c.2.1 else s.Xs),c.2.1,0)
theorem makes_eq{s:Xx}(z:SizeOK s)(f:FileOK s)(user:Str)(n:Xq)(name:Str)(perm mode:Int)(hm:I64 mode)(hp:perm<=9223372036854775807)(hn:n.Xv<=9223372036854775807)(hl:name.length<=9223372036854775807):eH_ s user n name perm mode=some (or_ s user n name perm mode):=by
 unfold eH_ or_;refine aa_ (hq_ _ hl) ?_;cases bM_ name with
 | false=>rfl
 | true =>
  refine ac_ rfl (aa_ (qH_ _ hp) ?_);cases aI_ perm with
  | false=>rfl
  | true =>
   refine ac_ rfl (aa_ (mR_ mode hm) ?_);cases(e2_ mode).2 != 0 with
   | true=>rfl
   | false =>
    refine ac_ rfl (aa_ (fU_ _ hp).1 ?_);cases an_ perm 31&&mode != 0 with
    | true=>rfl
    | false =>
     refine ac_ rfl (aa_ (may_eq z user hn 2) ?_);cases mayS s user n 2 with
     | false=>rfl
     | true =>
      refine ac_ rfl (aa_ (mQ_ _ _ _ f.tr) ?_);cases(kP_ s.Xm.Xz n.Id_ name).2==0 with
      | true=>rfl
      | false =>
       refine ac_ rfl (aa_ (pH_ _ _ _ _ _ z.ql (nl2 z)) ?_);cases l4_ s.Yj s.Xm user 1 0<;>rfl
theorem wC_{s:Xx}{user:Str}{id:Int}{name:Str}{perm mode:Int}(h:(gW_ s user id name perm mode != 0)=false):(dirC s user id != 0)=false/\or_ s user (am_ s id) name perm mode=0:=by
 have h0:gW_ s user id name perm mode=0:=by simpa using h
 unfold gW_ at h0;cases hc:dirC s user id != 0 with
 | true=>rw[hc]at h0;rw[show dirC s user id=0 from h0]at hc;cases hc
 | false=>rw[hc]at h0;exact⟨rfl,h0⟩
theorem makesN_zero{s:Xx}{user:Str}{n:Xq}{name:Str}{perm mode:Int}(h:or_ s user n name perm mode=0):bM_ name=true/\aI_ perm=true/\mayS s user n 2=true/\l4_ s.Yj s.Xm user 1 0=true:=by
 unfold or_ at h;cases h1:bM_ name with
 | false=>rw[h1]at h;cases h
 | true =>
  rw[h1]at h;cases h2:aI_ perm with
  | false=>rw[h2]at h;cases h
  | true =>
   rw[h2]at h;cases h3:(e2_ mode).2 != 0 with
   | true=>rw[h3]at h;rw[show(e2_ mode).2=0 from h]at h3;cases h3
   | false =>
    rw[h3]at h;cases h4:an_ perm 31&&mode != 0 with
    | true=>rw[h4]at h;cases h
    | false =>
     rw[h4]at h;cases h5:mayS s user n 2 with
     | false=>rw[h5]at h;cases h
     | true =>
      rw[h5]at h;cases h6:(kP_ s.Xm.Xz n.Id_ name).2==0 with
      | true=>rw[h6]at h;cases h
      | false =>
       rw[h6]at h;cases h7:l4_ s.Yj s.Xm user 1 0 with
       | false=>rw[h7]at h;cases h
       | true=>exact⟨rfl,rfl,rfl,rfl⟩
theorem inhI_kind{s:Xx}(f:FileOK s){id:Int}(h:isS s id=true){m:Int}(hm:aI_ m=true):∃q,ew_ (am_ s id).Xv m=some q/\f5_ (am_ s id).Xv m=some (inhI (am_ s id).Xv m)/\orI .i64 (cu_ .i64 m 511) (bR_ .i64 q 511)=inhI (am_ s id).Xv m/\inhI (am_ s id).Xv m<=9223372036854775807/\aI_ (inhI (am_ s id).Xv m)=true:=by
 have h1:=f.tr.mode (ss_ h);have h2:=no_ hm;obtain⟨q,r,e1,e2,e3,e4,e5,e6⟩:=inherit_kind (am_ s id).Xv m ⟨h1.1,by omega⟩ ⟨h2.1,by omega⟩;have:inhI (am_ s id).Xv m=r:=by unfold inhI;rw[e2];rfl
 rw[this];exact⟨q,e1,e2,e3,by omega,e6 hm⟩
theorem create_eq{s:Xx}(f:FileOK s)(z:SizeOK s)(user:Str)(id:Int)(name:Str)(perm mode now:Int)(hu:user.length<=9223372036854775807)(hm:I64 mode)(hp:perm<=9223372036854775807)(hl:name.length<=9223372036854775807):eo_ s user id name perm mode now=some (createS s user id name perm mode now):=by
 obtain⟨n,e1,e2⟩:=qE_ f z user id hu;unfold eo_ createS;refine aa_ (km_ s z) (aa_ e1 (aa_ (a:=gW_ s user id name perm mode) ?_ ?_))
 .unfold gW_ bne;cases hc:dirC s user id==0 with
  | false=>rfl
  | true =>
   obtain rfl:=e2 (by simpa using hc);exact ah_ rfl (aa_ (makes_eq z f user _ name perm mode hm hp (eO_ f id) hl) rfl)
 .cases hz:gW_ s user id name perm mode != 0 with
  | true=>rfl
  | false =>
   obtain⟨h1,h2⟩:=wC_ hz;obtain⟨h0,_,hi,_⟩:=dirC_zero h1;obtain rfl:=e2 h0;obtain⟨_,hpm,_,_⟩:=makesN_zero h2;obtain⟨q,g1,_,g3,g4,_⟩:=inhI_kind f hi hpm;refine ac_ rfl (aa_ g1 (aa_ (rfl:bE_ now=some (bt_ now)) ?_));simp only[g3,cond_false];refine aa_ (u4_ s.Xm id name _ user _ (bt_ now) f.tr g4 hl) ?_;generalize ki_ s.Xm id name (inhI (am_ s id).Xv perm) user (am_ s id).Yv (bt_ now)=c;cases c.2.2 != 0 with
   | true=>rfl
   | false =>
    refine ac_ rfl (aa_ (a:=(s.Yx,s.Yj,c.1.Xt,c.1.Xz,bif an_ (inhI (am_ s id).Xv perm) 29 then putX s.Xs c.2.1 else s.Xs)) (aa_ (fU_ _ g4).2.2.1 ?_) rfl);cases an_ (inhI (am_ s id).Xv perm) 29 with
    | true=>exact ah_ rfl (aa_ (lock_eq _ _ f.srt (by have:=z.el;show s.Xs.length<=1000;omega)) rfl)
    | false=>rfl
def lb_(s:Xx)(n:Xq)(size:Int):Bool:=decide (size<=(n.Xl.length:Int))||l4_ s.Yj s.Xm n.Yw 0 (w64 (size-(n.Xl.length:Int)))
theorem grows_eq{s:Xx}(z:SizeOK s)(n:Xq)(size:Int):eI_ s n size=some (lb_ s n size):=by
 unfold eI_ lb_;rw[pH_ _ _ _ _ _ z.ql (nl2 z)];cases decide (size<=(n.Xl.length:Int))<;>rfl
theorem ref_grows_eq{s:Xx}(z:SizeOK s)(n:Xq)(size:Int):nK_ s n size=some (lb_ s n size):=by
 unfold nK_ lb_;rw[wy_ _ _ _ _ _ z.ql (nl2 z)];cases decide (size<=(n.Xl.length:Int))<;>rfl
def writeS(s:Xx)(user:Str)(id offset:Int)(data:Str)(now:Int):Xx×Int×Int :=
 bif cj_ s user id != 0 then(s,0,cj_ s user id)else bif an_ (am_ s id).Xv 31 then(s,0,10)else bif decide (offset<0)then(s,0,1)else bif data==[]then(s,0,0)else
 let o:=bif an_ (am_ s id).Xv 30 then((am_ s id).Xl.length:Int)else offset
 bif decide (o>65536)||decide ((data.length:Int)>w64 (65536-o))then(s,0,4)else
 bif !(lb_ s (am_ s id) (w64 (o+(data.length:Int))))then(s,0,21)else
 (putTr s (writeT s.Xm id o data user (bt_ now)).1,(data.length:Int),0)
theorem write_ok{t:Xk}{id offset o:Int}{data user:Str}{now:Int}(hi:(ai_ t.Xz id).2=true)(hd:an_ (ai_ t.Xz id).1.Xv 31=false)(h0:0<=offset)(hdt:(data==[])=false)(ho:o=bif an_ (ai_ t.Xz id).1.Xv 30 then((ai_ t.Xz id).1.Xl.length:Int)else offset)
  (hf:(decide (o>65536)||decide ((data.length:Int)>w64 (65536-o)))=false):(writeT t id o data user now).2=((data.length:Int),0)/\0<=o/\o+data.length<=65536:=by
 have ho0:0<=o:=by rw[ho];cases an_ (ai_ t.Xz id).1.Xv 30 with
  | true=>exact Int.natCast_nonneg _
  | false=>exact h0
 simp only[Bool.or_eq_false_iff,qDf]at hf;rw[ap_ ⟨by omega,by omega⟩]at hf;refine⟨?_,ho0,by omega⟩;unfold writeT ht_;rw[hi,hd];have e1:decide (o<0)=false:=by simpa using ho0
 rw[e1,hdt];have e2:(bif an_ (ai_ t.Xz id).1.Xv 30 then((ai_ t.Xz id).1.Xl.length:Int)else o)=o:=by
  cases hh:an_ (ai_ t.Xz id).1.Xv 30 with
  | true=>rw[hh]at ho;exact ho.symm
  | false=>rfl
 simp only[e2];have e3:decide (o+(data.length:Int)>65536)=false:=by simp;omega
 rw[e3];rfl
theorem write_eq{s:Xx}(f:FileOK s)(z:SizeOK s)(user:Str)(id offset:Int)(data:Str)(now:Int)(hu:user.length<=9223372036854775807)(hdl:data.length<=9223372036854775807):eJ_ s user id offset data now=some (writeS s user id offset data now):=by
 obtain⟨n,e1,e2⟩:=op_ z user id hu;unfold eJ_ writeS;refine aa_ (km_ s z) (aa_ e1 ?_);cases hc:cj_ s user id != 0 with
 | true=>rfl
 | false =>
  obtain⟨h0,_,hi⟩:=hv_ hc;obtain rfl:=e2 h0;refine ac_ rfl (aa_ (fU_ _ (eO_ f id)).1 ?_);cases hd:an_ (am_ s id).Xv 31 with
  | true=>rfl
  | false =>
   refine ac_ rfl ?_;cases ho:decide (offset<0)with
   | true=>rfl
   | false =>
    refine ac_ rfl ?_;cases hdt:data==[]with
    | true=>rfl
    | false =>
     refine ac_ rfl (aa_ (a:=bif an_ (am_ s id).Xv 30 then((am_ s id).Xl.length:Int)else offset) (aa_ (fU_ _ (eO_ f id)).2.1 (by cases an_ (am_ s id).Xv 30<;>rfl)) ?_);simp only[cond_false];generalize hO:(bif an_ (am_ s id).Xv 30 then((am_ s id).Xl.length:Int)else offset)=o;cases hf:decide (o>65536)||decide ((data.length:Int)>w64 (65536-o))with
     | true=>rfl
     | false =>
      refine ac_ rfl (aa_ (grows_eq z _ _) ?_);cases lb_ s (am_ s id) (w64 (o+(data.length:Int)))with
      | false=>rfl
      | true =>
       obtain⟨w1,w2,w3⟩:=write_ok (now:=bt_ now) (user:=user) hi hd (by simpa using ho) hdt hO.symm hf;refine ac_ rfl (aa_ rfl (aa_ (wA_ s.Xm id o data user (bt_ now) f.tr (by omega) hdl) ?_));simp only[w1];rfl
def kn_(s:Xx)(user:Str)(id now:Int):Xx×Int:=bif cj_ s user id != 0 then(s,cj_ s user id)else bif !(h7_ s user (am_ s id))then(s,11)else bif(kj_ s.Xm id user (bt_ now)).2 != 0 then(s,(kj_ s.Xm id user (bt_ now)).2)else(putTE s (kj_ s.Xm id user (bt_ now)).1 (outX s.Xs id),0)
theorem remove_eq{s:Xx}(f:FileOK s)(z:SizeOK s)(user:Str)(id now:Int)(hu:user.length<=9223372036854775807):fy_ s user id now=some (kn_ s user id now):=by
 obtain⟨n,e1,e2⟩:=op_ z user id hu;unfold fy_ kn_;refine aa_ (km_ s z) (aa_ e1 ?_);cases hc:cj_ s user id != 0 with
 | true=>rfl
 | false =>
  obtain⟨h0,_,hi⟩:=hv_ hc;obtain rfl:=e2 h0;refine ac_ rfl (aa_ (sv_ f z user _) ?_);cases h7_ s user (am_ s id)with
  | false=>rfl
  | true =>
   refine ac_ rfl (aa_ rfl (aa_ (u5_ s.Xm id user (bt_ now) f.tr) ?_));cases(kj_ s.Xm id user (bt_ now)).2 != 0 with
   | true=>rfl
   | false=>exact ac_ rfl (aa_ (qI_ _ id f.srt (by have:=z.el;show s.Xs.length<=1000;omega)) rfl)
def closeS(s:Xx)(user:Str)(id mode now:Int):Xx:=bif an_ mode 6 then(kn_ (setX s (outX s.Xs id)) user id now).1 else setX s (outX s.Xs id)
theorem removeS_err(s:Xx)(user:Str)(id now:Int)(h:(kn_ s user id now).2≠0):(kn_ s user id now).1=s:=by
 revert h;unfold kn_;cases cj_ s user id != 0 with
 | true=>exact λ _=>rfl
 | false =>
  cases h7_ s user (am_ s id)with
  | false=>exact λ _=>rfl
  | true =>
   cases(kj_ s.Xm id user (bt_ now)).2 != 0 with
   | true=>exact λ _=>rfl
   | false=>exact λ h=>absurd rfl h
theorem out_ok{s:Xx}(f:FileOK s)(x:Int):FileOK (setX s (outX s.Xs x)):=⟨f.us,f.qs,f.tr,outX_sorted f.srt,λ y hy=>f.exc y (mem_outX.1 hy).1⟩
theorem out_size{s:Xx}(z:SizeOK s)(x:Int):SizeOK (setX s (outX s.Xs x)):=⟨z.ul,z.um,z.us,z.ql,z.qs,z.nl,Nat.le_trans (outX_len _ _) z.el⟩
theorem close_eq{s:Xx}(f:FileOK s)(z:SizeOK s)(user:Str)(id mode now:Int)(hu:user.length<=9223372036854775807)(hm:mode<=9223372036854775807):in_ s user id mode now=some (closeS s user id mode now):=by
 unfold in_ closeS;refine aa_ (km_ s z) (aa_ (qI_ _ id f.srt (by have:=z.el;omega)) ?_);rw[(fU_ _ hm).2.2.2];simp only[qBs];cases an_ mode 6 with
 | false=>rfl
 | true =>
  rw[remove_eq (out_ok f id) (out_size z id) user id now hu];cases hr:(kn_ (setX s (outX s.Xs id)) user id now).2==0 with
  | true=>simp[hr]
  | false =>
   rw[removeS_err _ _ _ _ (by simpa using hr)];simp[hr]
def kQ_(m:Yr):Bool:=decide (-1<=m.n_)&&decide (m.n_<=m.Zn)
def os_(x:Yl):List Yr:=[(Yr.mk x.Yo 2 65534),(Yr.mk x.Zp 4 4294967294),(Yr.mk x.Zx.Yo 1 232),(Yr.mk x.Zx.Xo 4 2147483647),(Yr.mk x.Zx.Zw 8 1099511627776),(Yr.mk x.Xv 4 3892314623),(Yr.mk x.Xu 8 1099511627776),(Yr.mk x.Xa 8 1099511627776),(Yr.mk x.Xi 8 9007199254740991)]
theorem numbers_eq(x:Yl):mI_ x=some (os_ x):=rfl
theorem check_loop(ns:List Yr)(h:ns.length<=1000):ak_ (eM_ ns) BIG (0,ns)=some (if ns.all kQ_ then .fall ()else .ret 5):=by
 refine fe_ (body:=eM_ ns) (J:=λ i s b=>s=((i:Int),ns)/\b=if(ns.drop i).all kQ_ then .fall ()else .ret 5) ns.length (bB_ (by omega)) (λ s b hJ => ?_) (λ i s b hi hJ => ?_) ⟨rfl,by simp⟩
 .obtain⟨rfl,rfl⟩:=hJ;unfold eM_;simp only;rw[bA_];simp
 .obtain⟨rfl,rfl⟩:=hJ;have hb:eM_ ns ((i:Int),ns)=bif kQ_ ns[i]then some (.next (((i+1:Nat):Int),ns))else some (.done (.ret 5)):=by
   unfold eM_;simp only;rw[br_ hi,as_ hi,au_ (by omega)];generalize ns[i]=m;simp only[cond_true,qBs];have e:kQ_ m = !(decide (m.n_ < -1)||decide (m.n_>m.Zn)):=by
    unfold kQ_;rw[Bool.eq_iff_iff];simp only[qAn,qDe,Bool.not_eq_true',Bool.or_eq_false_iff,qDf];omega
   rw[e];cases decide (m.n_ < -1)<;>cases decide (m.n_>m.Zn)<;>rfl
  rw[hb,List.drop_eq_getElem_cons hi,List.all_cons];cases hp:kQ_ ns[i]with
  | true=>exact .inr ⟨_,rfl,rfl,by simp⟩
  | false=>exact .inl (by simp)
def f6_(x m:Int):Bool:=(x == -1)||(decide (x>=0)&&(bR_ .i64 x m==x))
def okIn(x m:Int):Bool:=(x == -1)||(decide (x>=0)&&decide (x<=m))
theorem tU_(x:Int)(m:Nat)(hm:m<2^63)(hx:x<=9223372036854775807):h4_ x (m:Int)=some (f6_ x (m:Int)):=by
 unfold h4_ f6_;by_cases h0:0<=x
 .obtain⟨n,rfl⟩:∃n:Nat,x=(n:Int):=⟨x.toNat,by omega⟩;rw[rI_ (by omega) hm]
 .have h0':decide (x>=0)=false:=by simp;omega
  rw[h0'];simp
theorem bits_in(x:Int)(m:Nat)(hm:m<2^63)(hx:x<=9223372036854775807)(h:f6_ x (m:Int)=true):okIn x (m:Int)=true:=by
 unfold f6_ at h;unfold okIn;by_cases h0:0<=x
 .obtain⟨n,rfl⟩:∃n:Nat,x=(n:Int):=⟨x.toNat,by omega⟩;rw[ke_ (by omega) hm]at h;simp only[Bool.or_eq_true,qAn,beq_iff_eq,qDe]at h ⊢;rcases h with h|⟨_,h⟩
  .exact .inl h
  .have:n&&&m=n:=by omega
   have:=and_le this;exact .inr ⟨h0,by omega⟩
 .simp only[Bool.or_eq_true,qAn,beq_iff_eq,qDe]at h ⊢;rcases h with h|⟨h,_⟩
  .exact .inl h
  .omega
theorem okNum_in(n w m:Int):kQ_ ⟨n,w,m⟩=okIn n m\/m < -1:=by
 by_cases hm:m < -1
 .exact .inr hm
 .refine .inl ?_;unfold kQ_ okIn;rw[Bool.eq_iff_iff];simp only[Bool.or_eq_true,qAn,beq_iff_eq,qDe];omega
def okNums(x:Yl):Bool:=okIn x.Yo 65534&&okIn x.Zp 4294967294&&f6_ x.Zx.Yo 232&&okIn x.Zx.Xo 2147483647&&okIn x.Zx.Zw 1099511627776&&f6_ x.Xv 3892314623&&okIn x.Xu 1099511627776&&okIn x.Xa 1099511627776&&okIn x.Xi 9007199254740991
def okTexts(x:Yl):Bool:=(x.Xy==[]||x.Xy==[47]||bM_ x.Xy)&&decide (x.Yw.length<=64)&&decide (x.Yv.length<=64)&&decide (x.Yg.length<=64)
def h8_(x:Yl):Int:=if okNums x then(if okTexts x then 0 else 6)else 5
theorem numList_ok(x:Yl)(hq:x.Zx.Yo<=9223372036854775807)(hmo:x.Xv<=9223372036854775807):((os_ x).all kQ_&&f6_ x.Zx.Yo 232&&f6_ x.Xv 3892314623)=okNums x:=by
 have e:=λ n w m (hm:¬m < -1)=>(okNum_in n w m).resolve_right hm
 have b1:=bits_in x.Zx.Yo 232 (by omega) hq;have b2:=bits_in x.Xv 3892314623 (by omega) hmo;unfold okNums os_;simp only[List.all_cons,List.all_nil,e _ _ _ (show ¬(65534:Int) < -1 by omega),e _ _ _ (show ¬(4294967294:Int) < -1 by omega),e _ _ _ (show ¬(232:Int) < -1 by omega),e _ _ _ (show ¬(2147483647:Int) < -1 by omega),e _ _ _ (show ¬(1099511627776:Int) < -1 by omega),e _ _ _ (show ¬(3892314623:Int) < -1 by omega),e _ _ _ (show ¬(9007199254740991:Int) < -1 by omega)];simp only[Int.cast_ofNat_Int]at b1 b2;cases h1:f6_ x.Zx.Yo 232<;>cases h2:f6_ x.Xv 3892314623<;>simp_all [Bool.and_assoc]
theorem wD_(x:Yl)(hq:x.Zx.Yo<=9223372036854775807)(hmo:x.Xv<=9223372036854775807)(hn:x.Xy.length<=9223372036854775807):lY_ x=some (h8_ x):=by
 have hl:=numList_ok x hq hmo;have w1:=tU_ x.Zx.Yo 232 (by omega) hq;have w2:=tU_ x.Xv 3892314623 (by omega) hmo;simp only[Int.cast_ofNat_Int]at w1 w2;unfold lY_ h8_;rw[numbers_eq];simp only[qBs];rw[check_loop (os_ x) (show(9:Nat)<=1000 by decide)];simp only[qBs];rw[←hl];cases h1:(os_ x).all kQ_ with
 | false=>simp
 | true =>
  simp only[if_true];rw[w1,w2,hq_ _ hn];simp only[qBs];have em:decide (cv_ (cv_ (x.Yw.length:Int) (x.Yv.length:Int)) (x.Yg.length:Int)>64) = !(decide (x.Yw.length<=64)&&decide (x.Yv.length<=64)&&decide (x.Yg.length<=64)):=by
   rw[Bool.eq_iff_iff];simp only[Bool.not_eq_true',Bool.and_eq_false_iff,qDe,qDf];unfold cv_;split<;>split<;>omega
  rw[em];unfold okTexts;cases f6_ x.Zx.Yo 232<;>cases f6_ x.Xv 3892314623<;>cases(x.Xy==[])<;>cases(x.Xy==[47])<;>cases bM_ x.Xy<;>cases decide (x.Yw.length<=64)<;>cases decide (x.Yv.length<=64)<;>cases decide (x.Yg.length<=64)<;>simp
theorem lenD_eq{n:Xq}(h:aM_ n=true)(hm:n.Xv<=9223372036854775807):fz_ n=some (n.Xl.length:Int):=by
 unfold fz_;refine aa_ (fU_ _ hm).1 ?_;cases hd:an_ n.Xv 31 with
 | true=>rw[okNode_dir h hd];rfl
 | false=>rfl
def ey_(s:Xx)(user:Str)(n:Xq)(name:Str):Int:=bif name==[]||name==n.Xy then 0 else bif n.Id_==1 then 11 else bif !(bM_ name)then 6 else bif !(h7_ s user n)then 11 else bif(kP_ s.Xm.Xz n.Xw name).2==0 then 7 else 0
def ez_(s:Xx)(user:Str)(n:Xq)(size:Int):Int:=bif size == -1||size==(n.Xl.length:Int)then 0 else bif an_ n.Xv 31 then 10 else bif !(mayS s user n 2)then 11 else bif decide (size>65536)then 4 else bif !(lb_ s n size)then 21 else 0
def ownsS(s:Xx)(user:Str)(n:Xq):Bool:=user==n.Yw||k9_ s.Yx user n.Yv
def qN_(s:Xx)(user:Str)(n:Xq)(gid:Str):Int:=bif(gid==[]||gid==n.Yv)||(user==n.Yw&&dT_ s.Yx user gid)then 0 else bif k9_ s.Yx user n.Yv&&k9_ s.Yx user gid then 0 else 26
def setsS(s:Xx)(user:Str)(n:Xq)(d:Yl):Int:=bif d.Xv != -1 && !(ownsS s user n)then 11 else bif d.Xv != -1 && !(an_ d.Xv 31==an_ n.Xv 31)then 27 else bif d.Xv != -1 && !(aI_ d.Xv)then 1 else bif d.Xa != -1 && !(ownsS s user n)then 11 else qN_ s user n d.Yv
def fixedD(d:Yl):Bool:=((((d.Yo != -1||d.Zp != -1) || !(decide (d.Zx=Zb.mk (-1) (-1) (-1))))||d.Xu != -1) || !(d.Yw==[])) || !(d.Yg==[])
def mV_(s:Xx)(user:Str)(n:Xq)(d:Yl):Int:=bif h8_ d != 0 then h8_ d else bif fixedD d then 27 else bif ey_ s user n d.Xy != 0 then ey_ s user n d.Xy else bif ez_ s user n d.Xi != 0 then ez_ s user n d.Xi else setsS s user n d
def fV_(s:Xx)(user:Str)(id:Int)(d:Yl):Int:=bif cj_ s user id != 0 then cj_ s user id else mV_ s user (am_ s id) d
def DirB(d:Yl):Prop:=d.Zx.Yo<=9223372036854775807/\d.Xv<=9223372036854775807/\d.Xy.length<=9223372036854775807
theorem renames_eq{s:Xx}(f:FileOK s)(z:SizeOK s)(user:Str)(n:Xq)(name:Str)(hl:name.length<=9223372036854775807):gy_ s user n name=some (ey_ s user n name)/\pC_ s user n name=some (ey_ s user n name):=by
 unfold gy_ pC_ ey_;cases h1:name==[]||name==n.Xy with
 | true=>exact⟨rfl,rfl⟩
 | false =>
  rw[mQ_ _ _ _ f.tr,wt_ _ _ _ f.tr,hq_ _ hl,rJ_ _ hl,sv_ f z,tR_ f z];simp only[cond_false,qBs];unfold h7_ bne;cases n.Id_==1<;>cases bM_ name<;>cases isS s n.Xw<;>cases mayS s user (am_ s n.Xw) 2<;>cases(kP_ s.Xm.Xz n.Xw name).2==0<;>exact⟨rfl,rfl⟩
theorem resizes_eq{s:Xx}(f:FileOK s)(z:SizeOK s)(user:Str){id:Int}(hi:isS s id=true)(size:Int):gz_ s user (am_ s id) size=some (ez_ s user (am_ s id) size)/\pD_ s user (am_ s id) size=some (ez_ s user (am_ s id) size):=by
 have hm:=eO_ f id;unfold gz_ pD_ ez_;rw[lenD_eq (f.tr.flds _ (ss_ hi)) hm,(fU_ _ hm).1,(has_r _ hm).1,may_eq z user hm,node_id hi,tR_ f z,hi,grows_eq z,ref_grows_eq z];simp only[qBs,Bool.true_and];cases size == -1<;>cases size==((am_ s id).Xl.length:Int)<;>cases an_ (am_ s id).Xv 31<;>cases mayS s user (am_ s id) 2<;>cases decide (size>65536)<;>cases lb_ s (am_ s id) size<;>exact⟨rfl,rfl⟩
theorem regroups_eq{s:Xx}(z:SizeOK s)(user:Str)(n:Xq)(gid:Str):fS_ s user n gid=some (qN_ s user n gid):=by
 unfold fS_ qN_;rw[lu_ _ _ _ z.ul z.um,lu_ _ _ _ z.ul z.um,hs_ _ _ _ z.ul z.um];simp only[qBs];cases user==n.Yw<;>cases k9_ s.Yx user n.Yv<;>cases gid==[]<;>cases gid==n.Yv<;>cases dT_ s.Yx user gid<;>cases k9_ s.Yx user gid<;>rfl
theorem changes_eq{s:Xx}(f:FileOK s)(z:SizeOK s)(user:Str){id:Int}(hi:isS s id=true)(d:Yl)(hd:DirB d):gA_ s user (am_ s id) d=some (mV_ s user (am_ s id) d):=by
 have hm:=eO_ f id;unfold gA_ mV_;refine aa_ (wD_ d hd.1 hd.2.1 hd.2.2) ?_;cases h8_ d != 0 with
 | true=>rfl
 | false =>
  refine ac_ rfl (aa_ rfl ?_);show(bif fixedD d then _ else _)=some (bif fixedD d then _ else _);cases fixedD d with
  | true=>rfl
  | false =>
   refine ac_ rfl (aa_ (renames_eq f z user _ _ hd.2.2).1 ?_);show(bif ey_ s user (am_ s id) d.Xy != 0 then _ else _)=some (bif ey_ s user (am_ s id) d.Xy != 0 then _ else _);cases ey_ s user (am_ s id) d.Xy != 0 with
   | true=>rfl
   | false =>
    refine ac_ rfl (aa_ (resizes_eq f z user hi _).1 ?_);show(bif ez_ s user (am_ s id) d.Xi != 0 then _ else _)=some (bif ez_ s user (am_ s id) d.Xi != 0 then _ else _);cases ez_ s user (am_ s id) d.Xi != 0 with
    | true=>rfl
    | false =>
     rw[lu_ _ _ _ z.ul z.um,(fU_ _ hm).1,(fU_ _ hd.2.1).1,qH_ _ hd.2.1,regroups_eq z];unfold setsS;simp only[qBs,cond_false];unfold ownsS;cases user==(am_ s id).Yw<;>cases k9_ s.Yx user (am_ s id).Yv<;>cases d.Xv != -1<;>cases an_ d.Xv 31==an_ (am_ s id).Xv 31<;>cases aI_ d.Xv<;>cases d.Xa != -1<;>rfl
theorem nr_{l:List Xq}(hs:l.Pairwise λ a b=>a.Id_<b.Id_)(m:Xq){x:Int}(h:(ai_ l x).2=true):ai_ (bv_ l m) x=(bif x==m.Id_ then m else(ai_ l x).1,true):=by
 obtain⟨h1,h2⟩:=bs_ h;have:=iI_ (kk_ hs m) (mU_ (n:=m) h1);rw[h2]at this;cases hx:x==m.Id_ with
 | true =>
  rw[hx]at this;simp only[cond_true]at this;rw[show m.Id_=x from(beq_iff_eq.1 hx).symm]at this;exact this
 | false =>
  rw[hx]at this;simp only[cond_false]at this;rw[h2]at this;exact this
theorem rename_keep{t:Xk}(h:OkT t.Xz t.Xt){id:Int}(hi:(ai_ t.Xz id).2=true)(name uid:Str)(now:Int):Keep t (kl_ t id name uid now).1 id:=by
 rcases rename_cases (id:=id) (name:=name) (uid:=uid) (now:=now) h with⟨e,he⟩|⟨p,h1,_,_,_,h5,he,h6⟩
 .rw[he];exact⟨h,hi,rfl⟩
 .obtain⟨g1,g2⟩:=bs_ hi;have s1:=kk_ h.srt (bG_ (ai_ t.Xz id).1 name);have e1:=nr_ h.srt (bG_ (ai_ t.Xz id).1 name) hi;have e2:=nr_ s1 (bP_ p uid now) (by rw[e1]:(ai_ (bv_ t.Xz (bG_ (ai_ t.Xz id).1 name)) id).2=true);have e3:(id==(bP_ p uid now).Id_)=false:=by
   have:(bP_ p uid now).Id_=p.Id_:=rfl;rw[this];simp;omega
  have e4:(id==(bG_ (ai_ t.Xz id).1 name).Id_)=true:=by
   have:(bG_ (ai_ t.Xz id).1 name).Id_=(ai_ t.Xz id).1.Id_:=rfl;rw[this,g2];simp
  rw[e3,e1,e4]at e2;rw[he];exact⟨h6,by rw[e2],by rw[e2];rfl⟩
theorem resize_keep{t:Xk}(h:OkT t.Xz t.Xt){id:Int}(hi:(ai_ t.Xz id).2=true)(size:Int)(uid:Str)(now:Int):Keep t (gi_ t id size uid now).1 id:=by
 rcases resize_cases (id:=id) (size:=size) (uid:=uid) (now:=now) h with⟨e,he⟩|⟨h1,_,he,_,h6⟩
 .rw[he];exact⟨h,hi,rfl⟩
 .obtain⟨g1,g2⟩:=bs_ hi;have e2:=nr_ h.srt (bP_ (putD (ai_ t.Xz id).1 (fitS (ai_ t.Xz id).1.Xl size.toNat)) uid now) hi;have e4:(id==(bP_ (putD (ai_ t.Xz id).1 (fitS (ai_ t.Xz id).1.Xl size.toNat)) uid now).Id_)=true:=by
   have:(bP_ (putD (ai_ t.Xz id).1 (fitS (ai_ t.Xz id).1.Xl size.toNat)) uid now).Id_=(ai_ t.Xz id).1.Id_:=rfl;rw[this,g2];simp
  rw[e4]at e2;rw[he];exact⟨h6,by rw[e2],by rw[e2];rfl⟩
theorem Keep.refl{t:Xk}(h:OkT t.Xz t.Xt){id:Int}(hi:(ai_ t.Xz id).2=true):Keep t t id:=⟨h,hi,rfl⟩
def dF_(t:Xk)(user:Str)(id:Int)(n:Xq)(d:Yl)(now:Int):Xk:=bif !(d.Xy==[]) && !(d.Xy==n.Xy)then(kl_ t id d.Xy user (bt_ now)).1 else t
def e3_(t:Xk)(user:Str)(id:Int)(n:Xq)(d:Yl)(now:Int):Xk:=bif d.Xi != -1&&d.Xi != (n.Xl.length:Int)then(gi_ t id d.Xi user (bt_ now)).1 else t
def gidD(n:Xq)(d:Yl):Str:=bif d.Yv==n.Yv then[]else d.Yv
def fk_(t:Xk)(id:Int)(n:Xq)(d:Yl):Xk:=bif(d.Xv != -1||d.Xa != -1) || !(gidD n d==[])then(attrsT t id d.Xv (gidD n d) d.Xa).1 else t
def stepEx(l:List Int)(id:Int)(d:Yl):List Int:=bif d.Xv != -1 && !(an_ d.Xv 29)then outX l id else l
def wstatS(s:Xx)(user:Str)(id:Int)(d:Yl)(now:Int):Xx×Int:=bif fV_ s user id d != 0 then(s,fV_ s user id d)else(putTE s (fk_ (e3_ (dF_ s.Xm user id (am_ s id) d now) user id (am_ s id) d now) id (am_ s id) d) (stepEx s.Xs id d),0)
theorem stepA_keep{t:Xk}(h:OkT t.Xz t.Xt){id:Int}(hi:(ai_ t.Xz id).2=true)(user:Str)(n:Xq)(d:Yl)(now:Int):Keep t (dF_ t user id n d now) id:=by
 unfold dF_;cases !(d.Xy==[]) && !(d.Xy==n.Xy)with
 | true=>exact rename_keep h hi _ _ _
 | false=>exact Keep.refl h hi
theorem stepB_keep{t:Xk}(h:OkT t.Xz t.Xt){id:Int}(hi:(ai_ t.Xz id).2=true)(user:Str)(n:Xq)(d:Yl)(now:Int):Keep t (e3_ t user id n d now) id:=by
 unfold e3_;cases d.Xi != -1&&d.Xi != (n.Xl.length:Int)with
 | true=>exact resize_keep h hi _ _ _
 | false=>exact Keep.refl h hi
theorem pI_{s:Xx}{user:Str}{id:Int}{d:Yl}(h:(fV_ s user id d != 0)=false):(cj_ s user id != 0)=false/\h8_ d=0/\ey_ s user (am_ s id) d.Xy=0/\ez_ s user (am_ s id) d.Xi=0/\setsS s user (am_ s id) d=0:=by
 have h0:fV_ s user id d=0:=by simpa using h
 unfold fV_ at h0;cases hc:cj_ s user id != 0 with
 | true=>rw[hc]at h0;rw[show cj_ s user id=0 from h0]at hc;cases hc
 | false =>
  rw[hc]at h0
  replace h0:mV_ s user (am_ s id) d=0:=h0;unfold mV_ at h0;cases h1:h8_ d != 0 with
  | true=>rw[h1]at h0;rw[show h8_ d=0 from h0]at h1;cases h1
  | false =>
   rw[h1]at h0;cases h2:fixedD d with
   | true=>rw[h2]at h0;cases h0
   | false =>
    rw[h2]at h0;cases h3:ey_ s user (am_ s id) d.Xy != 0 with
    | true=>rw[h3]at h0;rw[show ey_ s user (am_ s id) d.Xy=0 from h0]at h3;cases h3
    | false =>
     rw[h3]at h0;cases h4:ez_ s user (am_ s id) d.Xi != 0 with
     | true=>rw[h4]at h0;rw[show ez_ s user (am_ s id) d.Xi=0 from h0]at h4;cases h4
     | false =>
      rw[h4]at h0;exact⟨rfl,by simpa using h1,by simpa using h3,by simpa using h4,h0⟩
theorem setsS_mode{s:Xx}{user:Str}{n:Xq}{d:Yl}(h:setsS s user n d=0)(hm:(d.Xv != -1)=true):aI_ d.Xv=true/\an_ d.Xv 31=an_ n.Xv 31:=by
 unfold setsS at h;rw[hm]at h;cases h1:ownsS s user n with
 | false=>rw[h1]at h;cases h
 | true =>
  rw[h1]at h;cases h2:an_ d.Xv 31==an_ n.Xv 31 with
  | false=>rw[h2]at h;cases h
  | true =>
   rw[h2]at h;cases h3:aI_ d.Xv with
   | false=>rw[h3]at h;cases h
   | true=>exact⟨rfl,by simpa using h2⟩
theorem checkR_mtime{d:Yl}(h:h8_ d=0):d.Xa = -1\/0<=d.Xa/\d.Xa<=1099511627776:=by
 unfold h8_ at h;cases hn:okNums d with
 | false=>rw[hn]at h;cases h
 | true =>
  unfold okNums okIn at hn;simp only[qAn,Bool.or_eq_true,beq_iff_eq,qDe]at hn;exact hn.1.2
theorem stepC_mode{t:Xk}(h:OkT t.Xz t.Xt){id:Int}(hi:(ai_ t.Xz id).2=true){n:Xq}{d:Yl}(hn:n.Xv=(ai_ t.Xz id).1.Xv)(hmo:(d.Xv != -1)=true->aI_ d.Xv=true/\an_ d.Xv 31=an_ n.Xv 31)(hmt:d.Xa = -1\/0<=d.Xa/\d.Xa<=1099511627776) :
  OkT (fk_ t id n d).Xz (fk_ t id n d).Xt/\(ai_ (fk_ t id n d).Xz id).2=true/\(ai_ (fk_ t id n d).Xz id).1.Xv=bif d.Xv != -1 then d.Xv else n.Xv:=by
 obtain⟨g1,g2⟩:=bs_ hi;unfold fk_;cases hc:(d.Xv != -1||d.Xa != -1) || !(gidD n d==[])with
 | false =>
  simp only[Bool.or_eq_false_iff]at hc;rw[hc.1.1];exact⟨h,hi,hn.symm⟩
 | true =>
  have he:attrsT t id d.Xv (gidD n d) d.Xa=(Xk.mk t.Xt (bv_ t.Xz (ir_ (ai_ t.Xz id).1 d.Xv (gidD n d) d.Xa)),0):=by
   unfold attrsT;rw[hi];have c1:((d.Xv != -1)&&(!(aI_ d.Xv) || !(an_ d.Xv 31==an_ (ai_ t.Xz id).1.Xv 31)))=false:=by
    cases hm:d.Xv != -1 with
    | false=>rfl
    | true =>
     obtain⟨a,b⟩:=hmo hm;rw[hn]at b;rw[a,b];simp
   have c2:((d.Xa != -1)&&(decide (d.Xa<0)||decide (d.Xa>1099511627776)))=false:=by
    rcases hmt with e|⟨e1,e2⟩
    .rw[e];rfl
    .rw[show decide (d.Xa<0)=false by simpa using e1,show decide (d.Xa>1099511627776)=false by simpa using e2];simp
   rw[c1,c2];rfl
  have h6:OkT (bv_ t.Xz (ir_ (ai_ t.Xz id).1 d.Xv (gidD n d) d.Xa)) t.Xt:=by
   obtain⟨a,b⟩:=attrN_ok (h.flds _ g1) (mode:=d.Xv) (gid:=gidD n d) (mtime:=d.Xa) (by
    cases hm:d.Xv != -1 with
    | false=>exact .inl (by simpa using hm)
    | true=>obtain⟨a,b⟩:=hmo hm;exact .inr ⟨a,by rw[b,hn]⟩) hmt
   exact h.upd g1 rfl rfl a b (.inl rfl)
  rw[cond_true,he];have e2:=nr_ h.srt (ir_ (ai_ t.Xz id).1 d.Xv (gidD n d) d.Xa) hi;have e4:(id==(ir_ (ai_ t.Xz id).1 d.Xv (gidD n d) d.Xa).Id_)=true:=by
   have:(ir_ (ai_ t.Xz id).1 d.Xv (gidD n d) d.Xa).Id_=(ai_ t.Xz id).1.Id_:=rfl;rw[this,g2];simp
  rw[e4]at e2;refine⟨h6,by rw[e2],?_⟩;rw[e2];show(bif d.Xv != -1 then d.Xv else(ai_ t.Xz id).1.Xv)=_;rw[←hn]
theorem wstat_trees{s:Xx}(f:FileOK s){user:Str}{id:Int}{d:Yl}(now:Int)(hz:(fV_ s user id d != 0)=false) :
  isS s id=true/\Keep s.Xm (dF_ s.Xm user id (am_ s id) d now) id/\Keep s.Xm (e3_ (dF_ s.Xm user id (am_ s id) d now) user id (am_ s id) d now) id /\
  OkT (fk_ (e3_ (dF_ s.Xm user id (am_ s id) d now) user id (am_ s id) d now) id (am_ s id) d).Xz (fk_ (e3_ (dF_ s.Xm user id (am_ s id) d now) user id (am_ s id) d now) id (am_ s id) d).Xt /\
  (ai_ (fk_ (e3_ (dF_ s.Xm user id (am_ s id) d now) user id (am_ s id) d now) id (am_ s id) d).Xz id).2=true /\
  (ai_ (fk_ (e3_ (dF_ s.Xm user id (am_ s id) d now) user id (am_ s id) d now) id (am_ s id) d).Xz id).1.Xv=bif d.Xv != -1 then d.Xv else(am_ s id).Xv:=by
 obtain⟨h1,h2,h3,h4,h5⟩:=pI_ hz;obtain⟨_,_,hi⟩:=hv_ h1;have kA:=stepA_keep f.tr hi user (am_ s id) d now;have kB:=kA.trans (stepB_keep kA.ok kA.is user (am_ s id) d now);exact⟨hi,kA,kB,stepC_mode kB.ok kB.is kB.mode.symm (λ hm=>setsS_mode h5 hm) (checkR_mtime h2)⟩
theorem wstat_eq{s:Xx}(f:FileOK s)(z:SizeOK s)(user:Str)(id:Int)(d:Yl)(now:Int)(hu:user.length<=9223372036854775807)(hd:DirB d):io_ s user id d now=some (wstatS s user id d now):=by
 obtain⟨n,e1,e2⟩:=op_ z user id hu;unfold io_ wstatS;refine aa_ (km_ s z) (aa_ e1 (aa_ (a:=fV_ s user id d) ?_ ?_))
 .unfold fV_ bne;cases hc:cj_ s user id==0 with
  | false=>rfl
  | true =>
   have h0:cj_ s user id=0:=by simpa using hc
   obtain rfl:=e2 h0;exact ah_ rfl (aa_ (changes_eq f z user (hv_ (by rw[h0];rfl)).2.2 d hd) rfl)
 .cases hz:fV_ s user id d != 0 with
  | true=>rfl
  | false =>
   obtain⟨hi,kA,kB,kC,_⟩:=wstat_trees f now hz;obtain rfl:=e2 (hv_ (pI_ hz).1).1;refine ac_ rfl (aa_ (a:=((dF_ s.Xm user id (am_ s id) d now).Xt,s.Yx,s.Yj,(dF_ s.Xm user id (am_ s id) d now).Xz,s.Xs)) ?_ (aa_ (a:=((e3_ (dF_ s.Xm user id (am_ s id) d now) user id (am_ s id) d now).Xt,s.Yx,s.Yj,(e3_ (dF_ s.Xm user id (am_ s id) d now) user id (am_ s id) d now).Xz,s.Xs)) ?_ (aa_ (a:=gidD (am_ s id) d) ?_ (aa_ (a:=((fk_ (e3_ (dF_ s.Xm user id (am_ s id) d now) user id (am_ s id) d now) id (am_ s id) d).Xt,s.Yx,s.Yj,(fk_ (e3_ (dF_ s.Xm user id (am_ s id) d now) user id (am_ s id) d now) id (am_ s id) d).Xz,s.Xs)) ?_ (aa_ (a:=(s.Yx,s.Yj,(fk_ (e3_ (dF_ s.Xm user id (am_ s id) d now) user id (am_ s id) d now) id (am_ s id) d).Xt,(fk_ (e3_ (dF_ s.Xm user id (am_ s id) d now) user id (am_ s id) d now) id (am_ s id) d).Xz,stepEx s.Xs id d)) ?_ rfl)))))
   .unfold dF_;cases !(d.Xy==[]) && !(d.Xy==(am_ s id).Xy)with
    | true=>exact ah_ rfl (aa_ rfl (aa_ (u6_ s.Xm id d.Xy user (bt_ now) f.tr hd.2.2) rfl))
    | false=>rfl
   .refine aa_ (a:=d.Xi != -1&&d.Xi != ((am_ s id).Xl.length:Int)) ?_ ?_
    .rw[lenD_eq (f.tr.flds _ (ss_ hi)) (eO_ f id)];cases d.Xi != -1<;>rfl
    .generalize hA:dF_ s.Xm user id (am_ s id) d now=tA at kA;unfold e3_;cases d.Xi != -1&&d.Xi != ((am_ s id).Xl.length:Int)with
     | true=>exact ah_ rfl (aa_ rfl (aa_ (oq_ tA id d.Xi user (bt_ now) kA.ok) rfl))
     | false=>rfl
   .unfold gidD;cases d.Yv==(am_ s id).Yv<;>rfl
   .generalize hB:e3_ (dF_ s.Xm user id (am_ s id) d now) user id (am_ s id) d now=tB at kB;unfold fk_;cases(d.Xv != -1||d.Xa != -1) || !(gidD (am_ s id) d==[])with
    | true=>exact ah_ rfl (aa_ (wB_ tB id d.Xv _ d.Xa kB.ok hd.2.1) rfl)
    | false=>rfl
   .generalize hC:fk_ (e3_ (dF_ s.Xm user id (am_ s id) d now) user id (am_ s id) d now) id (am_ s id) d=tC;unfold stepEx;rw[(fU_ _ hd.2.1).2.2.1];refine aa_ (a:=d.Xv != -1 && !(an_ d.Xv 29)) (by cases d.Xv != -1<;>rfl) ?_;cases d.Xv != -1 && !(an_ d.Xv 29)with
    | true=>exact ah_ rfl (aa_ (qI_ _ id f.srt (by have:=z.el;show s.Xs.length<=1000;omega)) rfl)
    | false=>rfl
open Go.Sort
theorem hw_{α:Type}{R:α->α->Prop}:∀{l1 l2:List α},l1.Perm l2->l1.Pairwise R->l2.Pairwise R->(∀a,a∈l1->∀b,b∈l1->R a b->R b a->a=b)->l1=l2
 | [],l2,hp,_,_,_=>hp.nil_eq
 | a::l1,[],hp,_,_,_=>absurd hp.length_eq (by simp)
 | a::l1,b::l2,hp,h1,h2,hR=>by
  have h1':=List.pairwise_cons.1 h1;have h2':=List.pairwise_cons.1 h2;have hab:a=b:=by
   by_cases e:a=b
   .exact e
   have ha:a∈b::l2:=hp.subset List.mem_cons_self;have hb:b∈a::l1:=hp.symm.subset List.mem_cons_self;rcases List.mem_cons.1 ha with h|ha'
   .exact h
   rcases List.mem_cons.1 hb with h|hb'
   .exact h.symm
   exact hR a List.mem_cons_self b hb (h1'.1 b hb') (h2'.1 a ha')
  subst hab;rw[hw_ hp.cons_inv h1'.2 h2'.2 λ x hx y hy=>hR x (List.mem_cons_of_mem _ hx) y (List.mem_cons_of_mem _ hy)]
def insS{α:Type}(le:α->α->Bool)(x:α):List α->List α | []=>[x]|y::l=>bif le x y then x::y::l else y::insS le x l
def isort{α:Type}(le:α->α->Bool):List α->List α | []=>[]|x::l=>insS le x (isort le l)
section
variable{α:Type}{le:α->α->Bool}
theorem qP_(x:α):∀(l:List α),(insS le x l).Perm (x::l)
 | []=>List.Perm.refl _
 | y::l=>by
  unfold insS;cases le x y with
  | true=>exact List.Perm.refl _
  | false=>exact((qP_ x l).cons y).trans (List.Perm.swap x y l)
theorem tW_:∀(l:List α),(isort le l).Perm l
 | []=>List.Perm.refl _
 | x::l=>(qP_ x _).trans ((tW_ l).cons x)
theorem rR_(ht:∀a b c,le a b=true->le b c=true->le a c=true)(hl:∀a b,le a b=true\/le b a=true)(x:α):∀(l:List α),l.Pairwise (λ a b=>le a b=true)->(insS le x l).Pairwise (λ a b=>le a b=true)
 | [],_=>by simp[insS]
 | y::l,h=>by
  obtain⟨h1,h2⟩:=List.pairwise_cons.1 h;unfold insS;cases hx:le x y with
  | true =>
   refine List.pairwise_cons.2 ⟨λ z hz => ?_,h⟩;rcases List.mem_cons.1 hz with rfl|hz
   .exact hx
   .exact ht _ _ _ hx (h1 z hz)
  | false =>
   refine List.pairwise_cons.2 ⟨λ z hz => ?_,rR_ ht hl x l h2⟩;rcases List.mem_cons.1 ((qP_ x l).subset hz)with rfl|hz
   .rcases hl z y with h'|h'
    .rw[hx]at h';cases h'
    .exact h'
   .exact h1 z hz
theorem qQ_(ht:∀a b c,le a b=true->le b c=true->le a c=true)(hl:∀a b,le a b=true\/le b a=true):∀(l:List α),(isort le l).Pairwise (λ a b=>le a b=true)
 | []=>List.Pairwise.nil
 | x::l=>rR_ ht hl x _ (qQ_ ht hl l)
end
def leK{α:Type}(key:α->Int)(x y:α):Bool:=decide (key x<=key y)
theorem leK_trans{α:Type}(key:α->Int)(a b c:α)(h1:leK key a b=true)(h2:leK key b c=true):leK key a c=true:=by
 unfold leK at *
 simp only[qDe]at *
 omega
theorem leK_total{α:Type}(key:α->Int)(a b:α):leK key a b=true\/leK key b a=true:=by
 unfold leK;simp only[qDe];omega
theorem key_inj{α:Type}{key:α->Int}:∀{l:List α},(l.map key).Nodup->∀a,a∈l->∀b,b∈l->key a=key b->a=b
 | [],_,a,ha,_,_,_=>by cases ha
 | x::l,h,a,ha,b,hb,e=>by
  rw[List.map_cons]at h;obtain⟨h1,h2⟩:=List.nodup_cons.1 h;rcases List.mem_cons.1 ha with ha1|ha1<;>rcases List.mem_cons.1 hb with hb1|hb1
  .rw[ha1,hb1]
  .rw[ha1]at e;exact absurd (List.mem_map.2 ⟨b,hb1,e.symm⟩) h1
  .rw[hb1]at e;exact absurd (List.mem_map.2 ⟨a,ha1,e⟩) h1
  .exact key_inj h2 a ha1 b hb1 e
theorem kR_{α:Type}[Inhabited α]{key:α->Int}{xs ys:List α}(h:dJ_ key xs=some ys):ys.Perm xs/\ys.Pairwise λ a b=>leK key a b=true:=by
 unfold dJ_ at h;split at h
 .obtain rfl:=qSj h;have hs:=pdq_sorts (fun(x y:α)=>decide (key x<key y)) ⟨λ x=>by simp,λ x y z h1 h2=>by simp at *;omega,λ x y z h1 h2=>by simp at *;omega⟩ xs.toArray 0 xs.length (Lib.bitLen xs.length) true true (Nat.zero_le _) (by simp) (Or.inl rfl);generalize Sort.pdq (fun(x y:α)=>decide (key x<key y)) xs.toArray 0 xs.length (Lib.bitLen xs.length) true true=d at hs;obtain⟨⟨h1,_,h2⟩,h3⟩:=hs;have h1':d.size=xs.length:=by simpa using h1
  have e1:d.extract 0 xs.length=d:=by rw[←h1'];simp
  have e2:xs.toArray.extract 0 xs.length=xs.toArray:=by
   have:xs.length=xs.toArray.size:=by simp
   rw[this];simp
  rw[e1,e2]at h2;refine⟨by simpa using h2,List.pairwise_iff_getElem.2 λ i j hi hj hij => ?_⟩;have hj':j<xs.length:=by simpa[h1']using hj
  have:=h3 i j (Nat.zero_le _) hij hj';rw[getElem!_pos d j (by omega),getElem!_pos d i (by omega)]at this;unfold leK;simp only[qDe,qDf]at *
  simpa using this
 .cases h
def sortByC{α:Type}[Inhabited α](key:α->Int)(xs:List α):Option (List α):=if xs.length<4611686018427387904 then(if(xs.map key).Nodup then some (isort (leK key) xs)else dJ_ key xs)else none
theorem sortBy_eq{α:Type}[Inhabited α] : @dJ_ α _=sortByC:=by
 funext key xs
 unfold sortByC;split
 .rename_i hl;split
  .rename_i hn;obtain⟨ys,hy⟩:∃ys,dJ_ key xs=some ys:=⟨_,by unfold dJ_;rw[if_pos hl]⟩;obtain⟨h1,h2⟩:=kR_ hy;rw[hy]
   congr 1
   refine hw_ (h1.trans (tW_ xs).symm) h2 (qQ_ (leK_trans key) (leK_total key) xs) λ a ha b hb h3 h4 => ?_
   refine key_inj hn a (h1.subset ha) b (h1.subset hb) ?_;unfold leK at h3 h4;simp only[qDe]at h3 h4;omega
  .rfl
 .rename_i hl;unfold dJ_;rw[if_neg hl]
end Go.Proofs.YtebokaoegomboaaGreatDoor
