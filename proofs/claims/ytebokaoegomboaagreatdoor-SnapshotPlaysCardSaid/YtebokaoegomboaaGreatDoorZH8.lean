/-
 What the statements of this seat hang on,part 8: Ub Ur Hs Uw Ho.
-/
import Derived.Test.YtebokaoegomboaaGreatDoorZH7
import Derived.Sort.AssemblyPlain
import Derived.KernelRfl
namespace Go.Proofs.YtebokaoegomboaaGreatDoor
open Go.Rt Go.RowKit
theorem pk_{xs:List Xb}(h:xs.length<=1000):bW_ xs=some xs:=hQ_ (n:=56) (by omega) (by omega)
theorem oc_{xs:List Xe}(h:xs.length<=1000):bL_ xs=some xs:=hQ_ (n:=32) (by omega) (by omega)
theorem tp_{xs:List Xq}(h:xs.length<=2000):cg_ xs=some xs:=hQ_ (n:=128) (by omega) (by omega)
theorem nq_{xs:List Int}(h:xs.length<=1000):cv_ xs=some xs:=hQ_ (n:=8) (by omega) (by omega)
def gP_(l:List Xb)(user group:Str):Bool:=if(d6_ l group).1.Yd==[]then dS_ l user group else(d6_ l group).1.Yd==user
theorem mO_(l:List Xb)(user group:Str)(h:l.length<=1000)(hm:smallM l):ik_ l user group=some (gP_ l user group):=by
 unfold ik_ gP_;refine aa_ (sf_ l group h hm) ?_;have f:(d6_ l group).2=false->(d6_ l group).1.Yd=[]:=by
  unfold d6_;cases l.find? (c8_ group)with
  | none=>exact λ_=>rfl
  | some u=>exact λh=>nomatch h
 cases j:(d6_ l group).2 with
 | true =>
  cases m:(d6_ l group).1.Yd==[]with
  | true=>exact aa_ (in_ l user group h hm) rfl
  | false=>rfl
 | false =>
  rw[f j];exact aa_ (in_ l user group h hm) rfl
theorem pl_(x:Int)(k:Nat)(f:k<63)(h:x<=9223372036854775807):jB_ x ((2^k:Nat):Int)=some (al_ x k):=pU_ x k f h
theorem tree_app_eq(x:Int)(f:x<=9223372036854775807):n2_ x=some (al_ x 30):=qH some (has_lit x 30 (by omega) f)
theorem andNot_511{n:Nat}(h:n<2^63):dc_ .i64 (n:Int) 511=((n-n%512:Nat):Int):=by
 rw[show(511:Int)=((511:Nat):Int)from rfl,pj_ h (by omega)]
 congr 1
 apply jK;intro i;have e:n-n%512=2^9*(n/2^9)+0:=by have:=ja n 512;omega
 rw[jA,e,Nat.testBit_two_pow_mul_add _ (by omega:0<2^9),jC,show 2^64-1-511=2^64-(511+1)by omega,Nat.testBit_two_pow_sub_succ (by omega)];by_cases hi:i<9
 .rw[qV hi];have:(511:Nat).testBit i=true:=by
   have:∀j,j<9->(511:Nat).testBit j=true:=by decide
   exact this i hi
  simp[this]
 .rw[qX hi];have m:(511:Nat).testBit i=false:=zr (zJ (by omega:511<2^9) (zI (by omega) (by omega)));rw[m,show i-9+9=i by omega];by_cases f:i<64
  .simp[f]
  .have:n.testBit i=false:=zr (zJ h (zI (by omega) (by omega)));simp[this]
theorem sub_two{r:Nat}(h:r<2^63):(dc_ .i64 (r:Int) 1610612736==0)=(r==0||r==1073741824||r==536870912||r==1610612736):=by
 have e := @tn_ r 1610612736 h (by omega);rw[show((1610612736:Nat):Int)=1610612736 from rfl]at e;rw[e];rw[show(1610612736:Int)=((1610612736:Nat):Int)from rfl,li_ h (by omega)];rw[qK,qG];simp only[qP,qG];constructor
 .intro s;have hr:r&&&1610612736=r:=by omega
  have f:=and_le hr;have p:r%2^29=0:=by
   apply jK;intro i;rw[Nat.testBit_mod_two_pow,Nat.zero_testBit];by_cases hi:i<29
   .have m:(1610612736:Nat).testBit i=false:=by
     have:∀j,j<29->(1610612736:Nat).testBit j=false:=by decide
     exact this i hi
    have:=qH (λq=>q.testBit i) hr;simp only[jA,m,Bool.and_false]at this;simp[←this]
   .simp[hi]
  omega
 .rintro(((rfl|rfl)|rfl)|rfl)<;>decide
theorem sk_(x:Int)(j:x<=9223372036854775807):eB_ x=some (aD_ x):=by
 unfold eB_ aD_;by_cases m:0<=x
 .obtain⟨n,rfl⟩:∃n:Nat,x=(n:Int):=⟨x.toNat,by omega⟩;have h:decide ((n:Int)<0)=false:=by simp
  have f:decide (0<=(n:Int))=true:=by simp
  rw[h,f,andNot_511 (by omega),sub_two (by omega)];refine ab_ rfl (qH some ?_);unfold topI;rw[qK];simp only[qP,qG,zY];omega
 .have h:decide (x<0)=true:=by simp;omega
  have f:decide (0<=x)=false:=by simp;omega
  rw[h,f];rfl
def bV_(m:Int):Int×Int:=if 0<=m/\m<128 then(match ea_ m with|some r=>r|none=>(0,12))else(0,12)
theorem vp_:((List.range 128).all λn=>(ea_ (n:Int)==gw_ (n:Int))&&(ea_ (n:Int)).isSome)=true:=by kernel_rfl
theorem cr_(m:Int)(hm:I64 m):ea_ m=some (bV_ m):=by
 unfold bV_;by_cases h:0<=m/\m<128
 .rw[qV h];obtain⟨n,rfl⟩:∃n:Nat,m=(n:Int):=⟨m.toNat,by omega⟩;have:=qf.1 vp_ n (List.mem_range.2 (by omega));rw[qAn]at this;cases G:ea_ (n:Int)with
  | none=>rw[G]at this;cases this.2
  | some r=>rfl
 .rw [qX h];unfold ea_;have u:=pl_ m 4 (by omega) hm.2;have C:∀q:Int,q<=9223372036854775807->jB_ q 64=some (al_ q 6):=λq F=>pl_ q 6 (by omega) F
  simp only[Nat.reducePow,jL]at u;have D:m<0\/128<=m:=by omega
  rw[u];refine aa_ (a:=if al_ m 4 then m-16 else m) ?_ ?_
  .refine aa_ rfl ?_;cases j:al_ m 4 with
   | false=>rfl
   | true =>
    have:0<=m:=by
     rcases Int.lt_or_le m 0 with f|f
     .rw[jD_ f]at j;cases j
     .exact f
    rw[qn,aq_ ⟨by omega,by omega⟩];rfl
  .generalize x:(if al_ m 4 then m-16 else m)=o;have M:o<0\/112<=o:=by
    subst x;cases j:al_ m 4 with
    | false=>simp;omega
    | true =>
     have:0<=m:=by
      rcases Int.lt_or_le m 0 with f|f
      .rw[jD_ f]at j;cases j
      .exact f
     simp;omega
   have J:o<=m:=by subst x;split<;>omega
   rw[C m hm.2];have s:al_ m 6=true->0<=m:=λj=>by
    rcases Int.lt_or_le m 0 with f|f
    .rw[jD_ f]at j;cases j
    .exact f
   have p:0<=m->112<=o:=λy=>by
    subst x;cases al_ m 4<;>simp<;>omega
   have O:m<0->o<0:=λy=>by
    subst x;rw[jD_ y];simpa using y
   refine aa_ (a:=if al_ m 6 then o-64 else o) ?_ ?_
   .refine aa_ rfl ?_;cases j:al_ m 6 with
    | false=>rfl
    | true =>
     have f:=p (s j);have U:=hm.2;rw[qn,aq_ ⟨by omega,by omega⟩];rfl
   .refine af_ ?_ rfl;rw[qP,qDe,qDe];cases j:al_ m 6 with
    | false=>simp;omega
    | true =>
     have f:=p (s j);simp;omega
theorem sub_bit{x k:Nat}(h:x.testBit k=true)(j:Nat):(x-2^k).testBit j=(x.testBit j && !(j==k)):=by
 have s:x=2^(k+1)*(x/2^(k+1))+(2^k+x%2^k):=by
  have y:=ja x (2^(k+1));have u:x%2^(k+1)=2^k+x%2^k:=by
   rw[Nat.testBit_eq_decide_div_mod_eq,qDe]at h;rw[Nat.pow_succ,Nat.mod_mul,h,Nat.mul_one,Nat.add_comm]
  omega
 have hr:x%2^k<2^k:=jc _ (Nat.two_pow_pos k);have p:2^(k+1)=2^k+2^k:=by rw[Nat.pow_succ];omega
 have q:x-2^k=2^(k+1)*(x/2^(k+1))+x%2^k:=by
  rw (occs := .pos [1]) [s];omega
 rw[q,Nat.testBit_two_pow_mul_add _ (by omega)];by_cases m:j<k+1
 .rw[qV m,Nat.testBit_mod_two_pow];by_cases f:j=k
  .subst f;simp
  .have:j<k:=by omega
   simp[this,f]
 .rw[qX m,jC,show j-(k+1)+(k+1)=j by omega];have:(j==k)=false:=by rw[qz];omega
  simp[this]
def inhB(d m j:Nat):Bool:=m.testBit j&&(!(d.testBit j)&&(m.testBit 31 || !((j==0)||(j==3)||(j==6))))
theorem inherit_ref(d m:Nat)(hd:d<2^63)(hm:m<2^63):∃r:Nat,et_ (d:Int) (m:Int)=some (r:Int)/\r<=m/\∀j,r.testBit j=(m.testBit j && !(decide (j<9)&&inhB d m j)):=by
 unfold et_
 have key:∀(n k out:Nat),k+n=9->out<=m->(∀j,out.testBit j=(m.testBit j && !(decide (j<k)&&inhB d m j))) ->
   ∃r:Nat,am_ (gx_ (m:Int) (d:Int)) (n+1) ((out:Int),((2^k:Nat):Int))=some (r:Int)/\r<=m/\∀j,r.testBit j=(m.testBit j && !(decide (j<9)&&inhB d m j)):=by
  intro n
  induction n with
  | zero =>
   intro k out U J x;obtain rfl:k=9:=by omega
   exact⟨out,aS_ (by unfold gx_;rfl),J,x⟩
  | succ n C =>
   intro k out U J x;have Z:2^k<=256:=by
    have:2^k<=2^8:=zI (by omega) (by omega);omega
   have M:=Nat.two_pow_pos k;have Y:w64 (2*((2^k:Nat):Int))=((2^(k+1):Nat):Int):=by
    rw[Nat.pow_succ];rw[aq_ ⟨by omega,by omega⟩];omega
   have y:=kK_ (m:Int) 31 (by omega) (by omega);simp only[Nat.reducePow,jL]at y;have D:((((2^k:Nat):Int)==1)||(((2^k:Nat):Int)==8)||(((2^k:Nat):Int)==64))=((k==0)||(k==3)||(k==6)):=by
    match k,(show k<9 by omega)with
    | 0,_=>rfl
    | 1,_=>rfl
    | 2,_=>rfl
    | 3,_=>rfl
    | 4,_=>rfl
    | 5,_=>rfl
    | 6,_=>rfl
    | 7,_=>rfl
    | 8,_=>rfl
   obtain⟨r,G,F⟩:=C (k+1) (if inhB d m k then out-2^k else out) (by omega) (by split<;>omega) (λj=>by
    cases hi:inhB d m k with
    | false =>
     simp only[qu,jJ];rw[x j];by_cases p:j=k
     .subst p;simp[hi]
     .have:decide (j<k+1)=decide (j<k):=by rw[qK,qDe,qDe];omega
      rw[this]
    | true =>
     simp only[jB];have u:m.testBit k=true:=by unfold inhB at hi;simp only[qAn]at hi;exact hi.1
     have q:out.testBit k=true:=by rw[x k,u];simp
     rw[sub_bit q j,x j];by_cases p:j=k
     .subst p;simp[hi]
     .have:decide (j<k+1)=decide (j<k):=by rw[qK,qDe,qDe];omega
      rw[this];have:(j==k)=false:=by simpa using p
      rw[this];simp)
   refine⟨r,bh_ ?_ G,F⟩;unfold gx_;simp only;refine af_ (by rw[qDe];omega) ?_;rw[Y,kK_ (m:Int) k (by omega) (by omega),kK_ (d:Int) k (by omega) (by omega),y,D];simp only[hR_];refine aa_ (a:=((if inhB d m k then out-2^k else out:Nat):Int)) ?_ rfl;have f:inhB d m k=true->w64 ((out:Int)-((2^k:Nat):Int))=((out-2^k:Nat):Int):=λhi=>by
    have u:m.testBit k=true:=by unfold inhB at hi;simp only[qAn]at hi;exact hi.1
    have q:out.testBit k=true:=by rw[x k,u];simp
    have O:2^k<=out:=Nat.ge_two_pow_of_testBit q;rw[aq_ ⟨by omega,by omega⟩];omega
   revert f;unfold inhB;cases m.testBit k<;>cases d.testBit k<;>cases m.testBit 31<;>cases((k==0)||(k==3)||(k==6))<;>intro f<;>first|rfl|exact qH some (f rfl)
 have V:BIG=18446744073709551606+(9+1):=rfl;have big:∀{σ β:Type} {body:σ->Option (Step σ β)} {n k:Nat} {s:σ} {b:β},am_ body n s=some b->am_ body (k+n) s=some b:=by
  intro σ β body n
  induction n with
  | zero=>intro k s b h;cases h
  | succ n C =>
   intro k s b h;rw[show k+(n+1)=(k+n)+1 by omega];simp only[am_]at h ⊢;split at h
   .exact h
   .exact C h
   .exact h
 obtain⟨r,G,F⟩:=key 9 0 m rfl (qA _) (λj=>by simp);refine⟨r,ab_ (by simp) (aa_ (a:=(r:Int)) ?_ rfl),F⟩;rw[V];exact big G
theorem oe_{a b:Nat}(f:a<2^63)(m:b<2^63):∃r:Nat,dc_ .i64 (a:Int) (b:Int)=(r:Int)/\r<2^63/\r<=a/\∀j,r.testBit j=(a.testBit j && !(b.testBit j)):=by
 refine⟨_,pj_ f m,Nat.lt_of_le_of_lt Nat.and_le_left f,Nat.and_le_left,λj => ?_⟩;rw[jA,show 2^64-1-b=2^64-(b+1)by omega,Nat.testBit_two_pow_sub_succ (by omega)];by_cases h:j<64
 .simp[h]
 .have:a.testBit j=false:=zr (zJ f (zI (by omega) (by omega)));simp[this]
theorem bits511(j:Nat):(511:Nat).testBit j=decide (j<9):=by
 by_cases h:j<9
 .have:∀j,j<9->(511:Nat).testBit j=true:=by decide
  simp[h,this j h]
 .have:(511:Nat).testBit j=false:=zr (zJ (by omega:511<2^9) (zI (by omega) (by omega)));simp[h,this]
theorem bits438(j:Nat):(438:Nat).testBit j=(decide (j<9) && !((j==0)||(j==3)||(j==6))):=by
 by_cases h:j<9
 .have:∀j,j<9->(438:Nat).testBit j = !((j==0)||(j==3)||(j==6)):=by decide
  simp[h,this j h]
 .have:(438:Nat).testBit j=false:=zr (zJ (by omega:438<2^9) (zI (by omega) (by omega)));simp[h,this]
theorem inherit_kind(d m:Int)(Y:0<=d/\d<=9223372036854775807)(hm:0<=m/\m<=9223372036854775807):∃q r,fV_ d m=some q/\et_ d m=some r/\orI .i64 (dc_ .i64 m 511) (bF_ .i64 q 511)=r/\0<=r/\r<=m/\(aD_ m=true->aD_ r=true):=by
 obtain⟨d,rfl⟩:∃n:Nat,d=(n:Int):=⟨d.toNat,by omega⟩;obtain⟨m,rfl⟩:∃n:Nat,m=(n:Int):=⟨m.toNat,by omega⟩;obtain⟨r,U,Z,F⟩:=inherit_ref d m (by omega) (by omega);have u:m<2^63:=by omega
 have h:∃k:Nat,(k=511/\m.testBit 31=true\/k=438/\m.testBit 31=false)/\fV_ (d:Int) (m:Int)=some (dc_ .i64 (m:Int) (dc_ .i64 (k:Int) (d:Int))):=by
  have f:=pl_ (m:Int) 31 (by omega) (by omega);simp only[Nat.reducePow,jL]at f;unfold fV_;cases p:m.testBit 31 with
  | true =>
   refine⟨511,.inl ⟨rfl,rfl⟩,ab_ (by simp) ?_⟩;refine aa_ (a:=511) (aa_ f ?_) rfl;rw[hR_,p];rfl
  | false =>
   refine⟨438,.inr ⟨rfl,rfl⟩,ab_ (by simp) ?_⟩;refine aa_ (a:=438) (aa_ f ?_) rfl;rw[hR_,p];rfl
 obtain⟨k,D,O⟩:=h;have x:k<2^63:=by rcases D with⟨rfl,_⟩|⟨rfl,_⟩<;>omega
 obtain⟨a,V,a2,_,a3⟩:=oe_ (a:=k) (b:=d) x (by omega);obtain⟨q,M,y,_,J⟩:=oe_ (a:=m) (b:=a) u a2;obtain⟨t,G,t2,_,t3⟩:=oe_ (a:=m) (b:=511) u (by omega);have hr:t|||(q&&&511)=r:=by
  apply jK;intro j;rw[Nat.testBit_or,jA,t3,J,a3,F,bits511];unfold inhB;rcases D with⟨rfl,p⟩|⟨rfl,p⟩
  .rw[bits511,p];cases m.testBit j<;>cases d.testBit j<;>cases decide (j<9)<;>rfl
  .rw[bits438,p];cases m.testBit j<;>cases d.testBit j<;>cases decide (j<9)<;>cases((j==0)||(j==3)||(j==6))<;>rfl
 refine⟨_,_,by rw[O,V,M],U,?_,by omega,by omega,λs => ?_⟩
 .rw[show(511:Int)=((511:Nat):Int)from rfl,G,li_ y (by omega),orI_i64 t2 (Nat.lt_of_le_of_lt Nat.and_le_left y),hr]
 .have C:r/512=m/512:=by
   apply jK;intro j;rw[show(512:Nat)=2^9 from rfl,jC,jC,F];have:decide (j+9<9)=false:=by simp
   rw[this];simp
  unfold aD_ topI at s ⊢;simp only[qAn,qP,qDe,qG]at s ⊢;omega
def nr_(l:List Xe)(name:Str):Xe×Bool:=match l.find? λq=>q.Yr==name with|some u=>(u,true)|none=>(Xe.mk [] 0 0,false)
theorem vq_(l:List Xe)(name:Str):nr_ l name=(bk_ (λ_ q=>if q.Yr==name then some (q,true)else none) 0 l).getD (Xe.mk [] 0 0,false):=by
 rw[jW_];unfold nr_;cases l.find? λq=>q.Yr==name<;>rfl
theorem yk_(l:List Xe)(name:Str)(h:l.length<=1000):qM_ l name=some (nr_ l name):=by
 rw[vq_];refine bT_ (bG_ l _ (bz_ (by omega)) (λi hi => ?_) ?_) (λ_=>rfl) rfl
 .unfold mD_;rw[au_ hi,bm_ hi,aw_ (by omega)];simp only[qn,qBs];cases l[i].Yr==name<;>rfl
 .unfold mD_;rw[bC_];rfl
theorem yl_(l:List Xe)(name:Str)(h:l.length<=1000):qO_ l name=some (nr_ l name):=by
 rw[vq_];refine bT_ (bG_ l _ (bz_ (by omega)) (λi hi => ?_) ?_) (λ_=>rfl) rfl
 .unfold mH_;rw[au_ hi,bm_ hi,aw_ (by omega)];simp only[qn,qBs];cases l[i].Yr==name<;>rfl
 .unfold mH_;rw[bC_];rfl
def usedN(l:List Xq)(name:Str):Int×Int:=bH_ (λ(s:Int×Int) _ (n:Xq)=>if n.Yg==name then(w64 (s.1+1),w64 (s.2+(n.Xd.length:Int)))else s) (0,0) 0 l
theorem ym_(t:Xk)(name:Str)(h:t.Xz.length<=2000):nb_ t name=some (usedN t.Xz name):=by
 unfold nb_;refine aa_ (a:=usedN t.Xz name) ?_ rfl;refine d4_ (τ:=Int×Int×Int) t.Xz _ (λi s=>(s.1,s.2,(i:Int))) (λ_ _=>True) (λs=>(s.1,s.2)) (0,0) (bz_ (by omega)) trivial (λi s hi _=>⟨?_,trivial⟩) (λs _ => ?_)
 .unfold mE_;simp only;rw[bm_ hi,au_ hi,aw_ (by omega)];refine af_ rfl ?_;simp only[qBs];cases t.Xz[i].Yg==name<;>rfl
 .unfold mE_;simp only;rw[bC_];rfl
theorem yn_(t:Xk)(name:Str)(h:t.Xz.length<=2000):nj_ t name=some (usedN t.Xz name):=by
 unfold nj_;refine aa_ (a:=usedN t.Xz name) ?_ rfl;refine d4_ (τ:=Int×Int×Int) t.Xz _ (λi s=>(s.1,s.2,(i:Int))) (λ_ _=>True) (λs=>(s.1,s.2)) (0,0) (bz_ (by omega)) trivial (λi s hi _=>⟨?_,trivial⟩) (λs _ => ?_)
 .unfold mI_;simp only;rw[bm_ hi,au_ hi,aw_ (by omega)];refine af_ rfl ?_;simp only[qBs];cases t.Xz[i].Yg==name<;>rfl
 .unfold mI_;simp only;rw[bC_];rfl
def l4_(l:List Xe)(t:Xk)(name:Str)(files bytes:Int):Bool:=if !(nr_ l name).2 then true else((decide (files<=0)||decide (files<=w64 ((nr_ l name).1.Xf-(usedN t.Xz name).1)))&&(decide (bytes<=0)||decide (bytes<=w64 ((nr_ l name).1.Zq-(usedN t.Xz name).2))))
theorem rl_(l:List Xe)(t:Xk)(name:Str)(files bytes:Int)(h:l.length<=1000)(f:t.Xz.length<=2000):kl_ l t name files bytes=some (l4_ l t name files bytes):=by
 unfold kl_ l4_;refine aa_ (yk_ l name h) ?_;cases(nr_ l name).2 with
 | false=>rfl
 | true=>exact ab_ rfl (aa_ (ym_ t name f) rfl)
theorem rm_(l:List Xe)(t:Xk)(name:Str)(files bytes:Int)(h:l.length<=1000)(f:t.Xz.length<=2000):kv_ l t name files bytes=some (l4_ l t name files bytes):=by
 unfold kv_ l4_;refine aa_ (yl_ l name h) ?_;cases(nr_ l name).2 with
 | false=>rfl
 | true=>exact ab_ rfl (aa_ (yn_ t name f) rfl)
def posI(l:List Int)(x:Int):Nat:=l.countP λy=>decide (y<x)
theorem cut_of{l:List Int}{x:Int}{p:Nat}(D:p<=l.length)(s:∀k y,k<p->l[k]? = some y->y<x)(q:∀k y,p<=k->l[k]? = some y->x<=y):posI l x=p/\l.take p=l.filter (λy=>decide (y<x))/\l.drop p=l.filter (λy=>decide (x<=y)):=by
 have h:∀y∈l.take p,y<x:=λy f=>by
  rw[List.mem_take_iff_getElem]at f;obtain⟨k,j,rfl⟩:=f;exact s k _ (by omega) (qQ (by omega))
 have m:∀y∈l.drop p,x<=y:=λy f=>by
  obtain⟨k,j⟩:=qO.1 f;rw[zA]at j;exact q (p+k) _ (by omega) j
 have e:l=l.take p++l.drop p:=(zl p l).symm;refine⟨?_,?_,?_⟩
 .unfold posI;rw[e,List.countP_append,List.countP_eq_length.2 (λy f=>by simpa using h y f),List.countP_eq_zero.2 (λy f=>by have:=m y f;simp;omega),qb];omega
 .rw (occs := .pos [2]) [e];rw[List.filter_append,jT.2 (λy f=>by simpa using h y f),jG.2 (λy f=>by have:=m y f;simp;omega),zj]
 .rw (occs := .pos [2]) [e];have C:(l.take p).filter (λy=>decide (x<=y))=[]:=jG.2 (λy f=>by have:=h y f;simp;omega);have u:(l.drop p).filter (λy=>decide (x<=y))=l.drop p:=jT.2 (λy f=>by simpa using m y f);rw[List.filter_append,C,u,zG]
theorem q0_{l:List Int}(f:cP_ l){i j:Nat}{x y:Int}(hi:l[i]? = some x)(m:l[j]? = some y)(h:i<j):x<y:=by
 obtain⟨q,rfl⟩:=qZ.1 hi;obtain⟨p,rfl⟩:=qZ.1 m;exact zK.1 f i j q p h
theorem search_loop(l:List Int)(x:Int)(Y:cP_ l)(hl:l.length<=1000):∃p:Nat,am_ (bl_ l x) BIG (0,(l.length:Int))=some (p:Int)/\p<=l.length/\(∀k y,k<p->l[k]? = some y->y<x)/\∀k y,p<=k->l[k]? = some y->x<=y:=by
 have key:∀(n i j:Nat),j-i<=n->i<=j->j<=l.length->(∀k y,k<i->l[k]? = some y->y<x)->(∀k y,j<=k->l[k]? = some y->x<=y) ->
   ∃p:Nat,am_ (bl_ l x) (n+1) ((i:Int),(j:Int))=some (p:Int)/\p<=l.length/\(∀k y,k<p->l[k]? = some y->y<x)/\∀k y,p<=k->l[k]? = some y->x<=y:=by
  intro n
  induction n with
  | zero =>
   intro i j Z U J O M;obtain rfl:i=j:=by omega
   exact⟨i,aS_ (by unfold bl_;exact ab_ (by simp) rfl),J,O,M⟩
  | succ n F =>
   intro i j Z U J O M;by_cases D:i<j
   .have q:w64 ((IntKind.u64.wrap (w64 ((i:Int)+(j:Int)))).fdiv (2^1))=(((i+j)/2:Nat):Int):=by
     rw[aq_ (n:=(i:Int)+(j:Int)) ⟨by omega,by omega⟩,wu64,Int.emod_eq_of_lt (by omega) (by omega),Int.fdiv_eq_ediv_of_nonneg _ (by omega),aq_ ⟨by omega,by omega⟩];omega
    have hm:(i+j)/2<l.length:=by omega
    have f:cmp_Less_int l[(i+j)/2] x=some (decide (l[(i+j)/2]<x)):=by
     unfold cmp_Less_int cmp_isNaN_int;simp
    by_cases V:l[(i+j)/2]<x
    .obtain⟨p,C,u⟩:=F ((i+j)/2+1) j (by omega) (by omega) J (λk y G m=>by
      rcases qN k ((i+j)/2)with h|h
      .have:=q0_ Y m (qQ hm) h;omega
      .obtain rfl:k=(i+j)/2:=by omega
       rw[qQ hm]at m;obtain rfl:=qSj m;exact V) M
     refine⟨p,bh_ ?_ C,u⟩;unfold bl_;simp only;rw[q,au_ hm,aw_ (by omega)];refine af_ (by simpa using D) (aa_ rfl (aa_ f ?_));rw[show decide (l[(i+j)/2]<x)=true by simpa using V];rfl
    .obtain⟨p,C,u⟩:=F i ((i+j)/2) (by omega) (by omega) (by omega) O (λk y G m=>by
      rcases qN ((i+j)/2) k with h|h
      .have:=q0_ Y (qQ hm) m h;omega
      .obtain rfl:k=(i+j)/2:=by omega
       rw[qQ hm]at m;obtain rfl:=qSj m;omega)
     refine⟨p,bh_ ?_ C,u⟩;unfold bl_;simp only;rw[q,au_ hm];refine af_ (by simpa using D) (aa_ rfl (aa_ f ?_));rw[show decide (l[(i+j)/2]<x)=false by simpa using V];rfl
   .obtain rfl:i=j:=by omega
    exact⟨i,aS_ (by unfold bl_;exact ab_ (by simp) rfl),J,O,M⟩
 have big:∀{σ β:Type} {body:σ->Option (Step σ β)} {n k:Nat} {s:σ} {b:β},am_ body n s=some b->am_ body (k+n) s=some b:=by
  intro σ β body n
  induction n with
  | zero=>intro k s b h;cases h
  | succ n F =>
   intro k s b h;rw[show k+(n+1)=(k+n)+1 by omega];simp only[am_]at h ⊢;split at h
   .exact h
   .exact F h
   .exact h
 obtain⟨p,C,u⟩:=key 1000 0 l.length (by omega) (by omega) (qA _) (λk y G=>by omega) (λk y G m=>by rw[qa G]at m;cases m);exact⟨p,by rw[show BIG=18446744073709550615+(1000+1)from rfl];exact big C,u⟩
theorem search_eq(l:List Int)(x:Int)(s:cP_ l)(U:l.length<=1000):cp_ l x=some ((posI l x:Int),decide (x∈l))/\posI l x<=l.length/\l.take (posI l x)=l.filter (λy=>decide (y<x))/\l.drop (posI l x)=l.filter (λy=>decide (x<=y))/\(x∈l->l[posI l x]? = some x):=by
 obtain⟨p,O,D,C,u⟩:=search_loop l x s U;obtain⟨e,Y,V⟩:=cut_of D C u;have j:x∈l->l[p]? = some x:=λq=>by
  obtain⟨k,m⟩:=qO.1 q;rcases Nat.lt_trichotomy k p with h|h|h
  .have:=C k x h m;omega
  .subst h;exact m
  .have f:p<l.length:=by have:=(qZ.1 m).1;omega
   have h5:=q0_ s (qQ f) m h;have Z:=u p _ (qA _) (qQ f);omega
 rw[e];refine⟨?_,D,Y,V,j⟩;unfold cp_;refine aa_ O ?_;by_cases f:p<l.length
 .rw[bm_ f,au_ f];have nan:c7_ l[p]=some false:=by unfold c7_;simp
  rw[show(Option.bind (some l[p]) λM=>Option.bind (c7_ M) λJ=>Option.bind (bif J then Option.bind (c7_ x) λG=>some G else some false) λF=>some F)=some false by simp[nan]];have:(l[p]==x)=decide (x∈l):=by
   rw[qK,qG,qDe];constructor
   .intro h;rw[←h];exact qr f
   .intro h;have:=j h;rw[qQ f]at this;exact qSj this
  simp only[qBs,qn];rw[this];cases decide (x∈l)<;>rfl
 .have:decide ((p:Int)<(l.length:Int))=false:=by simp;omega
  rw[this];have q:decide (x∈l)=false:=by
   rw[qDf];intro h;have:=(qZ.1 (j h)).1;omega
  rw[q];rfl
def e0_(l:List Int)(x:Int):List Int:=l.filter (λy=>decide (y<x))++x::l.filter (λy=>decide (x<y))
def cQ_(l:List Int)(x:Int):List Int:=l.filter λy=>y != x
theorem drop_ge{l:List Int}{x:Int}(h:x∉l):l.filter (λy=>decide (x<=y))=l.filter (λy=>decide (x<y)):=by
 apply List.filter_congr;intro y f;have:y≠x:=λe=>h (e▸f)
 rw[qK,qDe,qDe];omega
theorem drop_ge'{l:List Int}{x:Int}(s:cP_ l)(f:x∈l):l.filter (λy=>decide (x<=y))=x::l.filter (λy=>decide (x<y)):=by
 induction l with
 | nil=>cases f
 | cons a l p =>
  obtain⟨m,C⟩:=zN.1 s;rw[zZ,zZ];rcases qW.1 f with rfl|f
  .have j:decide (x<=x)=true:=by simp
   have h:decide (x<x)=false:=by simp
   rw[j,h];simp only[jB,qu,jJ]
   congr 1
   apply List.filter_congr;intro y q;have:=m y q;rw[qK,qDe,qDe];omega
  .have u:=m x f;have j:decide (x<=a)=false:=by simp;omega
   have h:decide (x<a)=false:=by simp;omega
   rw[j,h];simp only[qu,jJ];exact p C f
theorem putX_mem{l:List Int}{x:Int}(p:cP_ l)(f:x∈l):e0_ l x=l:=by
 unfold e0_;rw[←drop_ge' p f]
 induction l with
 | nil=>rfl
 | cons a l u =>
  obtain⟨s,D⟩:=zN.1 p;rw[zZ,zZ];by_cases q:a<x
  .have m:decide (x<=a)=false:=by simp;omega
   rw[qV (by simpa using q),m];simp only[qu,jJ,qR];rcases qW.1 f with rfl|f
   .omega
   .rw[u D f]
  .have m:decide (x<=a)=true:=by simp;omega
   rw[qX (by simpa using q),m];have C:l.filter (λy=>decide (y<x))=[]:=by
    rw[jG];intro y h;have:=s y h;simp;omega
   have j:l.filter (λy=>decide (x<=y))=l:=by
    rw[jT];intro y h;have:=s y h;simp;omega
   rw[C,j];simp
theorem outX_cut{l:List Int}{x:Int}(u:cP_ l):cQ_ l x=l.filter (λy=>decide (y<x))++l.filter (λy=>decide (x<y)):=by
 unfold cQ_
 induction l with
 | nil=>rfl
 | cons a l f =>
  obtain⟨D,j⟩:=zN.1 u;rw[zZ,zZ,zZ];rcases Int.lt_trichotomy a x with h|h|h
  .have q:(a != x)=true:=by rw[zM];omega
   have p:decide (a<x)=true:=by simpa using h
   have m:decide (x<a)=false:=by simp;omega
   rw[q,p,m];simp only[jB,qu,jJ,qR];rw[f j]
  .subst h;simp only[bne_self_eq_false,qu,jJ,Int.lt_irrefl,decide_false];exact f j
  .have q:(a != x)=true:=by rw[zM];omega
   have p:decide (a<x)=false:=by simp;omega
   have m:decide (x<a)=true:=by simpa using h
   rw[q,p,m];simp only[jB,qu,jJ];have C:l.filter (λy=>decide (y<x))=[]:=by
    rw[jG];intro y s;have:=D y s;simp;omega
   rw[f j,C];rfl
theorem tq_{l:List Int}{x:Int}(h:cP_ l):cP_ (e0_ l x):=by
 unfold cP_ e0_;refine List.pairwise_append.2 ⟨h.filter _,zN.2 ⟨λy j => ?_,h.filter _⟩,λa m b f => ?_⟩
 .simpa using(zS.1 j).2
 .have p:a<x:=by simpa using(zS.1 m).2
  rcases qW.1 f with rfl|f
  .exact p
  .have q:x<b:=by simpa using(zS.1 f).2
   omega
theorem l5_{l:List Int}{x:Int}(f:cP_ l):cP_ (cQ_ l x):=f.filter _
theorem mem_putX{l:List Int}{x y:Int}:y∈e0_ l x↔y=x\/y∈l/\y≠x:=by
 unfold e0_;rw[qY,qW,zS,zS,qDe,qDe];constructor
 .rintro(⟨f,j⟩|h|⟨f,j⟩)
  .exact .inr ⟨f,by omega⟩
  .exact .inl h
  .exact .inr ⟨f,by omega⟩
 .rintro(h|⟨f,j⟩)
  .exact .inr (.inl h)
  .rcases Int.lt_or_gt_of_ne j with h|h
   .exact .inl ⟨f,h⟩
   .exact .inr (.inr ⟨f,h⟩)
theorem mem_outX{l:List Int}{x y:Int}:y∈cQ_ l x↔y∈l/\y≠x:=by
 unfold cQ_;rw[zS,zM]
theorem putX_len(l:List Int)(x:Int):(e0_ l x).length<=l.length+1:=by
 unfold e0_;rw[qLa,qLc];have:(l.filter (λy=>decide (y<x))).length+(l.filter (λy=>decide (x<y))).length<=l.length:=by
  induction l with
  | nil=>simp
  | cons a l j =>
   rw[zZ,zZ];by_cases h:a<x
   .have f:¬x<a:=by omega
    simp only[h,f,decide_true,decide_false,jB,qu,jJ,qLc];omega
   .by_cases f:x<a
    .simp only[h,f,decide_true,decide_false,jB,qu,jJ,qLc];omega
    .simp only[h,f,decide_false,qu,jJ,qLc];omega
 omega
theorem of_(l:List Int)(x:Int):(cQ_ l x).length<=l.length:=ji _ _
theorem insN_one{xs:List Int}{p:Nat}{x:Int}(h:p<=xs.length)(f:xs.length<=1000):insN 8 xs (p:Int) [x]=some (xs.take p++x::xs.drop p):=by
 show(if 0<=(p:Int)/\(p:Int)<=(xs.length:Int)/\(xs.length+(0+1))*8<=140737488355328 then some (xs.take (p:Int).toNat++([x]++xs.drop (p:Int).toNat))else none)=_;rw[qV ⟨by omega,by omega,by omega⟩,qTn];rfl
theorem delN_one{α:Type}{xs:List α}{p:Nat}(h:p<xs.length):delN xs (p:Int) ((p+1:Nat):Int)=some (xs.take p++xs.drop (p+1)):=by
 cases xs with
 | nil=>simp at h
 | cons a l =>
  show(if 0<=(p:Int)/\(p:Int)<=((p+1:Nat):Int)/\((p+1:Nat):Int)<=((a::l).length:Int)then some ((a::l).take (p:Int).toNat++(a::l).drop ((p+1:Nat):Int).toNat)else none)=_;rw[qV ⟨by omega,by omega,by omega⟩,qTn,qTn]
def setX(s:Xj)(l:List Int):Xj:=Xj.mk s.Yz s.Yx s.Xg l
theorem lock_eq(s:Xj)(x:Int)(j:cP_ s.Xa)(h:s.Xa.length<=1000):hD_ s x=some (setX s (e0_ s.Xa x)):=by
 obtain⟨u,q,p,m,y⟩:=search_eq s.Xa x j h;unfold hD_ setX;refine aa_ (a:=(s.Yz,s.Yx,s.Xg.Xn,s.Xg.Xz,e0_ s.Xa x)) ?_ rfl;refine aa_ u ?_;by_cases f:x∈s.Xa
 .rw[show decide (x∈s.Xa)=true by simpa using f,putX_mem j f];rfl
 .rw[show decide (x∈s.Xa)=false by simpa using f];refine af_ rfl (aa_ (nq_ h) (aa_ (a:=e0_ s.Xa x) ?_ rfl));refine(insN_one q h).trans ?_;rw[p,m,drop_ge f];rfl
theorem sl_(s:Xj)(x:Int)(h:cP_ s.Xa)(m:s.Xa.length<=1000):eS_ s x=some (setX s (cQ_ s.Xa x)):=by
 obtain⟨D,F,C,u,q⟩:=search_eq s.Xa x h m;unfold eS_ setX;refine aa_ (a:=(s.Yz,s.Yx,s.Xg.Xn,s.Xg.Xz,cQ_ s.Xa x)) ?_ rfl;refine aa_ D ?_;by_cases f:x∈s.Xa
 .rw[show decide (x∈s.Xa)=true by simpa using f];have j:=(qZ.1 (q f)).1;refine af_ rfl (aa_ (nq_ m) (aa_ (a:=cQ_ s.Xa x) ?_ rfl));rw[aw_ (by omega)];refine(delN_one j).trans ?_;rw[outX_cut h,C]
  congr 2
  rw[←jV,u,drop_ge' h f];rfl
 .rw[show decide (x∈s.Xa)=false by simpa using f];have:cQ_ s.Xa x=s.Xa:=by
   unfold cQ_;rw[jT];intro y p;rw[zM];exact λe=>f (e▸p)
  rw[this];rfl
theorem yo_(l:List Int)(x:Int)(m:l.length<=1000):d2_ l x=some (decide (x∈l)):=by
 have h:ha_ l x=some (at_ (λy=>y==x) l):=by
  rw[←jX_];refine bT_ (bG_ l _ (bz_ (by omega)) (λi hi => ?_) ?_) (λ_=>rfl) rfl
  .unfold fD_;rw[au_ hi,bm_ hi,aw_ (by omega)];simp only[qn,qBs];have e:(x==l[i])=(l[i]==x):=by rw[qK,qG,qG];exact⟨Eq.symm,Eq.symm⟩
   rw[e];cases l[i]==x<;>rfl
  .unfold fD_;rw[bC_];rfl
 unfold d2_;refine aa_ h ?_;rw[at_any]
 congr 1
 rw[qK,zf,qDe];constructor
 .rintro⟨y,j,f⟩;rw[qG]at f;exact f▸j
 .intro h;exact⟨x,h,by simp⟩
def cs_(s:Str):Str:=bif decide ((s.length:Int)>64)then[]else s
theorem iX_{n:Xq}(h:aY_ n=true):0<=n.Xs/\n.Xs<=2147483647:=by
 unfold aY_ at h;simp only[qAn,qDe]at h;exact h.1.1.1.1.1.2
theorem okNode_dir{n:Xq}(h:aY_ n=true)(j:al_ n.Xv 31=true):n.Xd=[]:=by
 unfold aY_ at h;simp only[qAn,qP,j,qG]at h;rcases h.2 with f|f
 .cases f
 .exact f
theorem fd_(t:Xk)(h:t.Xz.length<=2000):aI_ t=some t:=by
 unfold aI_;refine aa_ (tW_ (by omega) (by omega) (by omega)) ?_;rw[qTn];have:mU_ (List.replicate t.Xz.length (Xq.mk 0 0 0 [] 0 [] [] [] 0 0 [])) t.Xz=t.Xz:=by
  unfold mU_;simp
 rw[this]
def aN_(l:List Xq)(n:Xq):List Xq:=l.map λm=>bif m.Id_==n.Id_ then n else m
theorem c9_(l:List Xq)(n:Xq):(aN_ l n).length=l.length:=by simp[aN_]
theorem q1_{l:List Xq}(s:l.Pairwise λa b=>a.Id_<b.Id_){i:Nat}{m n:Xq}(hi:l[i]? = some m)(C:n.Id_=m.Id_):l.set i n=aN_ l n:=by
 apply zL;intro j;unfold aN_;rw[zT,qm];have y:=(qZ.1 hi).1;by_cases f:i=j
 .subst f;rw[qV rfl,qV y,hi];simp[C]
 .rw[qX f];cases D:l[j]? with
  | none=>rfl
  | some x =>
   have u:(x.Id_==n.Id_)=false:=by
    rw[qz];intro e;obtain⟨p,rfl⟩:=qZ.1 D;obtain⟨q,rfl⟩:=qZ.1 hi;rw[zK]at s;rcases Nat.lt_trichotomy i j with h|h|h
    .have:=s i j q p h;omega
    .exact f h
    .have:=s j i p q h;omega
   simp[u]
def aU_(n:Xq)(uid:Str)(now:Int):Xq:=Xq.mk n.Id_ n.Xy ((w64 (n.Xs+1)).tmod 2147483648) n.Xh n.Xv n.Yg n.Yq (cs_ uid) n.Yj (av_ now) n.Xd
theorem ew_(s:Str):eH_ s=some (cs_ s):=by unfold eH_ cs_;cases decide ((s.length:Int)>64)<;>rfl
theorem io_(t:Xk)(i:Nat)(n:Xq)(uid:Str)(now:Int)(hi:t.Xz[i]? = some n)(m:t.Xz.Pairwise λa b=>a.Id_<b.Id_)(q:0<=n.Xs/\n.Xs<=2147483647):dl_ t (i:Int) uid now=some (Xk.mk t.Xn (aN_ t.Xz (aU_ n uid now))):=by
 have j:=(qZ.1 hi).1;have h:∀x:Xq,an_ (t.Xz.set i x) (i:Int)=some x:=λx=>by
  rw[bx_,zT,qV rfl,qV j]
 have f:w64 (n.Xs+1)=n.Xs+1:=aq_ ⟨by omega,by omega⟩;rw[←q1_ m hi (n:=aU_ n uid now) rfl];unfold dl_;rw[bx_,hi];refine aa_ rfl ?_;simp only[qTn];by_cases p:n.Xs=2147483647
 .have ec:decide (w64 (n.Xs+1)>2147483647)=true:=by rw[f,qDe];omega
  refine aa_ (af_ ec rfl) ?_;rw[List.set_set];refine aa_ (h _) (aa_ rfl (aa_ (ew_ uid) ?_));rw[List.set_set,List.set_set];have:(w64 (n.Xs+1)).tmod 2147483648=0:=by rw[f,p];rfl
  unfold aU_;rw[this];rfl
 .have ec:decide (w64 (n.Xs+1)>2147483647)=false:=by rw[f,qDf];omega
  refine aa_ (ab_ ec rfl) ?_;refine aa_ (h _) (aa_ rfl (aa_ (ew_ uid) ?_));rw[List.set_set,List.set_set];have:(w64 (n.Xs+1)).tmod 2147483648=w64 (n.Xs+1):=by
   rw[f,zh (by omega),Int.emod_eq_of_lt (by omega) (by omega)]
  unfold aU_;rw[this];rfl
def newN(t:Xk)(dir:Int)(name:Str)(mode:Int)(uid gid:Str)(now:Int):Xq:=Xq.mk t.Xn dir 0 name mode (cs_ uid) (cs_ gid) (cs_ uid) (av_ now) (av_ now) []
def f7_(t:Xk)(dir:Int)(name:Str)(mode:Int)(uid gid:Str)(now:Int):Xk×Int×Int:=bif !(ai_ t.Xz dir).2 then(t,0,8)else bif !(al_ (ai_ t.Xz dir).1.Xv 31)then(t,0,9)else bif !(bs_ name)then(t,0,6)else bif !(aD_ mode)then(t,0,1)else bif(t.Xz.find? (ch_ dir name)).isSome then(t,0,7)else bif decide ((t.Xz.length:Int)>=1024)||decide (t.Xn>1048575)then(t,0,22)else(Xk.mk (w64 (t.Xn+1)) (aN_ t.Xz (aU_ (ai_ t.Xz dir).1 uid now)++[newN t dir name mode uid gid now]),t.Xn,0)
theorem at_pos{α:Type}(p:α->Bool)(l:List α):decide (at_ p l>=0)=(l.find? p).isSome:=by
 have:=kH_ p l;have e:decide (at_ p l>=0) = !decide (at_ p l<0):=by rw[qK];simp
 rw[e,this];cases l.find? p<;>rfl
theorem wM_(t:Xk)(dir:Int)(name:Str)(mode:Int)(uid gid:Str)(now:Int)(h:OkT t.Xz t.Xn)(hm:mode<=9223372036854775807)(m:name.length<=9223372036854775807):lM_ t dir name mode uid gid now=some (f7_ t dir name mode uid gid now):=by
 have s:=h.len;have f:=fd_ t (by omega);unfold lM_ f7_;refine aa_ (sb_ t dir h) ?_;unfold nz_;cases j:(ai_ t.Xz dir).2 with
 | false=>exact aa_ f rfl
 | true =>
  cases u:al_ (ai_ t.Xz dir).1.Xv 31 with
  | false=>exact aa_ f rfl
  | true =>
   refine ab_ rfl (aa_ (im_ name m) ?_);cases bs_ name with
   | false=>exact aa_ f rfl
   | true =>
    refine ab_ rfl (aa_ (mK_ mode hm) ?_);cases aD_ mode with
    | false=>exact aa_ f rfl
    | true =>
     refine ab_ rfl (aa_ (t3_ t dir name (by omega)) ?_);rw[at_pos];cases(t.Xz.find? (ch_ dir name)).isSome with
     | true=>exact aa_ f rfl
     | false =>
      refine ab_ rfl ?_;cases decide ((t.Xz.length:Int)>=1024)||decide (t.Xn>1048575)with
      | true=>exact aa_ f rfl
      | false =>
       obtain⟨i,q,p,x⟩:=at_id j;refine ab_ rfl (aa_ f (aa_ (dE_ t dir (by omega)) ?_));rw[q];refine aa_ (io_ t i _ uid now p h.srt (iX_ (h.flds _ (aH_ j).1))) ?_;refine aa_ rfl (aa_ (ew_ uid) (aa_ (ew_ gid) (aa_ (ew_ uid) (aa_ (bj_ ?_ ?_) rfl))))
       .simp[c9_];omega
       .simp[c9_];omega
def eo_(t:Xk)(id:Int)(uid:Str)(now:Int):Xk×Int:=bif !(ai_ t.Xz id).2 then(t,8)else bif id==1 then(t,1)else bif decide (((aQ_ t.Xz id).length:Int)>0)then(t,23)else(Xk.mk t.Xn ((aN_ t.Xz (aU_ (ai_ t.Xz (ai_ t.Xz id).1.Xy).1 uid now)).filter λn=>n.Id_ != id),0)
theorem filter_cut{l:List Xq}(q:l.Pairwise λa b=>a.Id_<b.Id_){i:Nat}{m:Xq}(hi:l[i]? = some m):(l.filter λn=>n.Id_ != m.Id_)=l.take i++l.drop (i+1):=by
 induction l generalizing i with
 | nil=>simp at hi
 | cons x l p =>
  obtain⟨j,u⟩:=zN.1 q;rw[zZ];cases i with
  | zero =>
   simp at hi;subst hi;simp only[bne_self_eq_false,qu,jJ,List.take_zero,zG,List.drop_succ_cons,zm];rw[jT];intro n s;have:=j n s;rw[zM];omega
  | succ i =>
   have f:l[i]? = some m:=by simpa using hi
   have:=j m (qe f);have h:(x.Id_ != m.Id_)=true:=by rw[zM];omega
   rw[h,p u f];rfl
theorem gB_{l:List Xq}(j:l.Pairwise λa b=>a.Id_<b.Id_)(n:Xq):(aN_ l n).Pairwise λa b=>a.Id_<b.Id_:=by
 unfold aN_;rw[List.pairwise_map];refine j.imp fun{a b} f => ?_
 have ea:(bif a.Id_==n.Id_ then n else a).Id_=a.Id_:=by
  cases h:a.Id_==n.Id_ with
  | true=>exact(qG.1 h).symm
  | false=>rfl
 have eb:(bif b.Id_==n.Id_ then n else b).Id_=b.Id_:=by
  cases h:b.Id_==n.Id_ with
  | true=>exact(qG.1 h).symm
  | false=>rfl
 rw[ea,eb];exact f
theorem updN_get{l:List Xq}{n:Xq}{i:Nat}{m:Xq}(h:l[i]? = some m):∃f,(aN_ l n)[i]? = some f/\f.Id_=m.Id_:=by
 unfold aN_;rw[qm,h];refine⟨_,rfl,?_⟩;show(bif m.Id_==n.Id_ then n else m).Id_=m.Id_;cases h:m.Id_==n.Id_ with
 | true=>exact(qG.1 h).symm
 | false=>rfl
theorem wN_(t:Xk)(id:Int)(uid:Str)(now:Int)(h:OkT t.Xz t.Xn):lN_ t id uid now=some (eo_ t id uid now):=by
 have hl:=h.len;have x:=fd_ t (by omega);unfold lN_ eo_;refine aa_ (dE_ t id (by omega)) ?_;cases G:(ai_ t.Xz id).2 with
 | false =>
  rw[np_ G];exact aa_ x rfl
 | true =>
  obtain⟨i,e1,O,e3⟩:=at_id G;rw[e1];refine ab_ (by simp) ?_;cases Z:id==1 with
  | true=>exact aa_ x rfl
  | false =>
   refine ab_ rfl (aa_ (jF_ t id h) ?_);cases decide (((aQ_ t.Xz id).length:Int)>0)with
   | true=>exact aa_ x rfl
   | false =>
    obtain⟨hm,u⟩:=aH_ G;have D:(ai_ t.Xz id).1.Id_≠1:=by rw[u];simpa using Z
    obtain⟨p,C,y,Y,V⟩:=h.par _ hm D;have s:=cc_ h.srt C;rw[y]at s;have J:(ai_ t.Xz (ai_ t.Xz id).1.Xy).2=true:=by rw[s]
    obtain⟨j,f1,f2,f3⟩:=at_id J;refine ab_ rfl (aa_ x (aa_ (a:=(ai_ t.Xz id).1) (by rw[bx_,O]) (aa_ (dE_ t _ (by omega)) ?_)));rw[f1];refine aa_ (io_ t j _ uid now f2 h.srt (iX_ (h.flds _ (aH_ J).1))) ?_;generalize F:aN_ t.Xz (aU_ (ai_ t.Xz (ai_ t.Xz id).1.Xy).1 uid now)=U;have m:U.length=t.Xz.length:=by rw[←F,c9_]
    rw[aw_ (by omega)];refine aa_ (b5_ (by omega) (by omega) (by simp only[m];omega)) (aa_ (b5_ (by omega) (by simp only[m];omega) (by omega)) (aa_ (b5_ (by omega) (by omega) (by simp only[m];omega)) ?_));have q:U.Pairwise λa b=>a.Id_<b.Id_:=by rw[←F];exact gB_ h.srt _
    obtain⟨m',M,g2⟩:=updN_get (n:=aU_ (ai_ t.Xz (ai_ t.Xz id).1.Xy).1 uid now) O;rw[F]at M;have f:=filter_cut q M;rw[g2,u]at f;rw[f];simp only[qTn,Int.toNat_zero,zm];refine aa_ (bj_ ?_ ?_) rfl
    .simp;omega
    .simp;omega
def putD(n:Xq)(d:Str):Xq:=Xq.mk n.Id_ n.Xy n.Xs n.Xh n.Xv n.Yg n.Yq n.Ym n.Yj n.Xl d
def bQ_(n:Xq)(s:Str):Xq:=Xq.mk n.Id_ n.Xy n.Xs s n.Xv n.Yg n.Yq n.Ym n.Yj n.Xl n.Xd
theorem ns_{l:List Xq}{id:Int}(h:(e4_ l id != 0)=false):(ai_ l id).2=true/\al_ (ai_ l id).1.Xv 31=false:=by
 unfold e4_ at h;cases j:(ai_ l id).2<;>cases f:al_ (ai_ l id).1.Xv 31<;>rw[j,f]at h<;>first|exact⟨rfl,rfl⟩|(cases h)
def fitS(s:Str)(n:Nat):Str:=s.take n++List.replicate (n-s.length) 0
theorem lr_(s:Str)(n:Nat):(fitS s n).length=n:=by simp[fitS];omega
theorem tr_(s:Str)(n:Nat)(f:s.length<=65536)(j:n<=65536):n3_ s (n:Int)=some (fitS s n):=by
 unfold n3_ fitS;by_cases h:n<=s.length
 .refine af_ (by simpa using h) (aa_ (b5_ (by omega) (by omega) (by omega)) ?_);rw[qTn,Int.toNat_zero,zm,show n-s.length=0 by omega];simp
 .refine ab_ (by simp;omega) ?_;rw[aq_ ⟨by omega,by omega⟩,show(n:Int)-(s.length:Int)=((n-s.length:Nat):Int)by omega];have hr:strings_Repeat [0] ((n-s.length:Nat):Int)=some (List.replicate (n-s.length) 0):=by
   unfold strings_Repeat;rw[qV ⟨by omega,by omega,by rw[qTn,jh];omega⟩];simp
  refine aa_ hr (aa_ (bK_ (by simp;omega)) ?_);rw[qc (by omega)]
def cR_(t:Xk)(id size:Int)(uid:Str)(now:Int):Xk×Int:=bif e4_ t.Xz id != 0 then(t,e4_ t.Xz id)else bif decide (size<0)then(t,1)else bif decide (size>65536)then(t,4)else bif size==((ai_ t.Xz id).1.Xd.length:Int)then(t,0)else(Xk.mk t.Xn (aN_ t.Xz (aU_ (putD (ai_ t.Xz id).1 (fitS (ai_ t.Xz id).1.Xd size.toNat)) uid now)),0)
theorem upd_upd{l:List Xq}{a b:Xq}(h:a.Id_=b.Id_):aN_ (aN_ l a) b=aN_ l b:=by
 unfold aN_;rw[List.map_map]
 congr 1
 funext m
 show(bif(bif m.Id_==a.Id_ then a else m).Id_==b.Id_ then b else(bif m.Id_==a.Id_ then a else m))=_;cases hm:m.Id_==a.Id_ with
 | true =>
  have:=qG.1 hm;simp[h,this]
 | false=>rfl
theorem vr_{t:Xk}{k:Nat}{m n:Xq}(q:t.Xz[k]? = some m)(j:n.Id_=m.Id_)(p:t.Xz.Pairwise λa b=>a.Id_<b.Id_)(s:0<=n.Xs/\n.Xs<=2147483647)(uid:Str)(now:Int) :
  dl_ (Xk.mk t.Xn (t.Xz.set k n)) (k:Int) uid now=some (Xk.mk t.Xn (aN_ t.Xz (aU_ n uid now))):=by
 have h:=(qZ.1 q).1;have f:=q1_ p q j;rw[io_ (Xk.mk t.Xn (t.Xz.set k n)) k n uid now (by simp only;rw[zT,qV rfl,qV h]) (by simp only;rw[f];exact gB_ p n) s];simp only;rw[f,upd_upd (by rfl)]
theorem p0_(t:Xk)(id size:Int)(uid:Str)(now:Int)(h:OkT t.Xz t.Xn):iS_ t id size uid now=some (cR_ t id size uid now):=by
 have C:=h.len;have f:=fd_ t (by omega);obtain⟨i,y,x⟩:=sg_ t id h;unfold iS_ cR_;refine aa_ y ?_;cases s:e4_ t.Xz id != 0 with
 | true=>exact aa_ f rfl
 | false =>
  obtain⟨k,rfl,j⟩:=x s;have hm:=qe j;have u:=iW_ (h.flds _ hm);have q:=iX_ (h.flds _ hm);refine ab_ rfl ?_;by_cases m:size<0
  .rw[show decide (size<0)=true by simpa using m];exact aa_ f rfl
  .by_cases p:size>65536
   .rw[show decide (size<0)=false by simpa using m,show decide (size>65536)=true by simpa using p];exact aa_ f rfl
   .rw[show decide (size<0)=false by simpa using m,show decide (size>65536)=false by simpa using p];refine ab_ rfl (ab_ rfl (aa_ (a:=(ai_ t.Xz id).1) (by rw[bx_,j]) ?_));cases size==((ai_ t.Xz id).1.Xd.length:Int)with
    | true=>exact aa_ f rfl
    | false =>
     refine ab_ rfl (aa_ f (aa_ (a:=(ai_ t.Xz id).1) (by rw[bx_,j]) ?_));obtain⟨n,rfl⟩:∃n:Nat,size=(n:Int):=⟨size.toNat,by omega⟩;refine aa_ (tr_ _ n u (by omega)) (aa_ (a:=(ai_ t.Xz id).1) (by rw[bx_,j]) ?_);refine aa_ (vr_ j (n:=putD (ai_ t.Xz id).1 (fitS (ai_ t.Xz id).1.Xd n)) rfl h.srt q uid now) rfl
def wrS(old:Str)(o:Nat)(data:Str):Str:=fitS old o++data++old.drop (o+data.length)
def hT_(t:Xk)(id offset:Int)(data uid:Str)(now:Int):Xk×Int×Int :=
 bif e4_ t.Xz id != 0 then(t,0,e4_ t.Xz id)else bif decide (offset<0)then(t,0,1)else bif data==[]then(t,0,0)else
 let o:=bif al_ (ai_ t.Xz id).1.Xv 30 then((ai_ t.Xz id).1.Xd.length:Int)else offset
 bif decide (o+(data.length:Int)>65536)then(t,0,4)else
 (Xk.mk t.Xn (aN_ t.Xz (aU_ (putD (ai_ t.Xz id).1 (wrS (ai_ t.Xz id).1.Xd o.toNat data)) uid now)),(data.length:Int),0)
theorem drop_min(s:Str)(k:Nat):s.drop (min k s.length)=s.drop k:=by
 rcases qN k s.length with f|f
 .rw[zi (by omega)]
 .rw[jR f,jI f,jI (qA _)]
theorem yp_(t:Xk)(id offset:Int)(data uid:Str)(now:Int)(h:OkT t.Xz t.Xn)(V:offset<=9223372036854775807)(J:data.length<=9223372036854775807):nc_ t id offset data uid now=some (hT_ t id offset data uid now):=by
 have Y:=h.len;have q:=fd_ t (by omega);obtain⟨i,U,O⟩:=sg_ t id h;unfold nc_ hT_;refine aa_ U ?_;cases G:e4_ t.Xz id != 0 with
 | true=>exact aa_ q rfl
 | false =>
  obtain⟨k,rfl,m⟩:=O G;have hm:=qe m;have y:=iW_ (h.flds _ hm);have u:=iX_ (h.flds _ hm);have j:=h.hm hm;refine ab_ rfl ?_;by_cases D:offset<0
  .rw[show decide (offset<0)=true by simpa using D];exact aa_ q rfl
  .rw [show decide (offset<0)=false by simpa using D];refine ab_ rfl ?_;cases data==[]with
   | true=>exact aa_ q rfl
   | false =>
    refine ab_ rfl (aa_ (a:=(ai_ t.Xz id).1) (by rw[bx_,m]) ?_);have x:=tree_app_eq _ j;generalize hN:(ai_ t.Xz id).1=N at y u x m;generalize C:(bif al_ N.Xv 30 then(N.Xd.length:Int)else offset)=o;have F:0<=o/\o<=9223372036854775807:=by
     subst C;cases al_ N.Xv 30
     .simp;omega
     .simp;omega
    refine aa_ (a:=o) (aa_ (a:=N) (by rw[bx_,m]) (aa_ x ?_)) ?_
    .rw[←C];cases al_ N.Xv 30<;>rfl
    .simp only[qw];by_cases f:o+(data.length:Int)>65536
     .have s:decide (o+(data.length:Int)>65536)=true:=by simpa using f
      rw[s];refine af_ ?_ (aa_ q rfl);rw[qP,qDe,qDe];by_cases M:o>65536
      .exact .inl M
      .rw[aq_ ⟨by omega,by omega⟩];exact .inr (by omega)
     .have s:decide (o+(data.length:Int)>65536)=false:=by simpa using f
      rw[s];refine ab_ ?_ ?_
      .rw[aq_ ⟨by omega,by omega⟩];simp;omega
      .refine aa_ q ?_;obtain⟨p,rfl⟩:∃p:Nat,o=(p:Int):=⟨o.toNat,by omega⟩;refine aa_ (tr_ _ p y (by omega)) (aa_ (bK_ (by rw[lr_];omega)) ?_);rw[aq_ ⟨by omega,by omega⟩,show(p:Int)+(data.length:Int)=((p+data.length:Nat):Int)by omega,qZ_ _ _ (by omega),qTn];refine aa_ (b5_ (by omega) (by omega) (by omega)) ?_;rw[qTn,qTn,jm,drop_min];refine aa_ (bK_ (by simp[lr_];omega)) ?_;refine aa_ (a:=N) (by rw[bx_,m]) ?_;refine aa_ (vr_ m (n:=putD N (wrS N.Xd p data)) rfl h.srt u uid now) ?_;simp only[qTn,qw]
def eT_(t:Xk)(id:Int)(name uid:Str)(now:Int):Xk×Int:=bif !(ai_ t.Xz id).2 then(t,8)else bif id==1 then(t,1)else bif !(bs_ name)then(t,6)else bif(ai_ t.Xz id).1.Xh==name then(t,0)else bif(t.Xz.find? (ch_ (ai_ t.Xz id).1.Xy name)).isSome then(t,7)else(Xk.mk t.Xn (aN_ (aN_ t.Xz (bQ_ (ai_ t.Xz id).1 name)) (aU_ (ai_ (aN_ t.Xz (bQ_ (ai_ t.Xz id).1 name)) (ai_ t.Xz id).1.Xy).1 uid now)),0)
theorem mem_updN{l:List Xq}{n x:Xq}(f:x∈aN_ l n):∃m∈l,x.Id_=m.Id_/\(x=m/\m.Id_≠n.Id_\/x=n/\m.Id_=n.Id_):=by
 unfold aN_ at f;obtain⟨m,hm,rfl⟩:=zQ.1 f;refine⟨m,hm,?_⟩;cases h:m.Id_==n.Id_ with
 | true=>exact⟨(qG.1 h).symm,.inr ⟨rfl,qG.1 h⟩⟩
 | false=>exact⟨rfl,.inl ⟨rfl,by simpa using h⟩⟩
theorem og_{l:List Xq}{n m:Xq}(hm:m∈l):(bif m.Id_==n.Id_ then n else m)∈aN_ l n:=zQ.2 ⟨m,hm,rfl⟩
theorem childT_mem{l:List Xq}{dir:Int}:(decide (((aQ_ l dir).length:Int)>0))=l.any λn=>n.Xy==dir&&n.Id_ != 1:=by
 unfold aQ_;rw[qK,qDe,zf,zo];have:(((l.filter λn=>n.Xy==dir&&n.Id_ != 1).length:Nat):Int)>0↔0<(l.filter λn=>n.Xy==dir&&n.Id_ != 1).length:=by omega
 rw[this,List.length_pos_iff_exists_mem];exact⟨λ⟨n,f⟩=>⟨n,(zS.1 f).1,(zS.1 f).2⟩,λ⟨n,j,h⟩=>⟨n,zS.2 ⟨j,h⟩⟩⟩
theorem wO_ (t:Xk) (id:Int) (name uid:Str) (now:Int) (h:OkT t.Xz t.Xn) (Y:name.length<=9223372036854775807):lO_ t id name uid now=some (eT_ t id name uid now):=by
 have hl:=h.len;have s:=fd_ t (by omega);unfold lO_ eT_;refine aa_ (dE_ t id (by omega)) ?_;cases J:(ai_ t.Xz id).2 with
 | false =>
  rw[np_ J];exact aa_ s rfl
 | true =>
  obtain⟨i,e1,x,e3⟩:=at_id J;rw[e1];refine ab_ (by simp) ?_;cases h2:id==1 with
  | true=>exact aa_ s rfl
  | false =>
   refine ab_ rfl (aa_ (im_ name Y) ?_);cases h3:bs_ name with
   | false=>exact aa_ s rfl
   | true =>
    refine ab_ rfl (aa_ (a:=(ai_ t.Xz id).1) (by rw[bx_,x]) ?_);have e4:(name==(ai_ t.Xz id).1.Xh)=((ai_ t.Xz id).1.Xh==name):=by rw[qK,qG,qG];exact⟨Eq.symm,Eq.symm⟩
    rw[e4];cases(ai_ t.Xz id).1.Xh==name with
    | true=>exact aa_ s rfl
    | false =>
     refine ab_ rfl (aa_ (a:=(ai_ t.Xz id).1) (by rw[bx_,x]) (aa_ (t3_ t _ name (by omega)) ?_));rw[at_pos];cases(t.Xz.find? (ch_ (ai_ t.Xz id).1.Xy name)).isSome with
     | true=>exact aa_ s rfl
     | false =>
      obtain⟨hm,G⟩:=aH_ J;have F:(ai_ t.Xz id).1.Id_≠1:=by rw[G];simpa using h2
      obtain⟨p,u,D,U,O⟩:=h.par _ hm F;have q:=q1_ h.srt x (n:=bQ_ (ai_ t.Xz id).1 name) rfl;have m:=gB_ h.srt (bQ_ (ai_ t.Xz id).1 name);have C:p∈aN_ t.Xz (bQ_ (ai_ t.Xz id).1 name):=by
       have:=og_ (n:=bQ_ (ai_ t.Xz id).1 name) u;have Z:(p.Id_==(bQ_ (ai_ t.Xz id).1 name).Id_)=false:=by
        rw[qz];show p.Id_≠(ai_ t.Xz id).1.Id_;omega
       rw[Z]at this;exact this
      have f:=cc_ m C;rw[D]at f;have V:(ai_ (aN_ t.Xz (bQ_ (ai_ t.Xz id).1 name)) (ai_ t.Xz id).1.Xy).2=true:=by rw[f]
      obtain⟨j,f1,f2,f3⟩:=at_id V;refine ab_ rfl (aa_ s (aa_ (a:=(ai_ t.Xz id).1) (by rw[bx_,x]) ?_));simp only[qTn];rw[show t.Xz.set i (Xq.mk (ai_ t.Xz id).1.Id_ (ai_ t.Xz id).1.Xy (ai_ t.Xz id).1.Xs name (ai_ t.Xz id).1.Xv (ai_ t.Xz id).1.Yg (ai_ t.Xz id).1.Yq (ai_ t.Xz id).1.Ym (ai_ t.Xz id).1.Yj (ai_ t.Xz id).1.Xl (ai_ t.Xz id).1.Xd)=aN_ t.Xz (bQ_ (ai_ t.Xz id).1 name)from q];refine aa_ (a:=bQ_ (ai_ t.Xz id).1 name) (by rw[bx_,←q,zT,qV rfl,qV e3]) ?_;refine aa_ (dE_ _ _ (by rw[c9_];omega)) ?_;have y:0<=p.Xs/\p.Xs<=2147483647:=iX_ (h.flds _ u);have M:(aN_ t.Xz (bQ_ (ai_ t.Xz id).1 name))[j]? = some p:=by rw[f2,f]
      show Option.bind (dl_ (Xk.mk t.Xn (aN_ t.Xz (bQ_ (ai_ t.Xz id).1 name))) (at_ (eK_ (ai_ t.Xz id).1.Xy) (aN_ t.Xz (bQ_ (ai_ t.Xz id).1 name))) uid now) _=_;rw[f1];refine aa_ (io_ _ j p uid now M m y) ?_;rw[f];rfl
def e5_(n:Xq)(mode:Int)(gid:Str)(mtime:Int):Xq:=Xq.mk n.Id_ n.Xy n.Xs n.Xh (bif mode != -1 then mode else n.Xv) n.Yg (bif !(cs_ gid==[])then gid else n.Yq) n.Ym n.Yj (bif mtime != -1 then mtime else n.Xl) n.Xd
def hU_(t:Xk)(id mode:Int)(gid:Str)(mtime:Int):Xk×Int:=bif !(ai_ t.Xz id).2 then(t,8)else bif(mode != -1)&&(!(aD_ mode) || !(al_ mode 31==al_ (ai_ t.Xz id).1.Xv 31))then(t,1)else bif(mtime != -1)&&(decide (mtime<0)||decide (mtime>1099511627776))then(t,5)else(Xk.mk t.Xn (aN_ t.Xz (e5_ (ai_ t.Xz id).1 mode gid mtime)),0)
theorem short_or(gid:Str)(h:(cs_ gid==[])=false):cs_ gid=gid:=by
 unfold cs_ at h ⊢;cases f:decide ((gid.length:Int)>64)with
 | true=>rw[f]at h;cases h
 | false=>rfl
theorem yq_ (t:Xk) (id mode:Int) (gid:Str) (mtime:Int) (h:OkT t.Xz t.Xn) (s:mode<=9223372036854775807):ng_ t id mode gid mtime=some (hU_ t id mode gid mtime):=by
 have V:=h.len;have u:=fd_ t (by omega);unfold ng_ hU_;refine aa_ (dE_ t id (by omega)) ?_;cases G:(ai_ t.Xz id).2 with
 | false =>
  rw[np_ G];exact aa_ u rfl
 | true =>
  obtain⟨i,O,p,M⟩:=at_id G;rw[O];have F:=lm_ h id;generalize hN:(ai_ t.Xz id).1=N at p F;refine ab_ (by simp) (aa_ (a:=(mode != -1)&&(!(aD_ mode) || !(al_ mode 31==al_ N.Xv 31))) ?_ ?_)
  .cases mode != -1 with
   | false=>rfl
   | true =>
    refine af_ rfl (aa_ (mK_ mode s) ?_);cases aD_ mode with
    | false=>rfl
    | true =>
     refine aa_ (a := !(al_ mode 31==al_ N.Xv 31)) ?_ rfl;exact ab_ rfl (aa_ (eQ_ mode s) (aa_ (a:=N) (by rw[bx_,p]) (aa_ (eQ_ _ F) rfl)))
  .cases (mode != -1)&&(!(aD_ mode) || !(al_ mode 31==al_ N.Xv 31))with
   | true=>exact aa_ u rfl
   | false =>
    refine ab_ rfl (aa_ (a:=(mtime != -1)&&(decide (mtime<0)||decide (mtime>1099511627776))) ?_ ?_)
    .cases mtime != -1 with
     | false=>rfl
     | true=>refine af_ rfl (aa_ rfl ?_);exact qH some (clock_ne mtime)
    .cases(mtime != -1)&&(decide (mtime<0)||decide (mtime>1099511627776))with
     | true=>exact aa_ u rfl
     | false =>
      refine ab_ rfl (aa_ u (aa_ (a:=N) (by rw[bx_,p]) ?_));simp only[qTn];have f:∀(x:Xq) (q:List Xq),q.length=t.Xz.length->an_ (q.set i x) (i:Int)=some x:=λx q U=>by
       rw[bx_,zT,qV rfl,qV (by omega)]
      have m:t.Xz.set i N=t.Xz:=by
       apply zL;intro j;rw[zT];split
       .rename_i y;subst y;first|rw[qV M,p]|rw[p]
       .rfl
      let D:Xq:=Xq.mk N.Id_ N.Xy N.Xs N.Xh (bif mode != -1 then mode else N.Xv) N.Yg N.Yq N.Ym N.Yj N.Xl N.Xd
      let C:Xq:=Xq.mk N.Id_ N.Xy N.Xs N.Xh (bif mode != -1 then mode else N.Xv) N.Yg (bif !(cs_ gid==[])then gid else N.Yq) N.Ym N.Yj N.Xl N.Xd
      refine aa_ (a:=t.Xz.set i D) ?_ ?_
      .show(bif mode != -1 then _ else _)=some (t.Xz.set i {N with Xv:=(bif mode != -1 then mode else N.Xv)});cases mode != -1 with
       | true=>rfl
       | false=>exact qH some m.symm
      .refine aa_ (f D _ rfl) (aa_ (a:=t.Xz.set i C) (aa_ (ew_ gid) ?_) ?_)
       .show _=some (t.Xz.set i {N with Xv:=(bif mode != -1 then mode else N.Xv),Yq:=(bif !(cs_ gid==[])then gid else N.Yq)});cases J:cs_ gid==[]with
        | true=>rfl
        | false =>
         rw[short_or gid J];refine af_ rfl ?_;rw[List.set_set];rfl
       .refine aa_ (f C _ rfl) (aa_ (a:=t.Xz.set i (e5_ N mode gid mtime)) ?_ ?_)
        .show(bif mtime != -1 then _ else _)=some (t.Xz.set i {N with Xv:=(bif mode != -1 then mode else N.Xv),Yq:=(bif !(cs_ gid==[])then gid else N.Yq),Xl:=(bif mtime != -1 then mtime else N.Xl)});cases mtime != -1 with
         | true =>
          refine af_ rfl ?_;rw[List.set_set];rfl
         | false=>rfl
        .rw[q1_ h.srt p (n:=e5_ N mode gid mtime) rfl];rfl
theorem ip_(n:Xq):aY_ n=true↔aD_ n.Xv=true/\(0<=n.Xs/\n.Xs<=2147483647)/\(0<=n.Yj/\n.Yj<=1099511627776)/\(0<=n.Xl/\n.Xl<=1099511627776)/\(n.Yg.length<=64/\n.Yq.length<=64/\n.Ym.length<=64)/\n.Xd.length<=65536/\(al_ n.Xv 31=true->n.Xd=[]):=by
 unfold aY_;simp only[qAn,qDe,qP,qL,qG];constructor
 .rintro⟨⟨⟨⟨⟨⟨u,s⟩,q⟩,p⟩,m⟩,j⟩,f⟩
  exact ⟨u, s, q, p, m, j, fun h => by        rcases f with f|f;· rw[h]at f;cases f
                                              ·exact f⟩
 .rintro⟨u,s,q,p,m,j,f⟩;refine⟨⟨⟨⟨⟨⟨u,s⟩,q⟩,p⟩,m⟩,j⟩,?_⟩;cases h:al_ n.Xv 31 with
  | false=>exact .inl rfl
  | true=>exact .inr (f h)
theorem fq_(s:Str):(cs_ s).length<=64:=by
 unfold cs_;by_cases h:(s.length:Int)>64
 .rw[show decide ((s.length:Int)>64)=true by simpa using h];exact qq _
 .rw[show decide ((s.length:Int)>64)=false by simpa using h];show s.length<=64;omega
theorem ms_(x:Int):0<=av_ x/\av_ x<=1099511627776:=by
 unfold av_ br_ bN_;split<;>split<;>omega
theorem t6_{n:Xq}(h:aY_ n=true)(uid:Str)(now:Int):aY_ (aU_ n uid now)=true:=by
 rw[ip_]at h ⊢;obtain⟨q,u,p,s,f,m,j⟩:=h;refine⟨q,?_,p,ms_ now,⟨f.1,f.2.1,fq_ uid⟩,m,j⟩;show 0<=(w64 (n.Xs+1)).tmod 2147483648/\(w64 (n.Xs+1)).tmod 2147483648<=2147483647;rw[aq_ ⟨by omega,by omega⟩,zh (by omega)];omega
theorem putD_ok{n:Xq}(h:aY_ n=true){d:Str}(j:d.length<=65536)(f:al_ n.Xv 31=false):aY_ (putD n d)=true:=by
 rw[ip_]at h ⊢;obtain⟨u,s,q,p,m,y,x⟩:=h;exact⟨u,s,q,p,m,j,λ(e:al_ n.Xv 31=true)=>by rw[f]at e;cases e⟩
theorem putName_ok{n:Xq}(h:aY_ n=true)(s:Str):aY_ (bQ_ n s)=true:=by
 rw[ip_]at h ⊢;exact h
theorem OkT.upd{l:List Xq}{next:Int}(h:OkT l next){n n':Xq}(hn:n∈l)(F:n'.Id_=n.Id_)(hp:n'.Xy=n.Xy)(ZZ:aY_ n'=true)(hd:al_ n'.Xv 31=al_ n.Xv 31)
  (f:n'.Xh=n.Xh\/(n.Id_≠1/\bs_ n'.Xh=true/\∀c∈l,c.Id_≠1->c.Xy=n.Xy->c.Xh=n'.Xh->c.Id_=n.Id_)):OkT (aN_ l n') next:=by
 have phi:∀m∈l,(bif m.Id_==n'.Id_ then n' else m).Id_=m.Id_/\(bif m.Id_==n'.Id_ then n' else m).Xy=m.Xy/\al_ (bif m.Id_==n'.Id_ then n' else m).Xv 31=al_ m.Xv 31/\aY_ (bif m.Id_==n'.Id_ then n' else m)=true /\
   ((m.Id_≠n.Id_/\(bif m.Id_==n'.Id_ then n' else m).Xh=m.Xh)\/(m=n/\(bif m.Id_==n'.Id_ then n' else m).Xh=n'.Xh)):=λm hm=>by
  cases hb:m.Id_==n'.Id_ with
  | true =>
   have e:=qG.1 hb;obtain rfl:=kI_ h.srt hm hn (by rw[e,F]);exact⟨F,hp,hd,ZZ,.inr ⟨rfl,rfl⟩⟩
  | false =>
   have e:m.Id_≠n'.Id_:=by simpa using hb
   exact⟨rfl,rfl,rfl,h.flds m hm,.inl ⟨by rw[←F];exact e,rfl⟩⟩
 have mem:∀x,x∈aN_ l n'->∃m∈l,x=bif m.Id_==n'.Id_ then n' else m:=λx u=>by
  obtain⟨m,hm,e⟩:=zQ.1 u;exact⟨m,hm,e.symm⟩
 refine⟨gB_ h.srt n',?_,λx u => ?_,λx u p => ?_,λx u p => ?_,λa ha b hb p G y s => ?_,λx u => ?_,h.nx2,by rw[c9_];exact h.len⟩
 .obtain⟨r,q,e,p,G,y,s⟩:=h.root;have hr:r∈l:=by rw[e];exact qD ..
  obtain⟨C,M,Z,p4,j⟩:=phi r hr;refine⟨_,q.map λm=>bif m.Id_==n'.Id_ then n' else m,by rw[e];rfl,C.trans p,M.trans G,?_,Z.trans s⟩;rcases j with⟨_,j⟩|⟨rfl,j⟩
  .rw[j];exact y
  .rw[j];rcases f with f|⟨ZY,_⟩
   .rw[f];exact y
   .exact absurd p ZY
 .obtain⟨m,hm,rfl⟩:=mem x u;exact(phi m hm).2.2.2.1
 .obtain⟨m,hm,rfl⟩:=mem x u;obtain⟨C,M,Z,p4,j⟩:=phi m hm;rw[C]at p;rcases j with⟨_,j⟩|⟨rfl,j⟩
  .rw[j];exact h.nam m hm p
  .rw[j];rcases f with f|⟨_,ZX,_⟩
   .rw[f];exact h.nam m hm p
   .exact ZX
 .obtain⟨m,hm,rfl⟩:=mem x u;obtain⟨C,M,Z,p4,j⟩:=phi m hm;rw[C]at p ⊢;rw[M];obtain⟨q,q1,q2,q3,q4⟩:=h.par m hm p;obtain⟨O,r2,r3,_⟩:=phi q q1;exact⟨_,og_ q1,O.trans q2,by rw[O];exact q3,r3.trans q4⟩
 .obtain⟨m,hm,rfl⟩:=mem a ha;obtain⟨k,U,rfl⟩:=mem b hb;obtain⟨C,M,Z,p4,j⟩:=phi m hm;obtain⟨O,r2,r3,r4,V⟩:=phi k U;rw[C]at p;rw[O]at G;rw[M,r2]at y;rw[C,O];rcases j with⟨j,Y⟩|⟨rfl,Y⟩
  .rcases V with⟨V,J⟩|⟨rfl,J⟩
   .rw[Y,J]at s;exact h.uniq m hm k U p G y s
   .rw[Y,J]at s;rcases f with f|⟨_,_,D⟩
    .rw[f]at s;exact h.uniq m hm k U p G y s
    .exact D m hm p y s
  .rcases V with⟨V,J⟩|⟨rfl,J⟩
   .rw[Y,J]at s;rcases f with f|⟨_,_,D⟩
    .rw[f]at s;exact h.uniq m hm k U p G y s
    .exact(D k U G y.symm s.symm).symm
   .rfl
 .obtain⟨m,hm,rfl⟩:=mem x u;rw[(phi m hm).1];exact h.nxt m hm
theorem OkT.touch{l:List Xq}{next:Int}(h:OkT l next){n:Xq}(f:n∈l)(uid:Str)(now:Int):OkT (aN_ l (aU_ n uid now)) next :=
 h.upd f rfl rfl (t6_ (h.flds n f) uid now) rfl (.inl rfl)
theorem OkT.add{l:List Xq}{next:Int}(h:OkT l next){d n:Xq}(V:d∈l)(G:al_ d.Xv 31=true)(F:n.Id_=next)(M:n.Xy=d.Id_)(O:aY_ n=true)(y:bs_ n.Xh=true)
  (s:∀c∈l,c.Id_≠1->c.Xy=d.Id_->c.Xh≠n.Xh) (ZZ:next<=1048575) (hl:l.length<1024):OkT (l++[n]) (next+1):=by
 have U:=h.nxt d V;have ZY:=h.ge V;refine⟨List.pairwise_append.2 ⟨h.srt,List.pairwise_singleton ..,λa m b j => ?_⟩,?_,λx f => ?_,λx f u => ?_,λx f u => ?_,λa m b j u J D C => ?_,λx f => ?_,by omega,by simp;omega⟩
 .rw[qE.1 j,F];exact h.nxt a m
 .obtain⟨r,q,e,u,J,D,C⟩:=h.root;exact⟨r,q++[n],by rw[e];rfl,u,J,D,C⟩
 .rcases qY.1 f with f|f
  .exact h.flds x f
  .rw[qE.1 f];exact O
 .rcases qY.1 f with f|f
  .exact h.nam x f u
  .rw[qE.1 f];exact y
 .rcases qY.1 f with f|f
  .obtain⟨p,Z,Y⟩:=h.par x f u;exact⟨p,List.mem_append_left _ Z,Y⟩
  .rw[qE.1 f];exact⟨d,List.mem_append_left _ V,M.symm,by rw[F];exact U,G⟩
 .rcases qY.1 m with m|m
  .rcases qY.1 j with j|j
   .exact h.uniq a m b j u J D C
   .rw[qE.1 j]at D C;exact absurd C (s a m u (D.trans M))
  .rcases qY.1 j with j|j
   .rw[qE.1 m]at D C;exact absurd C.symm (s b j J (D.symm.trans M))
   .rw[qE.1 m,qE.1 j]
 .rcases qY.1 f with f|f
  .have:=h.nxt x f;omega
  .rw[qE.1 f];omega
theorem OkT.remove{l:List Xq}{next:Int}(h:OkT l next){id:Int}(M:id≠1)(y:∀c∈l,c.Id_≠1->c.Xy≠id):OkT (l.filter λn=>n.Id_ != id) next:=by
 have mem:∀x,(x∈l.filter λn=>n.Id_ != id)->x∈l/\x.Id_≠id:=λx f=>⟨(zS.1 f).1,by simpa using(zS.1 f).2⟩
 refine⟨h.srt.filter _,?_,λx f=>h.flds x (mem x f).1,λx f=>h.nam x (mem x f).1,λx f e => ?_,λa D b C=>h.uniq a (mem a D).1 b (mem b C).1,λx f=>h.nxt x (mem x f).1,h.nx2,qk (ji _ _) h.len⟩
 .obtain⟨r,q,e,m,J,G,F⟩:=h.root;refine⟨r,q.filter λn=>n.Id_ != id,?_,m,J,G,F⟩;rw[e,zZ];have:(r.Id_ != id)=true:=by rw[zM,m];exact λe=>M e.symm
  rw[this];rfl
 .obtain⟨p,u,j,s⟩:=h.par x (mem x f).1 e;exact⟨p,zS.2 ⟨u,by rw[zM,j];exact y x (mem x f).1 e⟩,j,s⟩
theorem oS_{l:List Xq}{dir:Int}{name:Str}(h:(l.find? (ch_ dir name)).isSome=false):∀c∈l,c.Id_≠1->c.Xy=dir->c.Xh≠name:=λc m s q p=>by
 have f:l.find? (ch_ dir name)=none:=by
  cases j:l.find? (ch_ dir name)with
  | none=>rfl
  | some x=>rw[j]at h;cases h
 rw[zy]at f;exact f c m (by unfold ch_;simp[s,q,p])
theorem newN_ok(t:Xk)(dir:Int)(name:Str){mode:Int}(uid gid:Str)(now:Int)(h:aD_ mode=true):aY_ (newN t dir name mode uid gid now)=true:=by
 rw[ip_];exact⟨h,⟨by show(0:Int)<=0;omega,by show(0:Int)<=2147483647;omega⟩,ms_ now,ms_ now,⟨fq_ _,fq_ _,fq_ _⟩,qq _,λ_=>rfl⟩
theorem create_cases {t:Xk} {dir:Int} {name:Str} {mode:Int} {uid gid:Str} {now:Int} (h:OkT t.Xz t.Xn) :
  (∃e,e≠0/\f7_ t dir name mode uid gid now=(t,0,e)) \/
  (f7_ t dir name mode uid gid now=(Xk.mk (t.Xn+1) (aN_ t.Xz (aU_ (ai_ t.Xz dir).1 uid now)++[newN t dir name mode uid gid now]),t.Xn,0)/\(ai_ t.Xz dir).2=true/\al_ (ai_ t.Xz dir).1.Xv 31=true/\aD_ mode=true /\
   OkT (aN_ t.Xz (aU_ (ai_ t.Xz dir).1 uid now)++[newN t dir name mode uid gid now]) (t.Xn+1)):=by
 unfold f7_;cases V:(ai_ t.Xz dir).2 with
 | false=>exact .inl ⟨8,by omega,rfl⟩
 | true =>
  cases U:al_ (ai_ t.Xz dir).1.Xv 31 with
  | false=>exact .inl ⟨9,by omega,rfl⟩
  | true =>
   cases O:bs_ name with
   | false=>exact .inl ⟨6,by omega,rfl⟩
   | true =>
    cases M:aD_ mode with
    | false=>exact .inl ⟨1,by omega,rfl⟩
    | true =>
     cases J:(t.Xz.find? (ch_ dir name)).isSome with
     | true=>exact .inl ⟨7,by omega,rfl⟩
     | false =>
      cases G:decide ((t.Xz.length:Int)>=1024)||decide (t.Xn>1048575)with
      | true=>exact .inl ⟨22,by omega,rfl⟩
      | false =>
       simp only[qh,qDf]at G;obtain⟨hm,j⟩:=aH_ V;have s:=h.nxt _ hm;have y:=h.ge hm;have x:w64 (t.Xn+1)=t.Xn+1:=aq_ ⟨by omega,by omega⟩;refine .inr ⟨by rw[x];rfl,rfl,rfl,rfl,?_⟩;have u:=og_ (n:=aU_ (ai_ t.Xz dir).1 uid now) hm;have D:((ai_ t.Xz dir).1.Id_==(aU_ (ai_ t.Xz dir).1 uid now).Id_)=true:=jX _;rw[D]at u;have F:=h.touch hm uid now;refine F.add u U rfl (show dir=_ from j.symm) (newN_ok t dir name uid gid now M) O (λc C c1 c2 => ?_) (by omega) (by rw[c9_];omega);obtain⟨m,f,Z,q⟩:=mem_updN C;have p:m.Xy=c.Xy/\m.Xh=c.Xh:=by
        rcases q with⟨q,_⟩|⟨q,Y⟩
        .rw[q];exact⟨rfl,rfl⟩
        .rw[q];have:=kI_ h.srt f hm Y;rw[this];exact⟨rfl,rfl⟩
       rw[←p.2];refine oS_ J m f (by rw[←Z];exact c1) ?_;rw[p.1,c2];exact j
theorem remove_cases{t:Xk}{id:Int}{uid:Str}{now:Int}(h:OkT t.Xz t.Xn) :
  (∃e,e≠0/\eo_ t id uid now=(t,e))\/(∃p,p∈t.Xz/\p.Id_=(ai_ t.Xz id).1.Xy/\p.Id_≠id/\(ai_ t.Xz id).2=true/\id≠1/\eo_ t id uid now=(Xk.mk t.Xn ((aN_ t.Xz (aU_ p uid now)).filter λn=>n.Id_ != id),0) /\
   OkT ((aN_ t.Xz (aU_ p uid now)).filter λn=>n.Id_ != id) t.Xn):=by
 unfold eo_;cases O:(ai_ t.Xz id).2 with
 | false=>exact .inl ⟨8,by omega,rfl⟩
 | true =>
  cases M:id==1 with
  | true=>exact .inl ⟨1,by omega,rfl⟩
  | false =>
   have j:id≠1:=by simpa using M
   cases D:decide (((aQ_ t.Xz id).length:Int)>0)with
   | true=>exact .inl ⟨23,by omega,rfl⟩
   | false =>
    obtain⟨hm,y⟩:=aH_ O;obtain⟨p,f,s,G,F⟩:=h.par _ hm (by rw[y];exact j);have q:=cc_ h.srt f;rw[s]at q;refine .inr ⟨p,f,s,by omega,rfl,j,by rw[q];rfl,?_⟩;refine(h.touch f uid now).remove j λc J Z Y => ?_
    rw[childT_mem,jO]at D;obtain⟨m,u,V,x⟩:=mem_updN J;have C:m.Xy=c.Xy:=by
     rcases x with⟨x,_⟩|⟨x,U⟩
     .rw[x]
     .rw[x,kI_ h.srt u f U];rfl
    refine D m u ?_;rw[qAn,qG,zM];exact⟨C.trans Y,by rw[←V];exact Z⟩
theorem sm_{t:Xk}{id size:Int}{uid:Str}{now:Int}(h:OkT t.Xz t.Xn) :
  (∃e,cR_ t id size uid now=(t,e))\/((ai_ t.Xz id).2=true/\al_ (ai_ t.Xz id).1.Xv 31=false/\cR_ t id size uid now=(Xk.mk t.Xn (aN_ t.Xz (aU_ (putD (ai_ t.Xz id).1 (fitS (ai_ t.Xz id).1.Xd size.toNat)) uid now)),0)/\0<=size /\
   OkT (aN_ t.Xz (aU_ (putD (ai_ t.Xz id).1 (fitS (ai_ t.Xz id).1.Xd size.toNat)) uid now)) t.Xn):=by
 unfold cR_;cases m:e4_ t.Xz id != 0 with
 | true=>exact .inl ⟨_,rfl⟩
 | false =>
  obtain⟨f1,f2⟩:=ns_ m;have hm:=(aH_ f1).1;by_cases j:size<0
  .rw[show decide (size<0)=true by simpa using j];exact .inl ⟨_,rfl⟩
  .rw[show decide (size<0)=false by simpa using j];by_cases f:size>65536
   .rw[show decide (size>65536)=true by simpa using f];exact .inl ⟨_,rfl⟩
   .rw[show decide (size>65536)=false by simpa using f];cases p:size==((ai_ t.Xz id).1.Xd.length:Int)with
    | true=>exact .inl ⟨_,rfl⟩
    | false =>
     refine .inr ⟨f1,f2,rfl,by omega,?_⟩;exact h.upd hm rfl rfl (t6_ (putD_ok (h.flds _ hm) (by rw[lr_];omega) f2) uid now) rfl (.inl rfl)
theorem wrS_len(old:Str)(o:Nat)(data:Str)(h:old.length<=65536)(f:o+data.length<=65536):(wrS old o data).length<=65536/\(wrS old o data).length=max old.length (o+data.length):=by
 unfold wrS;rw[qLa,qLa,lr_,qS];omega
theorem write_cases{t:Xk}{id offset:Int}{data uid:Str}{now:Int}(h:OkT t.Xz t.Xn) :
  (∃e,hT_ t id offset data uid now=(t,0,e))\/(∃o:Nat,(ai_ t.Xz id).2=true/\al_ (ai_ t.Xz id).1.Xv 31=false/\((o:Int)=bif al_ (ai_ t.Xz id).1.Xv 30 then((ai_ t.Xz id).1.Xd.length:Int)else offset)/\o+data.length<=65536/\data≠[] /\
   hT_ t id offset data uid now=(Xk.mk t.Xn (aN_ t.Xz (aU_ (putD (ai_ t.Xz id).1 (wrS (ai_ t.Xz id).1.Xd o data)) uid now)),(data.length:Int),0) /\
   OkT (aN_ t.Xz (aU_ (putD (ai_ t.Xz id).1 (wrS (ai_ t.Xz id).1.Xd o data)) uid now)) t.Xn):=by
 unfold hT_;cases x:e4_ t.Xz id != 0 with
 | true=>exact .inl ⟨_,rfl⟩
 | false =>
  obtain⟨f1,f2⟩:=ns_ x;have hm:=(aH_ f1).1;by_cases p:offset<0
  .rw[show decide (offset<0)=true by simpa using p];exact .inl ⟨_,rfl⟩
  .rw[show decide (offset<0)=false by simpa using p];cases u:data==[]with
   | true=>exact .inl ⟨_,rfl⟩
   | false =>
    have j:data≠[]:=by simpa using u
    simp only[qw];generalize s:(bif al_ (ai_ t.Xz id).1.Xv 30 then((ai_ t.Xz id).1.Xd.length:Int)else offset)=o;have q:0<=o:=by
     subst s;cases al_ (ai_ t.Xz id).1.Xv 30
     .simp;omega
     .simp
    by_cases m:o+(data.length:Int)>65536
    .rw[show decide (o+(data.length:Int)>65536)=true by simpa using m];exact .inl ⟨_,rfl⟩
    .rw[show decide (o+(data.length:Int)>65536)=false by simpa using m];have f:=wrS_len (ai_ t.Xz id).1.Xd o.toNat data (iW_ (h.flds _ hm)) (by omega);refine .inr ⟨o.toNat,f1,f2,by omega,by omega,j,rfl,?_⟩;exact h.upd hm rfl rfl (t6_ (putD_ok (h.flds _ hm) f.1 f2) uid now) rfl (.inl rfl)
theorem sn_ {t:Xk} {id:Int} {name uid:Str} {now:Int} (h:OkT t.Xz t.Xn) :
  (∃e,eT_ t id name uid now=(t,e))\/(∃p,(ai_ t.Xz id).2=true/\id≠1/\p∈t.Xz/\p.Id_=(ai_ t.Xz id).1.Xy/\p.Id_<id/\eT_ t id name uid now=(Xk.mk t.Xn (aN_ (aN_ t.Xz (bQ_ (ai_ t.Xz id).1 name)) (aU_ p uid now)),0) /\
   OkT (aN_ (aN_ t.Xz (bQ_ (ai_ t.Xz id).1 name)) (aU_ p uid now)) t.Xn):=by
 unfold eT_;cases U:(ai_ t.Xz id).2 with
 | false=>exact .inl ⟨8,rfl⟩
 | true =>
  cases O:id==1 with
  | true=>exact .inl ⟨1,rfl⟩
  | false =>
   have y:id≠1:=by simpa using O
   cases M:bs_ name with
   | false=>exact .inl ⟨6,rfl⟩
   | true =>
    cases h4:(ai_ t.Xz id).1.Xh==name with
    | true=>exact .inl ⟨0,rfl⟩
    | false =>
     cases J:(t.Xz.find? (ch_ (ai_ t.Xz id).1.Xy name)).isSome with
     | true=>exact .inl ⟨7,rfl⟩
     | false =>
      obtain⟨hm,x⟩:=aH_ U;have u:(ai_ t.Xz id).1.Id_≠1:=by rw[x];exact y
      obtain⟨p,s,q,m,D⟩:=h.par _ hm u;have C:=h.upd hm (n':=bQ_ (ai_ t.Xz id).1 name) rfl rfl (putName_ok (h.flds _ hm) name) rfl (.inr ⟨u,M,λc F Z Y V=>absurd V (oS_ J c F Z Y)⟩);have f:p∈aN_ t.Xz (bQ_ (ai_ t.Xz id).1 name):=by
       have:=og_ (n:=bQ_ (ai_ t.Xz id).1 name) s;have G:(p.Id_==(bQ_ (ai_ t.Xz id).1 name).Id_)=false:=by
        rw[qz];show p.Id_≠(ai_ t.Xz id).1.Id_;omega
       rw[G]at this;exact this
      have j:=cc_ C.srt f;rw[q]at j;exact .inr ⟨p,rfl,y,s,q,by rw[x]at m;exact m,by rw[j];rfl,C.touch f uid now⟩
theorem attrN_ok{n:Xq}(h:aY_ n=true){mode:Int}{gid:Str}{mtime:Int}(f:mode = -1\/aD_ mode=true/\al_ mode 31=al_ n.Xv 31)(m:mtime = -1\/0<=mtime/\mtime<=1099511627776):aY_ (e5_ n mode gid mtime)=true/\al_ (e5_ n mode gid mtime).Xv 31=al_ n.Xv 31:=by
 have q:al_ (e5_ n mode gid mtime).Xv 31=al_ n.Xv 31:=by
  unfold e5_;rcases f with rfl|⟨f,D⟩
  .rfl
  .show al_ (bif mode != -1 then mode else n.Xv) 31=_;cases mode != -1 with
   | true=>exact D
   | false=>rfl
 refine⟨?_,q⟩;rw[ip_]at h ⊢;obtain⟨k1,y,x,p,j,u,s⟩:=h;refine⟨?_,y,x,?_,⟨j.1,?_,j.2.2⟩,u,λe=>s (q▸e)⟩
 .show aD_ (bif mode != -1 then mode else n.Xv)=true;rcases f with rfl|⟨f,_⟩
  .exact k1
  .cases mode != -1 with
   | true=>exact f
   | false=>exact k1
 .show 0<=(bif mtime != -1 then mtime else n.Xl)/\(bif mtime != -1 then mtime else n.Xl)<=_;rcases m with rfl|m
  .exact p
  .cases mtime != -1 with
   | true=>exact m
   | false=>exact p
 .show(bif !(cs_ gid==[])then gid else n.Yq).length<=64;cases C:cs_ gid==[]with
  | true=>exact j.2.1
  | false =>
   rw[←short_or gid C];exact fq_ gid
theorem ts_{t:Xk}{id mode:Int}{gid:Str}{mtime:Int}(h:OkT t.Xz t.Xn) :
  (∃e,hU_ t id mode gid mtime=(t,e))\/((ai_ t.Xz id).2=true/\hU_ t id mode gid mtime=(Xk.mk t.Xn (aN_ t.Xz (e5_ (ai_ t.Xz id).1 mode gid mtime)),0)/\OkT (aN_ t.Xz (e5_ (ai_ t.Xz id).1 mode gid mtime)) t.Xn):=by
 unfold hU_;cases m:(ai_ t.Xz id).2 with
 | false=>exact .inl ⟨8,rfl⟩
 | true =>
  have hm:=(aH_ m).1;cases f:(mode != -1)&&(!(aD_ mode) || !(al_ mode 31==al_ (ai_ t.Xz id).1.Xv 31))with
  | true=>exact .inl ⟨1,rfl⟩
  | false =>
   cases j:(mtime != -1)&&(decide (mtime<0)||decide (mtime>1099511627776))with
   | true=>exact .inl ⟨5,rfl⟩
   | false =>
    have s:mode = -1\/aD_ mode=true/\al_ mode 31=al_ (ai_ t.Xz id).1.Xv 31:=by
     rw[zu]at f;rcases f with f|f
     .exact .inl (by simpa using f)
     .simp only[qh,Bool.not_eq_false',qG]at f;exact .inr f
    have a2:mtime = -1\/0<=mtime/\mtime<=1099511627776:=by
     rw[zu]at j;rcases j with j|j
     .exact .inl (by simpa using j)
     .simp only[qh,qDf]at j;exact .inr (by omega)
    obtain⟨q,p⟩:=attrN_ok (h.flds _ hm) (gid:=gid) s a2;exact .inr ⟨rfl,rfl,h.upd hm rfl rfl q p (.inl rfl)⟩
theorem set_self{α:Type}{l:List α}{i:Nat}{x:α}(h:l[i]? = some x):l.set i x=l:=by
 obtain⟨hi,rfl⟩:=qZ.1 h;exact List.set_getElem_self hi
theorem so_{body:Int×List Xb->Option (Step (Int×List Xb) (List Xb))}(l:List Xb)(j:l.length<=1000)
  (h:∀i,i<l.length->body ((i:Int),l)=some (.next (((i+1:Nat):Int),l))) (f:body ((l.length:Int),l)=some (.done l)):am_ body BIG (0,l)=some l :=
 be_ (λi=>((i:Int),l)) l.length (bz_ (by omega)) (λi hi=>h i hi) f
theorem fresh_loop(l:List Xb)(f:l.length<=1000)(hm:smallM l):am_ (gq_ l) BIG (0,l)=some l:=by
 refine so_ l f (λi hi => ?_) ?_
 .unfold gq_;simp only;rw[bm_ hi,au_ hi,aw_ (by omega)];refine af_ rfl (aa_ rfl (aa_ (l1_ (hm _ (qr hi))) (aa_ rfl ?_)));exact qH (λq=>some (Step.next (((i+1:Nat):Int),q))) (set_self (qQ hi))
 .unfold gq_;simp only;rw[bC_];rfl
theorem new_loop(l:List Xb)(f:l.length<=1000)(hm:smallM l):am_ (ib_ l) BIG (0,l)=some l:=by
 refine so_ l f (λi hi => ?_) ?_
 .unfold ib_;simp only;rw[bm_ hi,au_ hi,aw_ (by omega)];refine af_ rfl (aa_ rfl (aa_ (l1_ (hm _ (qr hi))) (aa_ rfl ?_)));exact qH (λq=>some (Step.next (((i+1:Nat):Int),q))) (set_self (qQ hi))
 .unfold ib_;simp only;rw[bC_];rfl
theorem ls_(s:Xj)(z:SizeOK s):c1_ s=some s:=by
 have:=z.nl;have:=z.el;unfold c1_;exact aa_ (pk_ z.ul) (aa_ (fresh_loop _ z.ul z.um) (aa_ (tp_ (by omega)) (aa_ (oc_ z.ql) (aa_ (nq_ (by omega)) rfl))))
def ed_(s:Xj)(user:Str)(n:Xq):Bool:=(isS s n.Xy&&n.Id_ != 1)&&mayS s user (ak_ s n.Xy) 2
def putTr(s:Xj)(t:Xk):Xj:=Xj.mk s.Yz s.Yx t s.Xa
def putTE(s:Xj)(t:Xk)(e:List Int):Xj:=Xj.mk s.Yz s.Yx t e
theorem t7_{s:Xj}(f:FileOK s)(z:SizeOK s)(user:Str)(n:Xq):fa_ s user n=some (ed_ s user n):=by
 unfold fa_ ed_ isS;refine aa_ (dw_ _ _ (nl2 z)) ?_;cases h:(ai_ s.Xg.Xz n.Xy).2&&n.Id_ != 1 with
 | false=>rfl
 | true=>exact aa_ (aa_ (may_eq z user (cj_ f _) 2) rfl) rfl
theorem s1_{s:Xj}{id:Int}(h:isS s id=true):(ak_ s id).Id_=id:=(aH_ h).2
theorem gC_{s:Xj}{user:Str}{id:Int}(h:(bU_ s user id != 0)=false):bU_ s user id=0/\vU user=true/\isS s id=true:=by
 have f:bU_ s user id=0:=by simpa using h
 refine⟨f,?_⟩;unfold bU_ at f;cases j:vU user with
 | false=>rw[j]at f;cases f
 | true =>
  rw[j]at f;cases hi:isS s id with
  | false=>rw[hi]at f;cases f
  | true=>exact⟨rfl,rfl⟩
def iY_(s:Xj)(user:Str)(n:Xq)(mode:Int):Int:=bif(bV_ mode).2 != 0 then(bV_ mode).2 else bif al_ n.Xv 31&&mode != 0 then 10 else bif !(mayS s user n (bV_ mode).1)then 11 else bif al_ mode 6 && !(ed_ s user n)then 11 else bif al_ n.Xv 29&&decide (n.Id_∈s.Xa)then 24 else 0
def fr_(s:Xj)(user:Str)(id mode:Int):Int:=bif bU_ s user id != 0 then bU_ s user id else iY_ s user (ak_ s id) mode
theorem oT_{m:Int}(h:((bV_ m).2 != 0)=false):0<=m/\m<128:=by
 unfold bV_ at h;split at h
 .assumption
 .cases h
theorem opens_eq{s:Xj}(z:SizeOK s)(f:FileOK s)(user:Str)(n:Xq)(mode:Int)(hm:I64 mode)(h:n.Xv<=9223372036854775807):jd_ s user n mode=some (iY_ s user n mode):=by
 unfold jd_ iY_;refine aa_ (cr_ mode hm) ?_;cases j:(bV_ mode).2 != 0 with
 | true=>rfl
 | false =>
  obtain⟨m,q⟩:=oT_ j;refine ab_ rfl (aa_ (gA_ _ h).1 ?_);cases al_ n.Xv 31&&mode != 0 with
  | true=>rfl
  | false =>
   refine ab_ rfl (aa_ (may_eq z user h _) ?_);cases mayS s user n (bV_ mode).1 with
   | false=>rfl
   | true =>
    have p:(bF_ .i64 mode 64 != 0)=al_ mode 6:=by
     have:=has_and mode 6 (by omega) (by omega);rw[show decide (mode>=0)=true by simpa using m,zY]at this;exact this
    rw[p,t7_ f z];refine ab_ rfl (aa_ (a:=al_ mode 6 && !(ed_ s user n)) (by cases al_ mode 6<;>rfl) ?_);cases al_ mode 6 && !(ed_ s user n)with
    | true=>rfl
    | false =>
     refine ab_ rfl (aa_ (gA_ _ h).2.2.1 ?_);rw[yo_ _ _ (by have:=z.el;omega)];refine aa_ (a:=al_ n.Xv 29&&decide (n.Id_∈s.Xa)) (by cases al_ n.Xv 29<;>rfl) ?_;cases al_ n.Xv 29&&decide (n.Id_∈s.Xa)<;>rfl
def kM_(s:Xj)(user:Str)(id mode now:Int):Xj×Int:=bif fr_ s user id mode != 0 then(s,fr_ s user id mode)else(putTE s (bif al_ mode 4 && !(al_ (ak_ s id).Xv 30)then(cR_ s.Xg id 0 user (av_ now)).1 else s.Xg) (bif al_ (ak_ s id).Xv 29 then e0_ s.Xa id else s.Xa),0)
theorem pn_{s:Xj}{user:Str}{id mode:Int}(h:(fr_ s user id mode != 0)=false):(bU_ s user id != 0)=false/\iY_ s user (ak_ s id) mode=0/\0<=mode/\mode<128:=by
 have f:fr_ s user id mode=0:=by simpa using h
 unfold fr_ at f;cases m:bU_ s user id != 0 with
 | true=>rw[m]at f;rw[show bU_ s user id=0 from f]at m;cases m
 | false =>
  rw[m]at f;have p:iY_ s user (ak_ s id) mode=0:=f;refine⟨rfl,p,?_⟩;unfold iY_ at p;cases j:(bV_ mode).2 != 0 with
  | true=>rw[j]at p;rw[show(bV_ mode).2=0 from p]at j;cases j
  | false=>exact oT_ j
theorem open_eq{s:Xj}(f:FileOK s)(z:SizeOK s)(user:Str)(id mode now:Int)(p:user.length<=9223372036854775807)(hm:I64 mode):km_ s user id mode now=some (kM_ s user id mode now):=by
 obtain⟨n,C,y⟩:=pZ_ z user id p;unfold km_ kM_;refine aa_ (ls_ s z) (aa_ C ?_);cases h:bU_ s user id != 0 with
 | true =>
  have:fr_ s user id mode=bU_ s user id:=by unfold fr_;rw[h];rfl
  rw[this,h];rfl
 | false =>
  obtain⟨u,_,hi⟩:=gC_ h;obtain rfl:=y u;have m:fr_ s user id mode=iY_ s user (ak_ s id) mode:=by unfold fr_;rw[h];rfl
  refine ab_ rfl (aa_ (opens_eq z f user _ mode hm (cj_ f id)) ?_);rw[m];cases j:iY_ s user (ak_ s id) mode != 0 with
  | true=>rfl
  | false =>
   rw[←m]at j;obtain⟨_,_,q,D⟩:=pn_ j;have x:(bF_ .i64 mode 16 != 0)=al_ mode 4:=by
    have:=has_and mode 4 (by omega) (by omega);rw[show decide (mode>=0)=true by simpa using q,zY]at this;exact this
   rw[x];refine ab_ rfl (aa_ (a:=let t:=(bif al_ mode 4 && !(al_ (ak_ s id).Xv 30)then(cR_ s.Xg id 0 user (av_ now)).1 else s.Xg);(t.Xn,s.Yz,s.Yx,t.Xz,s.Xa)) ?_ (aa_ (a:=let t:=(bif al_ mode 4 && !(al_ (ak_ s id).Xv 30)then(cR_ s.Xg id 0 user (av_ now)).1 else s.Xg);(s.Yz,s.Yx,t.Xn,t.Xz,bif al_ (ak_ s id).Xv 29 then e0_ s.Xa id else s.Xa)) ?_ rfl))
   .rw[(gA_ _ (cj_ f id)).2.1];refine aa_ (a:=al_ mode 4 && !(al_ (ak_ s id).Xv 30)) (by cases al_ mode 4<;>rfl) ?_;cases al_ mode 4 && !(al_ (ak_ s id).Xv 30)with
    | true=>exact af_ rfl (aa_ rfl (aa_ (p0_ s.Xg id 0 user (av_ now) f.tr) rfl))
    | false=>rfl
   .refine aa_ (gA_ _ (cj_ f id)).2.2.1 ?_;cases al_ (ak_ s id).Xv 29 with
    | true=>exact af_ rfl (aa_ (lock_eq _ id f.srt (by have:=z.el;show s.Xa.length<=1000;omega)) rfl)
    | false=>rfl
def mu_(s:Xj)(user:Str)(n:Xq)(name:Str)(perm mode:Int):Int:=bif !(bs_ name)then 6 else bif !(aD_ perm)then 1 else bif(bV_ mode).2 != 0 then(bV_ mode).2 else bif al_ perm 31&&mode != 0 then 12 else bif !(mayS s user n 2)then 11 else bif(gz_ s.Xg.Xz n.Id_ name).2==0 then 7 else bif !(l4_ s.Yx s.Xg user 1 0)then 21 else 0
def ex_(s:Xj)(user:Str)(id:Int)(name:Str)(perm mode:Int):Int:=bif dirC s user id != 0 then dirC s user id else mu_ s user (ak_ s id) name perm mode
def e1_(d m:Int):Int:=(et_ d m).getD 0
def lt_(s:Xj)(user:Str)(id:Int)(name:Str)(perm mode now:Int):Xj×Int×Int :=
 bif ex_ s user id name perm mode != 0 then(s,0,ex_ s user id name perm mode)else
 let r:=e1_ (ak_ s id).Xv perm
 let c:=f7_ s.Xg id name r user (ak_ s id).Yq (av_ now)
 bif c.2.2 != 0 then(s,0,c.2.2)else(putTE s c.1 (bif al_ r 29 then e0_ s.Xa c.2.1 else s.Xa),c.2.1,0)
theorem makes_eq{s:Xj}(z:SizeOK s)(f:FileOK s)(user:Str)(n:Xq)(name:Str)(perm mode:Int)(hm:I64 mode)(h:perm<=9223372036854775807)(j:n.Xv<=9223372036854775807)(m:name.length<=9223372036854775807):jb_ s user n name perm mode=some (mu_ s user n name perm mode):=by
 unfold jb_ mu_;refine aa_ (im_ _ m) ?_;cases bs_ name with
 | false=>rfl
 | true =>
  refine ab_ rfl (aa_ (sk_ _ h) ?_);cases aD_ perm with
  | false=>rfl
  | true =>
   refine ab_ rfl (aa_ (cr_ mode hm) ?_);cases(bV_ mode).2 != 0 with
   | true=>rfl
   | false =>
    refine ab_ rfl (aa_ (gA_ _ h).1 ?_);cases al_ perm 31&&mode != 0 with
    | true=>rfl
    | false =>
     refine ab_ rfl (aa_ (may_eq z user j 2) ?_);cases mayS s user n 2 with
     | false=>rfl
     | true =>
      refine ab_ rfl (aa_ (ob_ _ _ _ f.tr) ?_);cases(gz_ s.Xg.Xz n.Id_ name).2==0 with
      | true=>rfl
      | false =>
       refine ab_ rfl (aa_ (rl_ _ _ _ _ _ z.ql (nl2 z)) ?_);cases l4_ s.Yx s.Xg user 1 0<;>rfl
theorem rn_{s:Xj}{user:Str}{id:Int}{name:Str}{perm mode:Int}(h:(ex_ s user id name perm mode != 0)=false):(dirC s user id != 0)=false/\mu_ s user (ak_ s id) name perm mode=0:=by
 have f:ex_ s user id name perm mode=0:=by simpa using h
 unfold ex_ at f;cases j:dirC s user id != 0 with
 | true=>rw[j]at f;rw[show dirC s user id=0 from f]at j;cases j
 | false=>rw[j]at f;exact⟨rfl,f⟩
theorem tt_{s:Xj}{user:Str}{n:Xq}{name:Str}{perm mode:Int}(h:mu_ s user n name perm mode=0):bs_ name=true/\aD_ perm=true/\mayS s user n 2=true/\l4_ s.Yx s.Xg user 1 0=true:=by
 unfold mu_ at h;cases u:bs_ name with
 | false=>rw[u]at h;cases h
 | true =>
  rw[u]at h;cases q:aD_ perm with
  | false=>rw[q]at h;cases h
  | true =>
   rw[q]at h;cases f:(bV_ mode).2 != 0 with
   | true=>rw[f]at h;rw[show(bV_ mode).2=0 from h]at f;cases f
   | false =>
    rw[f]at h;cases p:al_ perm 31&&mode != 0 with
    | true=>rw[p]at h;cases h
    | false =>
     rw[p]at h;cases m:mayS s user n 2 with
     | false=>rw[m]at h;cases h
     | true =>
      rw[m]at h;cases j:(gz_ s.Xg.Xz n.Id_ name).2==0 with
      | true=>rw[j]at h;cases h
      | false =>
       rw[j]at h;cases x:l4_ s.Yx s.Xg user 1 0 with
       | false=>rw[x]at h;cases h
       | true=>exact⟨rfl,rfl,rfl,rfl⟩
theorem inhI_kind{s:Xj}(f:FileOK s){id:Int}(h:isS s id=true){m:Int}(hm:aD_ m=true):∃q,fV_ (ak_ s id).Xv m=some q/\et_ (ak_ s id).Xv m=some (e1_ (ak_ s id).Xv m)/\orI .i64 (dc_ .i64 m 511) (bF_ .i64 q 511)=e1_ (ak_ s id).Xv m/\e1_ (ak_ s id).Xv m<=9223372036854775807/\aD_ (e1_ (ak_ s id).Xv m)=true:=by
 have u:=f.tr.mode (t4_ h);have p:=oO_ hm;obtain⟨q,r,C,j,y,F,D,x⟩:=inherit_kind (ak_ s id).Xv m ⟨u.1,by omega⟩ ⟨p.1,by omega⟩;have:e1_ (ak_ s id).Xv m=r:=by unfold e1_;rw[j];rfl
 rw[this];exact⟨q,C,j,y,by omega,x hm⟩
theorem create_eq{s:Xj}(f:FileOK s)(z:SizeOK s)(user:Str)(id:Int)(name:Str)(perm mode now:Int)(x:user.length<=9223372036854775807)(hm:I64 mode)(y:perm<=9223372036854775807)(j:name.length<=9223372036854775807):if_ s user id name perm mode now=some (lt_ s user id name perm mode now):=by
 obtain⟨n,O,p⟩:=sh_ f z user id x;unfold if_ lt_;refine aa_ (ls_ s z) (aa_ O (aa_ (a:=ex_ s user id name perm mode) ?_ ?_))
 .unfold ex_ bne;cases C:dirC s user id==0 with
  | false=>rfl
  | true =>
   obtain rfl:=p (by simpa using C);exact af_ rfl (aa_ (makes_eq z f user _ name perm mode hm y (cj_ f id) j) rfl)
 .cases u:ex_ s user id name perm mode != 0 with
  | true=>rfl
  | false =>
   obtain⟨F,D⟩:=rn_ u;obtain⟨G,_,hi,_⟩:=sj_ F;obtain rfl:=p G;obtain⟨_,h,_,_⟩:=tt_ D;obtain⟨q,M,_,J,m,_⟩:=inhI_kind f hi h;refine ab_ rfl (aa_ M (aa_ (rfl:cZ_ now=some (av_ now)) ?_));simp only[J,qw];refine aa_ (wM_ s.Xg id name _ user _ (av_ now) f.tr m j) ?_;generalize f7_ s.Xg id name (e1_ (ak_ s id).Xv perm) user (ak_ s id).Yq (av_ now)=c;cases c.2.2 != 0 with
   | true=>rfl
   | false =>
    refine ab_ rfl (aa_ (a:=(s.Yz,s.Yx,c.1.Xn,c.1.Xz,bif al_ (e1_ (ak_ s id).Xv perm) 29 then e0_ s.Xa c.2.1 else s.Xa)) (aa_ (gA_ _ m).2.2.1 ?_) rfl);cases al_ (e1_ (ak_ s id).Xv perm) 29 with
    | true=>exact af_ rfl (aa_ (lock_eq _ _ f.srt (by have:=z.el;show s.Xa.length<=1000;omega)) rfl)
    | false=>rfl
def hV_(s:Xj)(n:Xq)(size:Int):Bool:=decide (size<=(n.Xd.length:Int))||l4_ s.Yx s.Xg n.Yg 0 (w64 (size-(n.Xd.length:Int)))
theorem grows_eq{s:Xj}(z:SizeOK s)(n:Xq)(size:Int):gL_ s n size=some (hV_ s n size):=by
 unfold gL_ hV_;rw[rl_ _ _ _ _ _ z.ql (nl2 z)];cases decide (size<=(n.Xd.length:Int))<;>rfl
theorem sp_{s:Xj}(z:SizeOK s)(n:Xq)(size:Int):iV_ s n size=some (hV_ s n size):=by
 unfold iV_ hV_;rw[rm_ _ _ _ _ _ z.ql (nl2 z)];cases decide (size<=(n.Xd.length:Int))<;>rfl
def oh_(s:Xj)(user:Str)(id offset:Int)(data:Str)(now:Int):Xj×Int×Int :=
 bif bU_ s user id != 0 then(s,0,bU_ s user id)else bif al_ (ak_ s id).Xv 31 then(s,0,10)else bif decide (offset<0)then(s,0,1)else bif data==[]then(s,0,0)else
 let o:=bif al_ (ak_ s id).Xv 30 then((ak_ s id).Xd.length:Int)else offset
 bif decide (o>65536)||decide ((data.length:Int)>w64 (65536-o))then(s,0,4)else
 bif !(hV_ s (ak_ s id) (w64 (o+(data.length:Int))))then(s,0,21)else
 (putTr s (hT_ s.Xg id o data user (av_ now)).1,(data.length:Int),0)
theorem write_ok{t:Xk}{id offset o:Int}{data user:Str}{now:Int}(hi:(ai_ t.Xz id).2=true)(q:al_ (ai_ t.Xz id).1.Xv 31=false)(s:0<=offset)(j:(data==[])=false)(h:o=bif al_ (ai_ t.Xz id).1.Xv 30 then((ai_ t.Xz id).1.Xd.length:Int)else offset)
  (m:(decide (o>65536)||decide ((data.length:Int)>w64 (65536-o)))=false):(hT_ t id o data user now).2=((data.length:Int),0)/\0<=o/\o+data.length<=65536:=by
 have f:0<=o:=by rw[h];cases al_ (ai_ t.Xz id).1.Xv 30 with
  | true=>exact Int.natCast_nonneg _
  | false=>exact s
 simp only[qh,qDf]at m;rw[aq_ ⟨by omega,by omega⟩]at m;refine⟨?_,f,by omega⟩;unfold hT_ e4_;rw[hi,q];have y:decide (o<0)=false:=by simpa using f
 rw[y,j];have x:(bif al_ (ai_ t.Xz id).1.Xv 30 then((ai_ t.Xz id).1.Xd.length:Int)else o)=o:=by
  cases p:al_ (ai_ t.Xz id).1.Xv 30 with
  | true=>rw[p]at h;exact h.symm
  | false=>rfl
 simp only[x];have u:decide (o+(data.length:Int)>65536)=false:=by simp;omega
 rw[u];rfl
theorem write_eq{s:Xj}(f:FileOK s)(z:SizeOK s)(user:Str)(id offset:Int)(data:Str)(now:Int)(p:user.length<=9223372036854775807)(j:data.length<=9223372036854775807):jc_ s user id offset data now=some (oh_ s user id offset data now):=by
 obtain⟨n,G,F⟩:=pZ_ z user id p;unfold jc_ oh_;refine aa_ (ls_ s z) (aa_ G ?_);cases y:bU_ s user id != 0 with
 | true=>rfl
 | false =>
  obtain⟨D,_,hi⟩:=gC_ y;obtain rfl:=F D;refine ab_ rfl (aa_ (gA_ _ (cj_ f id)).1 ?_);cases x:al_ (ak_ s id).Xv 31 with
  | true=>rfl
  | false =>
   refine ab_ rfl ?_;cases q:decide (offset<0)with
   | true=>rfl
   | false =>
    refine ab_ rfl ?_;cases h:data==[]with
    | true=>rfl
    | false =>
     refine ab_ rfl (aa_ (a:=bif al_ (ak_ s id).Xv 30 then((ak_ s id).Xd.length:Int)else offset) (aa_ (gA_ _ (cj_ f id)).2.1 (by cases al_ (ak_ s id).Xv 30<;>rfl)) ?_);simp only[qw];generalize C:(bif al_ (ak_ s id).Xv 30 then((ak_ s id).Xd.length:Int)else offset)=o;cases u:decide (o>65536)||decide ((data.length:Int)>w64 (65536-o))with
     | true=>rfl
     | false =>
      refine ab_ rfl (aa_ (grows_eq z _ _) ?_);cases hV_ s (ak_ s id) (w64 (o+(data.length:Int)))with
      | false=>rfl
      | true =>
       obtain⟨m,M,J⟩:=write_ok (now:=av_ now) (user:=user) hi x (by simpa using q) h C.symm u;refine ab_ rfl (aa_ rfl (aa_ (yp_ s.Xg id o data user (av_ now) f.tr (by omega) j) ?_));simp only[m];rfl
def dT_(s:Xj)(user:Str)(id now:Int):Xj×Int:=bif bU_ s user id != 0 then(s,bU_ s user id)else bif !(ed_ s user (ak_ s id))then(s,11)else bif(eo_ s.Xg id user (av_ now)).2 != 0 then(s,(eo_ s.Xg id user (av_ now)).2)else(putTE s (eo_ s.Xg id user (av_ now)).1 (cQ_ s.Xa id),0)
theorem remove_eq{s:Xj}(f:FileOK s)(z:SizeOK s)(user:Str)(id now:Int)(h:user.length<=9223372036854775807):f2_ s user id now=some (dT_ s user id now):=by
 obtain⟨n,q,p⟩:=pZ_ z user id h;unfold f2_ dT_;refine aa_ (ls_ s z) (aa_ q ?_);cases j:bU_ s user id != 0 with
 | true=>rfl
 | false =>
  obtain⟨m,_,hi⟩:=gC_ j;obtain rfl:=p m;refine ab_ rfl (aa_ (t7_ f z user _) ?_);cases ed_ s user (ak_ s id)with
  | false=>rfl
  | true =>
   refine ab_ rfl (aa_ rfl (aa_ (wN_ s.Xg id user (av_ now) f.tr) ?_));cases(eo_ s.Xg id user (av_ now)).2 != 0 with
   | true=>rfl
   | false=>exact ab_ rfl (aa_ (sl_ _ id f.srt (by have:=z.el;show s.Xa.length<=1000;omega)) rfl)
def mv_(s:Xj)(user:Str)(id mode now:Int):Xj:=bif al_ mode 6 then(dT_ (setX s (cQ_ s.Xa id)) user id now).1 else setX s (cQ_ s.Xa id)
theorem tu_(s:Xj)(user:Str)(id now:Int)(h:(dT_ s user id now).2≠0):(dT_ s user id now).1=s:=by
 revert h;unfold dT_;cases bU_ s user id != 0 with
 | true=>exact λ_=>rfl
 | false =>
  cases ed_ s user (ak_ s id)with
  | false=>exact λ_=>rfl
  | true =>
   cases(eo_ s.Xg id user (av_ now)).2 != 0 with
   | true=>exact λ_=>rfl
   | false=>exact λh=>absurd rfl h
theorem out_ok{s:Xj}(f:FileOK s)(x:Int):FileOK (setX s (cQ_ s.Xa x)):=⟨f.us,f.qs,f.tr,l5_ f.srt,λy h=>f.exc y (mem_outX.1 h).1⟩
theorem out_size{s:Xj}(z:SizeOK s)(x:Int):SizeOK (setX s (cQ_ s.Xa x)):=⟨z.ul,z.um,z.us,z.ql,z.qs,z.nl,qk (of_ _ _) z.el⟩
theorem close_eq{s:Xj}(f:FileOK s)(z:SizeOK s)(user:Str)(id mode now:Int)(h:user.length<=9223372036854775807)(hm:mode<=9223372036854775807):jg_ s user id mode now=some (mv_ s user id mode now):=by
 unfold jg_ mv_;refine aa_ (ls_ s z) (aa_ (sl_ _ id f.srt (by have:=z.el;omega)) ?_);rw[(gA_ _ hm).2.2.2];simp only[qBs];cases al_ mode 6 with
 | false=>rfl
 | true =>
  rw[remove_eq (out_ok f id) (out_size z id) user id now h];cases hr:(dT_ (setX s (cQ_ s.Xa id)) user id now).2==0 with
  | true=>simp[hr]
  | false =>
   rw[tu_ _ _ _ _ (by simpa using hr)];simp[hr]
def l6_(m:Yb):Bool:=decide (-1<=m.n_)&&decide (m.n_<=m.Zp)
def p1_(x:Yf):List Yb:=[(Yb.mk x.Yt 2 65534),(Yb.mk x.Zy 4 4294967294),(Yb.mk x.Ya.Yt 1 232),(Yb.mk x.Ya.Xs 4 2147483647),(Yb.mk x.Ya.Zj 8 1099511627776),(Yb.mk x.Xv 4 3892314623),(Yb.mk x.Yj 8 1099511627776),(Yb.mk x.Xl 8 1099511627776),(Yb.mk x.Xt 8 9007199254740991)]
theorem numbers_eq(x:Yf):n5_ x=some (p1_ x):=rfl
theorem check_loop(ns:List Yb)(h:ns.length<=1000):am_ (fb_ ns) BIG (0,ns)=some (if ns.all l6_ then .fall ()else .ret 5):=by
 refine fE_ (body:=fb_ ns) (J:=λi s b=>s=((i:Int),ns)/\b=if(ns.drop i).all l6_ then .fall ()else .ret 5) ns.length (bz_ (by omega)) (λs b f => ?_) (λi s b hi f => ?_) ⟨rfl,by simp⟩
 .obtain⟨rfl,rfl⟩:=f;unfold fb_;simp only;rw[bC_];simp
 .obtain⟨rfl,rfl⟩:=f;have j:fb_ ns ((i:Int),ns)=bif l6_ ns[i]then some (.next (((i+1:Nat):Int),ns))else some (.done (.ret 5)):=by
   unfold fb_;simp only;rw[bm_ hi,au_ hi,aw_ (by omega)];generalize ns[i]=m;simp only[qn,qBs];have e:l6_ m = !(decide (m.n_ < -1)||decide (m.n_>m.Zp)):=by
    unfold l6_;rw[qK];simp only[qAn,qDe,qL,qh,qDf];omega
   rw[e];cases decide (m.n_ < -1)<;>cases decide (m.n_>m.Zp)<;>rfl
  rw[j,zV hi,jY];cases p:l6_ ns[i]with
  | true=>exact .inr ⟨_,rfl,rfl,by simp⟩
  | false=>exact .inl (by simp)
def f8_(x m:Int):Bool:=(x == -1)||(decide (x>=0)&&(bF_ .i64 x m==x))
def okIn(x m:Int):Bool:=(x == -1)||(decide (x>=0)&&decide (x<=m))
theorem vt_(x:Int)(m:Nat)(hm:m<2^63)(h:x<=9223372036854775807):iT_ x (m:Int)=some (f8_ x (m:Int)):=by
 unfold iT_ f8_;by_cases j:0<=x
 .obtain⟨n,rfl⟩:∃n:Nat,x=(n:Int):=⟨x.toNat,by omega⟩;rw[tn_ (by omega) hm]
 .have f:decide (x>=0)=false:=by simp;omega
  rw[f];simp
theorem bits_in(x:Int)(m:Nat)(hm:m<2^63)(j:x<=9223372036854775807)(h:f8_ x (m:Int)=true):okIn x (m:Int)=true:=by
 unfold f8_ at h;unfold okIn;by_cases f:0<=x
 .obtain⟨n,rfl⟩:∃n:Nat,x=(n:Int):=⟨x.toNat,by omega⟩;rw[li_ (by omega) hm]at h;simp only[qP,qAn,qG,qDe]at h ⊢;rcases h with h|⟨_,h⟩
  .exact .inl h
  .have:n&&&m=n:=by omega
   have:=and_le this;exact .inr ⟨f,by omega⟩
 .simp only[qP,qAn,qG,qDe]at h ⊢;rcases h with h|⟨h,_⟩
  .exact .inl h
  .omega
theorem okNum_in(n w m:Int):l6_ ⟨n,w,m⟩=okIn n m\/m < -1:=by
 by_cases hm:m < -1
 .exact .inr hm
 .refine .inl ?_;unfold l6_ okIn;rw[qK];simp only[qP,qAn,qG,qDe];omega
def mw_(x:Yf):Bool:=okIn x.Yt 65534&&okIn x.Zy 4294967294&&f8_ x.Ya.Yt 232&&okIn x.Ya.Xs 2147483647&&okIn x.Ya.Zj 1099511627776&&f8_ x.Xv 3892314623&&okIn x.Yj 1099511627776&&okIn x.Xl 1099511627776&&okIn x.Xt 9007199254740991
def okTexts(x:Yf):Bool:=(x.Xh==[]||x.Xh==[47]||bs_ x.Xh)&&decide (x.Yg.length<=64)&&decide (x.Yq.length<=64)&&decide (x.Ym.length<=64)
def f9_(x:Yf):Int:=if mw_ x then(if okTexts x then 0 else 6)else 5
theorem numList_ok(x:Yf)(h:x.Ya.Yt<=9223372036854775807)(f:x.Xv<=9223372036854775807):((p1_ x).all l6_&&f8_ x.Ya.Yt 232&&f8_ x.Xv 3892314623)=mw_ x:=by
 have e:=λn w m (hm:¬m < -1)=>(okNum_in n w m).resolve_right hm
 have p:=bits_in x.Ya.Yt 232 (by omega) h;have j:=bits_in x.Xv 3892314623 (by omega) f;unfold mw_ p1_;simp only[jY,List.all_nil,e _ _ _ (show ¬(65534:Int) < -1 by omega),e _ _ _ (show ¬(4294967294:Int) < -1 by omega),e _ _ _ (show ¬(232:Int) < -1 by omega),e _ _ _ (show ¬(2147483647:Int) < -1 by omega),e _ _ _ (show ¬(1099511627776:Int) < -1 by omega),e _ _ _ (show ¬(3892314623:Int) < -1 by omega),e _ _ _ (show ¬(9007199254740991:Int) < -1 by omega)];simp only[jL]at p j;cases s:f8_ x.Ya.Yt 232<;>cases q:f8_ x.Xv 3892314623<;>simp_all [Bool.and_assoc]
theorem yr_(x:Yf)(m:x.Ya.Yt<=9223372036854775807)(f:x.Xv<=9223372036854775807)(p:x.Xh.length<=9223372036854775807):nf_ x=some (f9_ x):=by
 have q:=numList_ok x m f;have j:=vt_ x.Ya.Yt 232 (by omega) m;have h:=vt_ x.Xv 3892314623 (by omega) f;simp only[jL]at j h;unfold nf_ f9_;rw[numbers_eq];simp only[qBs];rw[check_loop (p1_ x) (show(9:Nat)<=1000 by decide)];simp only[qBs];rw[←q];cases s:(p1_ x).all l6_ with
 | false=>simp
 | true =>
  simp only[jB];rw[j,h,im_ _ p];simp only[qBs];have em:decide (bN_ (bN_ (x.Yg.length:Int) (x.Yq.length:Int)) (x.Ym.length:Int)>64) = !(decide (x.Yg.length<=64)&&decide (x.Yq.length<=64)&&decide (x.Ym.length<=64)):=by
   rw[qK];simp only[qL,zu,qDe,qDf];unfold bN_;split<;>split<;>omega
  rw[em];unfold okTexts;cases f8_ x.Ya.Yt 232<;>cases f8_ x.Xv 3892314623<;>cases(x.Xh==[])<;>cases(x.Xh==[47])<;>cases bs_ x.Xh<;>cases decide (x.Yg.length<=64)<;>cases decide (x.Yq.length<=64)<;>cases decide (x.Ym.length<=64)<;>simp
theorem lenD_eq{n:Xq}(h:aY_ n=true)(hm:n.Xv<=9223372036854775807):f3_ n=some (n.Xd.length:Int):=by
 unfold f3_;refine aa_ (gA_ _ hm).1 ?_;cases f:al_ n.Xv 31 with
 | true=>rw[okNode_dir h f];rfl
 | false=>rfl
def dx_(s:Xj)(user:Str)(n:Xq)(name:Str):Int:=bif name==[]||name==n.Xh then 0 else bif n.Id_==1 then 11 else bif !(bs_ name)then 6 else bif !(ed_ s user n)then 11 else bif(gz_ s.Xg.Xz n.Xy name).2==0 then 7 else 0
def dy_(s:Xj)(user:Str)(n:Xq)(size:Int):Int:=bif size == -1||size==(n.Xd.length:Int)then 0 else bif al_ n.Xv 31 then 10 else bif !(mayS s user n 2)then 11 else bif decide (size>65536)then 4 else bif !(hV_ s n size)then 21 else 0
def ownsS(s:Xj)(user:Str)(n:Xq):Bool:=user==n.Yg||gP_ s.Yz user n.Yq
def oU_(s:Xj)(user:Str)(n:Xq)(gid:Str):Int:=bif(gid==[]||gid==n.Yq)||(user==n.Yg&&dS_ s.Yz user gid)then 0 else bif gP_ s.Yz user n.Yq&&gP_ s.Yz user gid then 0 else 26
def setsS(s:Xj)(user:Str)(n:Xq)(d:Yf):Int:=bif d.Xv != -1 && !(ownsS s user n)then 11 else bif d.Xv != -1 && !(al_ d.Xv 31==al_ n.Xv 31)then 27 else bif d.Xv != -1 && !(aD_ d.Xv)then 1 else bif d.Xl != -1 && !(ownsS s user n)then 11 else oU_ s user n d.Yq
def mx_(d:Yf):Bool:=((((d.Yt != -1||d.Zy != -1) || !decide (d.Ya=Zm.mk (-1) (-1) (-1)))||d.Yj != -1) || !(d.Yg==[])) || !(d.Ym==[])
def jG_(s:Xj)(user:Str)(n:Xq)(d:Yf):Int:=bif f9_ d != 0 then f9_ d else bif mx_ d then 27 else bif dx_ s user n d.Xh != 0 then dx_ s user n d.Xh else bif dy_ s user n d.Xt != 0 then dy_ s user n d.Xt else setsS s user n d
def dz_(s:Xj)(user:Str)(id:Int)(d:Yf):Int:=bif bU_ s user id != 0 then bU_ s user id else jG_ s user (ak_ s id) d
def DirB(d:Yf):Prop:=d.Ya.Yt<=9223372036854775807/\d.Xv<=9223372036854775807/\d.Xh.length<=9223372036854775807
theorem vv_{s:Xj}(f:FileOK s)(z:SizeOK s)(user:Str)(n:Xq)(name:Str)(h:name.length<=9223372036854775807):hp_ s user n name=some (dx_ s user n name)/\jk_ s user n name=some (dx_ s user n name):=by
 unfold hp_ jk_ dx_;cases j:name==[]||name==n.Xh with
 | true=>exact⟨rfl,rfl⟩
 | false =>
  rw[ob_ _ _ _ f.tr,jr_ _ _ _ f.tr,im_ _ h,g2_ _ h,t7_ f z,kL_ f z];simp only[qw,qBs];unfold ed_ bne;cases n.Id_==1<;>cases bs_ name<;>cases isS s n.Xy<;>cases mayS s user (ak_ s n.Xy) 2<;>cases(gz_ s.Xg.Xz n.Xy name).2==0<;>exact⟨rfl,rfl⟩
theorem vw_{s:Xj}(f:FileOK s)(z:SizeOK s)(user:Str){id:Int}(hi:isS s id=true)(size:Int):hq_ s user (ak_ s id) size=some (dy_ s user (ak_ s id) size)/\jl_ s user (ak_ s id) size=some (dy_ s user (ak_ s id) size):=by
 have hm:=cj_ f id;unfold hq_ jl_ dy_;rw[lenD_eq (f.tr.flds _ (t4_ hi)) hm,(gA_ _ hm).1,(fM_ _ hm).1,may_eq z user hm,s1_ hi,kL_ f z,hi,grows_eq z,sp_ z];simp only[qBs,zY];cases size == -1<;>cases size==((ak_ s id).Xd.length:Int)<;>cases al_ (ak_ s id).Xv 31<;>cases mayS s user (ak_ s id) 2<;>cases decide (size>65536)<;>cases hV_ s (ak_ s id) size<;>exact⟨rfl,rfl⟩
theorem regroups_eq{s:Xj}(z:SizeOK s)(user:Str)(n:Xq)(gid:Str):gv_ s user n gid=some (oU_ s user n gid):=by
 unfold gv_ oU_;rw[mO_ _ _ _ z.ul z.um,mO_ _ _ _ z.ul z.um,in_ _ _ _ z.ul z.um];simp only[qBs];cases user==n.Yg<;>cases gP_ s.Yz user n.Yq<;>cases gid==[]<;>cases gid==n.Yq<;>cases dS_ s.Yz user gid<;>cases gP_ s.Yz user gid<;>rfl
theorem changes_eq{s:Xj}(f:FileOK s)(z:SizeOK s)(user:Str){id:Int}(hi:isS s id=true)(d:Yf)(h:DirB d):hr_ s user (ak_ s id) d=some (jG_ s user (ak_ s id) d):=by
 have hm:=cj_ f id;unfold hr_ jG_;refine aa_ (yr_ d h.1 h.2.1 h.2.2) ?_;cases f9_ d != 0 with
 | true=>rfl
 | false =>
  refine ab_ rfl (aa_ rfl ?_);show(bif mx_ d then _ else _)=some (bif mx_ d then _ else _);cases mx_ d with
  | true=>rfl
  | false =>
   refine ab_ rfl (aa_ (vv_ f z user _ _ h.2.2).1 ?_);show(bif dx_ s user (ak_ s id) d.Xh != 0 then _ else _)=some (bif dx_ s user (ak_ s id) d.Xh != 0 then _ else _);cases dx_ s user (ak_ s id) d.Xh != 0 with
   | true=>rfl
   | false =>
    refine ab_ rfl (aa_ (vw_ f z user hi _).1 ?_);show(bif dy_ s user (ak_ s id) d.Xt != 0 then _ else _)=some (bif dy_ s user (ak_ s id) d.Xt != 0 then _ else _);cases dy_ s user (ak_ s id) d.Xt != 0 with
    | true=>rfl
    | false =>
     rw[mO_ _ _ _ z.ul z.um,(gA_ _ hm).1,(gA_ _ h.2.1).1,sk_ _ h.2.1,regroups_eq z];unfold setsS;simp only[qBs,qw];unfold ownsS;cases user==(ak_ s id).Yg<;>cases gP_ s.Yz user (ak_ s id).Yq<;>cases d.Xv != -1<;>cases al_ d.Xv 31==al_ (ak_ s id).Xv 31<;>cases aD_ d.Xv<;>cases d.Xl != -1<;>rfl
theorem jY_{l:List Xq}(p:l.Pairwise λa b=>a.Id_<b.Id_)(m:Xq){x:Int}(h:(ai_ l x).2=true):ai_ (aN_ l m) x=(bif x==m.Id_ then m else(ai_ l x).1,true):=by
 obtain⟨q,j⟩:=aH_ h;have:=cc_ (gB_ p m) (og_ (n:=m) q);rw[j]at this;cases f:x==m.Id_ with
 | true =>
  rw[f]at this;simp only[qn]at this;rw[show m.Id_=x from(qG.1 f).symm]at this;exact this
 | false =>
  rw[f]at this;simp only[qw]at this;rw[j]at this;exact this
theorem rename_keep{t:Xk}(h:OkT t.Xz t.Xn){id:Int}(hi:(ai_ t.Xz id).2=true)(name uid:Str)(now:Int):Keep t (eT_ t id name uid now).1 id:=by
 rcases sn_ (id:=id) (name:=name) (uid:=uid) (now:=now) h with⟨e,f⟩|⟨p,C,_,_,_,y,f,q⟩
 .rw[f];exact⟨h,hi,rfl⟩
 .obtain⟨D,s⟩:=aH_ hi;have s1:=gB_ h.srt (bQ_ (ai_ t.Xz id).1 name);have m:=jY_ h.srt (bQ_ (ai_ t.Xz id).1 name) hi;have j:=jY_ s1 (aU_ p uid now) (by rw[m]:(ai_ (aN_ t.Xz (bQ_ (ai_ t.Xz id).1 name)) id).2=true);have x:(id==(aU_ p uid now).Id_)=false:=by
   have:(aU_ p uid now).Id_=p.Id_:=rfl;rw[this];simp;omega
  have u:(id==(bQ_ (ai_ t.Xz id).1 name).Id_)=true:=by
   have:(bQ_ (ai_ t.Xz id).1 name).Id_=(ai_ t.Xz id).1.Id_:=rfl;rw[this,s];simp
  rw[x,m,u]at j;rw[f];exact⟨q,by rw[j],by rw[j];rfl⟩
theorem resize_keep{t:Xk}(h:OkT t.Xz t.Xn){id:Int}(hi:(ai_ t.Xz id).2=true)(size:Int)(uid:Str)(now:Int):Keep t (cR_ t id size uid now).1 id:=by
 rcases sm_ (id:=id) (size:=size) (uid:=uid) (now:=now) h with⟨e,f⟩|⟨s,_,f,_,m⟩
 .rw[f];exact⟨h,hi,rfl⟩
 .obtain⟨u,p⟩:=aH_ hi;have j:=jY_ h.srt (aU_ (putD (ai_ t.Xz id).1 (fitS (ai_ t.Xz id).1.Xd size.toNat)) uid now) hi;have q:(id==(aU_ (putD (ai_ t.Xz id).1 (fitS (ai_ t.Xz id).1.Xd size.toNat)) uid now).Id_)=true:=by
   have:(aU_ (putD (ai_ t.Xz id).1 (fitS (ai_ t.Xz id).1.Xd size.toNat)) uid now).Id_=(ai_ t.Xz id).1.Id_:=rfl;rw[this,p];simp
  rw[q]at j;rw[f];exact⟨m,by rw[j],by rw[j];rfl⟩
theorem Keep.refl{t:Xk}(h:OkT t.Xz t.Xn){id:Int}(hi:(ai_ t.Xz id).2=true):Keep t t id:=⟨h,hi,rfl⟩
def bR_(t:Xk)(user:Str)(id:Int)(n:Xq)(d:Yf)(now:Int):Xk:=bif !(d.Xh==[]) && !(d.Xh==n.Xh)then(eT_ t id d.Xh user (av_ now)).1 else t
def ce_(t:Xk)(user:Str)(id:Int)(n:Xq)(d:Yf)(now:Int):Xk:=bif d.Xt != -1&&d.Xt != (n.Xd.length:Int)then(cR_ t id d.Xt user (av_ now)).1 else t
def ga_(n:Xq)(d:Yf):Str:=bif d.Yq==n.Yq then[]else d.Yq
def cz_(t:Xk)(id:Int)(n:Xq)(d:Yf):Xk:=bif(d.Xv != -1||d.Xl != -1) || !(ga_ n d==[])then(hU_ t id d.Xv (ga_ n d) d.Xl).1 else t
def hW_(l:List Int)(id:Int)(d:Yf):List Int:=bif d.Xv != -1 && !(al_ d.Xv 29)then cQ_ l id else l
def hX_(s:Xj)(user:Str)(id:Int)(d:Yf)(now:Int):Xj×Int:=bif dz_ s user id d != 0 then(s,dz_ s user id d)else(putTE s (cz_ (ce_ (bR_ s.Xg user id (ak_ s id) d now) user id (ak_ s id) d now) id (ak_ s id) d) (hW_ s.Xa id d),0)
theorem stepA_keep{t:Xk}(h:OkT t.Xz t.Xn){id:Int}(hi:(ai_ t.Xz id).2=true)(user:Str)(n:Xq)(d:Yf)(now:Int):Keep t (bR_ t user id n d now) id:=by
 unfold bR_;cases !(d.Xh==[]) && !(d.Xh==n.Xh)with
 | true=>exact rename_keep h hi _ _ _
 | false=>exact Keep.refl h hi
theorem stepB_keep{t:Xk}(h:OkT t.Xz t.Xn){id:Int}(hi:(ai_ t.Xz id).2=true)(user:Str)(n:Xq)(d:Yf)(now:Int):Keep t (ce_ t user id n d now) id:=by
 unfold ce_;cases d.Xt != -1&&d.Xt != (n.Xd.length:Int)with
 | true=>exact resize_keep h hi _ _ _
 | false=>exact Keep.refl h hi
theorem ro_{s:Xj}{user:Str}{id:Int}{d:Yf}(h:(dz_ s user id d != 0)=false):(bU_ s user id != 0)=false/\f9_ d=0/\dx_ s user (ak_ s id) d.Xh=0/\dy_ s user (ak_ s id) d.Xt=0/\setsS s user (ak_ s id) d=0:=by
 have f:dz_ s user id d=0:=by simpa using h
 unfold dz_ at f;cases q:bU_ s user id != 0 with
 | true=>rw[q]at f;rw[show bU_ s user id=0 from f]at q;cases q
 | false =>
  rw[q]at f
  replace f:jG_ s user (ak_ s id) d=0:=f;unfold jG_ at f;cases p:f9_ d != 0 with
  | true=>rw[p]at f;rw[show f9_ d=0 from f]at p;cases p
  | false =>
   rw[p]at f;cases u:mx_ d with
   | true=>rw[u]at f;cases f
   | false =>
    rw[u]at f;cases m:dx_ s user (ak_ s id) d.Xh != 0 with
    | true=>rw[m]at f;rw[show dx_ s user (ak_ s id) d.Xh=0 from f]at m;cases m
    | false =>
     rw[m]at f;cases j:dy_ s user (ak_ s id) d.Xt != 0 with
     | true=>rw[j]at f;rw[show dy_ s user (ak_ s id) d.Xt=0 from f]at j;cases j
     | false =>
      rw[j]at f;exact⟨rfl,by simpa using p,by simpa using m,by simpa using j,f⟩
theorem setsS_mode{s:Xj}{user:Str}{n:Xq}{d:Yf}(h:setsS s user n d=0)(hm:(d.Xv != -1)=true):aD_ d.Xv=true/\al_ d.Xv 31=al_ n.Xv 31:=by
 unfold setsS at h;rw[hm]at h;cases j:ownsS s user n with
 | false=>rw[j]at h;cases h
 | true =>
  rw[j]at h;cases f:al_ d.Xv 31==al_ n.Xv 31 with
  | false=>rw[f]at h;cases h
  | true =>
   rw[f]at h;cases m:aD_ d.Xv with
   | false=>rw[m]at h;cases h
   | true=>exact⟨rfl,by simpa using f⟩
theorem checkR_mtime{d:Yf}(h:f9_ d=0):d.Xl = -1\/0<=d.Xl/\d.Xl<=1099511627776:=by
 unfold f9_ at h;cases f:mw_ d with
 | false=>rw[f]at h;cases h
 | true =>
  unfold mw_ okIn at f;simp only[qAn,qP,qG,qDe]at f;exact f.1.2
theorem stepC_mode{t:Xk}(h:OkT t.Xz t.Xn){id:Int}(hi:(ai_ t.Xz id).2=true){n:Xq}{d:Yf}(p:n.Xv=(ai_ t.Xz id).1.Xv)(j:(d.Xv != -1)=true->aD_ d.Xv=true/\al_ d.Xv 31=al_ n.Xv 31)(f:d.Xl = -1\/0<=d.Xl/\d.Xl<=1099511627776) :
  OkT (cz_ t id n d).Xz (cz_ t id n d).Xn/\(ai_ (cz_ t id n d).Xz id).2=true/\(ai_ (cz_ t id n d).Xz id).1.Xv=bif d.Xv != -1 then d.Xv else n.Xv:=by
 obtain⟨s,y⟩:=aH_ hi;unfold cz_;cases q:(d.Xv != -1||d.Xl != -1) || !(ga_ n d==[])with
 | false =>
  simp only[qh]at q;rw[q.1.1];exact⟨h,hi,p.symm⟩
 | true =>
  have u:hU_ t id d.Xv (ga_ n d) d.Xl=(Xk.mk t.Xn (aN_ t.Xz (e5_ (ai_ t.Xz id).1 d.Xv (ga_ n d) d.Xl)),0):=by
   unfold hU_;rw[hi];have G:((d.Xv != -1)&&(!(aD_ d.Xv) || !(al_ d.Xv 31==al_ (ai_ t.Xz id).1.Xv 31)))=false:=by
    cases hm:d.Xv != -1 with
    | false=>rfl
    | true =>
     obtain⟨a,b⟩:=j hm;rw[p]at b;rw[a,b];simp
   have F:((d.Xl != -1)&&(decide (d.Xl<0)||decide (d.Xl>1099511627776)))=false:=by
    rcases f with e|⟨D,m⟩
    .rw[e];rfl
    .rw[show decide (d.Xl<0)=false by simpa using D,show decide (d.Xl>1099511627776)=false by simpa using m];simp
   rw[G,F];rfl
  have x:OkT (aN_ t.Xz (e5_ (ai_ t.Xz id).1 d.Xv (ga_ n d) d.Xl)) t.Xn:=by
   obtain⟨a,b⟩:=attrN_ok (h.flds _ s) (mode:=d.Xv) (gid:=ga_ n d) (mtime:=d.Xl) (by
    cases hm:d.Xv != -1 with
    | false=>exact .inl (by simpa using hm)
    | true=>obtain⟨a,b⟩:=j hm;exact .inr ⟨a,by rw[b,p]⟩) f
   exact h.upd s rfl rfl a b (.inl rfl)
  rw[qn,u];have m:=jY_ h.srt (e5_ (ai_ t.Xz id).1 d.Xv (ga_ n d) d.Xl) hi;have C:(id==(e5_ (ai_ t.Xz id).1 d.Xv (ga_ n d) d.Xl).Id_)=true:=by
   have:(e5_ (ai_ t.Xz id).1 d.Xv (ga_ n d) d.Xl).Id_=(ai_ t.Xz id).1.Id_:=rfl;rw[this,y];simp
  rw[C]at m;refine⟨x,by rw[m],?_⟩;rw[m];show(bif d.Xv != -1 then d.Xv else(ai_ t.Xz id).1.Xv)=_;rw[←p]
theorem po_{s:Xj}(f:FileOK s){user:Str}{id:Int}{d:Yf}(now:Int)(h:(dz_ s user id d != 0)=false) :
  isS s id=true/\Keep s.Xg (bR_ s.Xg user id (ak_ s id) d now) id/\Keep s.Xg (ce_ (bR_ s.Xg user id (ak_ s id) d now) user id (ak_ s id) d now) id /\
  OkT (cz_ (ce_ (bR_ s.Xg user id (ak_ s id) d now) user id (ak_ s id) d now) id (ak_ s id) d).Xz (cz_ (ce_ (bR_ s.Xg user id (ak_ s id) d now) user id (ak_ s id) d now) id (ak_ s id) d).Xn /\
  (ai_ (cz_ (ce_ (bR_ s.Xg user id (ak_ s id) d now) user id (ak_ s id) d now) id (ak_ s id) d).Xz id).2=true /\
  (ai_ (cz_ (ce_ (bR_ s.Xg user id (ak_ s id) d now) user id (ak_ s id) d now) id (ak_ s id) d).Xz id).1.Xv=bif d.Xv != -1 then d.Xv else(ak_ s id).Xv:=by
 obtain⟨p,m,u,q,j⟩:=ro_ h;obtain⟨_,_,hi⟩:=gC_ p;have kA:=stepA_keep f.tr hi user (ak_ s id) d now;have kB:=kA.trans (stepB_keep kA.ok kA.is user (ak_ s id) d now);exact⟨hi,kA,kB,stepC_mode kB.ok kB.is kB.mode.symm (λhm=>setsS_mode j hm) (checkR_mtime m)⟩
theorem wstat_eq{s:Xj}(f:FileOK s)(z:SizeOK s)(user:Str)(id:Int)(d:Yf)(now:Int)(q:user.length<=9223372036854775807)(h:DirB d):jh_ s user id d now=some (hX_ s user id d now):=by
 obtain⟨n,x,p⟩:=pZ_ z user id q;unfold jh_ hX_;refine aa_ (ls_ s z) (aa_ x (aa_ (a:=dz_ s user id d) ?_ ?_))
 .unfold dz_ bne;cases u:bU_ s user id==0 with
  | false=>rfl
  | true =>
   have m:bU_ s user id=0:=by simpa using u
   obtain rfl:=p m;exact af_ rfl (aa_ (changes_eq f z user (gC_ (by rw[m];rfl)).2.2 d h) rfl)
 .cases j:dz_ s user id d != 0 with
  | true=>rfl
  | false =>
   obtain⟨hi,kA,kB,kC,_⟩:=po_ f now j;obtain rfl:=p (gC_ (ro_ j).1).1;refine ab_ rfl (aa_ (a:=((bR_ s.Xg user id (ak_ s id) d now).Xn,s.Yz,s.Yx,(bR_ s.Xg user id (ak_ s id) d now).Xz,s.Xa)) ?_ (aa_ (a:=((ce_ (bR_ s.Xg user id (ak_ s id) d now) user id (ak_ s id) d now).Xn,s.Yz,s.Yx,(ce_ (bR_ s.Xg user id (ak_ s id) d now) user id (ak_ s id) d now).Xz,s.Xa)) ?_ (aa_ (a:=ga_ (ak_ s id) d) ?_ (aa_ (a:=((cz_ (ce_ (bR_ s.Xg user id (ak_ s id) d now) user id (ak_ s id) d now) id (ak_ s id) d).Xn,s.Yz,s.Yx,(cz_ (ce_ (bR_ s.Xg user id (ak_ s id) d now) user id (ak_ s id) d now) id (ak_ s id) d).Xz,s.Xa)) ?_ (aa_ (a:=(s.Yz,s.Yx,(cz_ (ce_ (bR_ s.Xg user id (ak_ s id) d now) user id (ak_ s id) d now) id (ak_ s id) d).Xn,(cz_ (ce_ (bR_ s.Xg user id (ak_ s id) d now) user id (ak_ s id) d now) id (ak_ s id) d).Xz,hW_ s.Xa id d)) ?_ rfl)))))
   .unfold bR_;cases !(d.Xh==[]) && !(d.Xh==(ak_ s id).Xh)with
    | true=>exact af_ rfl (aa_ rfl (aa_ (wO_ s.Xg id d.Xh user (av_ now) f.tr h.2.2) rfl))
    | false=>rfl
   .refine aa_ (a:=d.Xt != -1&&d.Xt != ((ak_ s id).Xd.length:Int)) ?_ ?_
    .rw[lenD_eq (f.tr.flds _ (t4_ hi)) (cj_ f id)];cases d.Xt != -1<;>rfl
    .generalize D:bR_ s.Xg user id (ak_ s id) d now=tA at kA;unfold ce_;cases d.Xt != -1&&d.Xt != ((ak_ s id).Xd.length:Int)with
     | true=>exact af_ rfl (aa_ rfl (aa_ (p0_ tA id d.Xt user (av_ now) kA.ok) rfl))
     | false=>rfl
   .unfold ga_;cases d.Yq==(ak_ s id).Yq<;>rfl
   .generalize C:ce_ (bR_ s.Xg user id (ak_ s id) d now) user id (ak_ s id) d now=tB at kB;unfold cz_;cases(d.Xv != -1||d.Xl != -1) || !(ga_ (ak_ s id) d==[])with
    | true=>exact af_ rfl (aa_ (yq_ tB id d.Xv _ d.Xl kB.ok h.2.1) rfl)
    | false=>rfl
   .generalize y:cz_ (ce_ (bR_ s.Xg user id (ak_ s id) d now) user id (ak_ s id) d now) id (ak_ s id) d=tC;unfold hW_;rw[(gA_ _ h.2.1).2.2.1];refine aa_ (a:=d.Xv != -1 && !(al_ d.Xv 29)) (by cases d.Xv != -1<;>rfl) ?_;cases d.Xv != -1 && !(al_ d.Xv 29)with
    | true=>exact af_ rfl (aa_ (sl_ _ id f.srt (by have:=z.el;show s.Xa.length<=1000;omega)) rfl)
    | false=>rfl
theorem Sm.refl(l:List Xq):Sm l l:=λ_ h=>⟨h,rfl⟩
theorem Sm.upd{l:List Xq}(h:l.Pairwise λa b=>a.Id_<b.Id_){m:Xq}(hm:m.Xv=(ai_ l m.Id_).1.Xv):Sm l (aN_ l m):=λx f=>by
 rw[jY_ h m f];refine⟨rfl,?_⟩;cases j:x==m.Id_ with
 | true=>rw[qG.1 j];exact hm
 | false=>rfl
theorem Sm.touch{l:List Xq}(f:l.Pairwise λa b=>a.Id_<b.Id_){p:Xq}(h:p∈l)(uid:Str)(now:Int):Sm l (aN_ l (aU_ p uid now)) :=
 Sm.upd f (by show p.Xv=(ai_ l p.Id_).1.Xv;rw[cc_ f h])
theorem Sm.app{l h:List Xq}:Sm l (l++h):=λx f=>by
 have:ai_ (l++h) x=ai_ l x:=by
  unfold ai_ at f ⊢;rw[List.find?_append];cases j:l.find? (eK_ x)with
  | none=>rw[j]at f;cases f
  | some y=>rfl
 rw[this];exact⟨f,rfl⟩
theorem out_find{l:List Xq}(m:l.Pairwise λa b=>a.Id_<b.Id_){id x:Int}(h:(ai_ l x).2=true)(f:x≠id):ai_ (l.filter λn=>n.Id_ != id) x=ai_ l x:=by
 obtain⟨p,j⟩:=aH_ h;have hm:(ai_ l x).1∈l.filter λn=>n.Id_ != id:=zS.2 ⟨p,by rw[j];simpa using f⟩
 have:=cc_ (m.filter _) hm;rw[j]at this;rw[this];exact Prod.ext rfl h.symm
theorem resize_sm{t:Xk}(h:OkT t.Xz t.Xn)(id size:Int)(uid:Str)(now:Int):OkT (cR_ t id size uid now).1.Xz (cR_ t id size uid now).1.Xn/\Sm t.Xz (cR_ t id size uid now).1.Xz/\(cR_ t id size uid now).1.Xz.length=t.Xz.length:=by
 rcases sm_ (id:=id) (size:=size) (uid:=uid) (now:=now) h with⟨e,f⟩|⟨m,_,f,_,j⟩
 .rw[f];exact⟨h,Sm.refl _,rfl⟩
 .rw[f];refine⟨j,Sm.upd h.srt ?_,c9_ _ _⟩;show(ai_ t.Xz id).1.Xv=(ai_ t.Xz (ai_ t.Xz id).1.Id_).1.Xv;rw[cc_ h.srt (aH_ m).1]
theorem rename_sm{t:Xk}(h:OkT t.Xz t.Xn)(id:Int)(name uid:Str)(now:Int):OkT (eT_ t id name uid now).1.Xz (eT_ t id name uid now).1.Xn/\Sm t.Xz (eT_ t id name uid now).1.Xz/\(eT_ t id name uid now).1.Xz.length=t.Xz.length:=by
 rcases sn_ (id:=id) (name:=name) (uid:=uid) (now:=now) h with⟨e,j⟩|⟨p,s,_,m,_,u,j,q⟩
 .rw[j];exact⟨h,Sm.refl _,rfl⟩
 .rw[j];have s1:Sm t.Xz (aN_ t.Xz (bQ_ (ai_ t.Xz id).1 name)):=Sm.upd h.srt (by
   show(ai_ t.Xz id).1.Xv=(ai_ t.Xz (ai_ t.Xz id).1.Id_).1.Xv;rw[cc_ h.srt (aH_ s).1])
  refine⟨q,s1.trans (Sm.upd (gB_ h.srt _) ?_),by simp only[c9_]⟩;show p.Xv=(ai_ (aN_ t.Xz (bQ_ (ai_ t.Xz id).1 name)) p.Id_).1.Xv;have f:(ai_ t.Xz p.Id_).2=true:=by rw[cc_ h.srt m]
  rw[(s1 p.Id_ f).2,cc_ h.srt m]
theorem attrs_len{t:Xk}(h:OkT t.Xz t.Xn)(id mode:Int)(gid:Str)(mtime:Int):(hU_ t id mode gid mtime).1.Xz.length=t.Xz.length:=by
 rcases ts_ (id:=id) (mode:=mode) (gid:=gid) (mtime:=mtime) h with⟨e,f⟩|⟨_,f,_⟩
 .rw[f]
 .rw[f];exact c9_ _ _
theorem stepC_sm{t:Xk}(h:OkT t.Xz t.Xn)(id:Int)(n:Xq)(d:Yf):(cz_ t id n d).Xz.length=t.Xz.length/\∀x,x≠id->(ai_ t.Xz x).2=true->(ai_ (cz_ t id n d).Xz x).2=true/\(ai_ (cz_ t id n d).Xz x).1=(ai_ t.Xz x).1:=by
 unfold cz_;cases(d.Xv != -1||d.Xl != -1) || !(ga_ n d==[])with
 | false=>exact⟨rfl,λx _ f=>⟨f,rfl⟩⟩
 | true =>
  refine⟨attrs_len h _ _ _ _,λx j f => ?_⟩;simp only[qn];rcases ts_ (id:=id) (mode:=d.Xv) (gid:=ga_ n d) (mtime:=d.Xl) h with⟨e,m⟩|⟨hi,m,_⟩
  .rw[m];exact⟨f,rfl⟩
  .rw[m];show(ai_ (aN_ t.Xz _) x).2=true/\(ai_ (aN_ t.Xz _) x).1=_;rw[jY_ h.srt _ f];have:(x==(e5_ (ai_ t.Xz id).1 d.Xv (ga_ n d) d.Xl).Id_)=false:=by
    have e:(e5_ (ai_ t.Xz id).1 d.Xv (ga_ n d) d.Xl).Id_=(ai_ t.Xz id).1.Id_:=rfl;rw[e,(aH_ hi).2];simpa using j
   rw[this];exact⟨rfl,rfl⟩
theorem stepA_sm{t:Xk}(h:OkT t.Xz t.Xn)(user:Str)(id:Int)(n:Xq)(d:Yf)(now:Int):OkT (bR_ t user id n d now).Xz (bR_ t user id n d now).Xn/\Sm t.Xz (bR_ t user id n d now).Xz/\(bR_ t user id n d now).Xz.length=t.Xz.length:=by
 unfold bR_;cases !(d.Xh==[]) && !(d.Xh==n.Xh)with
 | true=>exact rename_sm h _ _ _ _
 | false=>exact⟨h,Sm.refl _,rfl⟩
theorem stepB_sm{t:Xk}(h:OkT t.Xz t.Xn)(user:Str)(id:Int)(n:Xq)(d:Yf)(now:Int):OkT (ce_ t user id n d now).Xz (ce_ t user id n d now).Xn/\Sm t.Xz (ce_ t user id n d now).Xz/\(ce_ t user id n d now).Xz.length=t.Xz.length:=by
 unfold ce_;cases d.Xt != -1&&d.Xt != (n.Xd.length:Int)with
 | true=>exact resize_sm h _ _ _ _
 | false=>exact⟨h,Sm.refl _,rfl⟩
theorem After.refl{s:Xj}(f:FileOK s):After s s:=⟨rfl,rfl,f.tr,f.srt,f.exc,jd _,jd _⟩
theorem oi_{s:Xj}(f:FileOK s){l:List Xq}(h:Sm s.Xg.Xz l){x:Int}(j:x∈s.Xa):(ai_ l x).2=true/\al_ (ai_ l x).1.Xv 29=true:=by
 obtain⟨p,m⟩:=f.exc x j;obtain⟨u,q⟩:=h x p;exact⟨u,by rw[q];exact m⟩
theorem open_after{s:Xj}(f:FileOK s)(user:Str)(id mode now:Int):After s (kM_ s user id mode now).1:=by
 unfold kM_;cases p:fr_ s user id mode != 0 with
 | true=>exact After.refl f
 | false =>
  obtain⟨u,_⟩:=pn_ p;obtain⟨_,_,hi⟩:=gC_ u;have q:∃t,(bif al_ mode 4 && !(al_ (ak_ s id).Xv 30)then(cR_ s.Xg id 0 user (av_ now)).1 else s.Xg)=t/\OkT t.Xz t.Xn/\Sm s.Xg.Xz t.Xz/\t.Xz.length=s.Xg.Xz.length:=by
   cases al_ mode 4 && !(al_ (ak_ s id).Xv 30)with
   | true=>exact⟨_,rfl,resize_sm f.tr _ _ _ _⟩
   | false=>exact⟨_,rfl,f.tr,Sm.refl _,rfl⟩
  obtain⟨t,e,m,t2,t3⟩:=q;simp only[qw,e];cases j:al_ (ak_ s id).Xv 29 with
  | true =>
   refine⟨rfl,rfl,m,tq_ f.srt,λx h => ?_,by show t.Xz.length<=_;omega,putX_len _ _⟩;rcases mem_putX.1 h with rfl|⟨h,_⟩
   .obtain⟨C,y⟩:=t2 x hi;exact⟨C,by show al_ (ai_ t.Xz x).1.Xv 29=true;rw[y];exact j⟩
   .exact oi_ f t2 h
  | false=>exact⟨rfl,rfl,m,f.srt,λx h=>oi_ f t2 h,by show t.Xz.length<=_;omega,jd _⟩
theorem create_after{s:Xj}(f:FileOK s)(user:Str)(id:Int)(name:Str)(perm mode now:Int):After s (lt_ s user id name perm mode now).1:=by
 unfold lt_;cases D:ex_ s user id name perm mode != 0 with
 | true=>exact After.refl f
 | false =>
  simp only[qw];rcases create_cases (dir:=id) (name:=name) (mode:=e1_ (ak_ s id).Xv perm) (uid:=user) (gid:=(ak_ s id).Yq) (now:=av_ now) f.tr with⟨e,y,h⟩|⟨h,C,_,_,q⟩
  .rw[h];have:(e != 0)=true:=by simpa using y
   simp only[this,qn];exact After.refl f
  .rw[h];have F:=gB_ f.tr.srt (aU_ (ak_ s id) user (av_ now));have p:Sm s.Xg.Xz (aN_ s.Xg.Xz (aU_ (ak_ s id) user (av_ now))++[newN s.Xg id name (e1_ (ak_ s id).Xv perm) user (ak_ s id).Yq (av_ now)]):=(Sm.touch f.tr.srt (aH_ C).1 _ _).trans Sm.app;have j:(aN_ s.Xg.Xz (aU_ (ak_ s id) user (av_ now))++[newN s.Xg id name (e1_ (ak_ s id).Xv perm) user (ak_ s id).Yq (av_ now)]).length<=s.Xg.Xz.length+1:=by
    rw[qLa,c9_];exact qA _
   show After s (putTE s _ (bif al_ (e1_ (ak_ s id).Xv perm) 29 then e0_ s.Xa s.Xg.Xn else s.Xa));cases u:al_ (e1_ (ak_ s id).Xv perm) 29 with
   | true =>
    refine⟨rfl,rfl,q,tq_ f.srt,λx m => ?_,j,putX_len _ _⟩;rcases mem_putX.1 m with rfl|⟨m,_⟩
    .have:=cc_ q.srt (List.mem_append_right _ (List.mem_singleton_self (newN s.Xg id name (e1_ (ak_ s id).Xv perm) user (ak_ s id).Yq (av_ now))));show(ai_ (aN_ s.Xg.Xz (aU_ (ak_ s id) user (av_ now))++[newN s.Xg id name (e1_ (ak_ s id).Xv perm) user (ak_ s id).Yq (av_ now)]) s.Xg.Xn).2=true/\al_ (ai_ (aN_ s.Xg.Xz (aU_ (ak_ s id) user (av_ now))++[newN s.Xg id name (e1_ (ak_ s id).Xv perm) user (ak_ s id).Yq (av_ now)]) s.Xg.Xn).1.Xv 29=true;have e:(newN s.Xg id name (e1_ (ak_ s id).Xv perm) user (ak_ s id).Yq (av_ now)).Id_=s.Xg.Xn:=rfl;rw[e]at this;rw[this];exact⟨rfl,u⟩
    .exact oi_ f p m
   | false=>exact⟨rfl,rfl,q,f.srt,λx m=>oi_ f p m,j,jd _⟩
theorem write_after {s:Xj} (f:FileOK s) (user:Str) (id offset:Int) (data:Str) (now:Int):After s (oh_ s user id offset data now).1:=by
 unfold oh_;cases bU_ s user id != 0 with
 | true=>exact After.refl f
 | false =>
  cases al_ (ak_ s id).Xv 31 with
  | true=>exact After.refl f
  | false =>
   cases decide (offset<0)with
   | true=>exact After.refl f
   | false =>
    cases data==[]with
    | true=>exact After.refl f
    | false =>
     simp only[qw];generalize(bif al_ (ak_ s id).Xv 30 then((ak_ s id).Xd.length:Int)else offset)=o;cases decide (o>65536)||decide ((data.length:Int)>w64 (65536-o))with
     | true=>exact After.refl f
     | false =>
      cases hV_ s (ak_ s id) (w64 (o+(data.length:Int)))with
      | false=>exact After.refl f
      | true =>
       show After s (putTr s (hT_ s.Xg id o data user (av_ now)).1);rcases write_cases (id:=id) (offset:=o) (data:=data) (uid:=user) (now:=av_ now) f.tr with⟨e,j⟩|⟨k,q,_,_,_,_,j,p⟩
       .rw[j];exact After.refl f
       .rw[j];have h:Sm s.Xg.Xz (aN_ s.Xg.Xz (aU_ (putD (ak_ s id) (wrS (ak_ s id).Xd k data)) user (av_ now))):=Sm.upd f.tr.srt (by
         show(ak_ s id).Xv=(ai_ s.Xg.Xz (ak_ s id).Id_).1.Xv;rw[cc_ f.tr.srt (aH_ q).1])
        exact⟨rfl,rfl,p,f.srt,λx m=>oi_ f h m,by show(aN_ _ _).length<=_;rw[c9_];omega,jd _⟩
theorem sq_{s:Xj}(f:FileOK s)(user:Str)(id now:Int):After s (dT_ s user id now).1:=by
 unfold dT_;cases bU_ s user id != 0 with
 | true=>exact After.refl f
 | false =>
  cases ed_ s user (ak_ s id)with
  | false=>exact After.refl f
  | true =>
   simp only[jN,qw];rcases remove_cases (id:=id) (uid:=user) (now:=av_ now) f.tr with⟨e,C,h⟩|⟨p,y,_,_,_,_,h,D⟩
   .rw[h];have:(e != 0)=true:=by simpa using C
    simp only[this,qn];exact After.refl f
   .rw[h];refine⟨rfl,rfl,D,l5_ f.srt,λx u => ?_,?_,Nat.le_succ_of_le (of_ _ _)⟩
    .obtain⟨q,m⟩:=mem_outX.1 u;obtain⟨j,F⟩:=oi_ f (Sm.touch f.tr.srt y user (av_ now)) q;show(ai_ (List.filter (λn=>n.Id_ != id) (aN_ s.Xg.Xz (aU_ p user (av_ now)))) x).2=true/\al_ (ai_ (List.filter (λn=>n.Id_ != id) (aN_ s.Xg.Xz (aU_ p user (av_ now)))) x).1.Xv 29=true;rw[out_find (gB_ f.tr.srt _) j m];exact⟨j,F⟩
    .show(List.filter _ (aN_ _ _)).length<=_;have:=ji (λn=>n.Id_ != id) (aN_ s.Xg.Xz (aU_ p user (av_ now)));rw[c9_]at this;omega
theorem close_after{s:Xj}(f:FileOK s)(user:Str)(id mode now:Int):After s (mv_ s user id mode now):=by
 have m:After s (setX s (cQ_ s.Xa id)):=⟨rfl,rfl,f.tr,l5_ f.srt,λy j=>f.exc y (mem_outX.1 j).1,jd _,Nat.le_succ_of_le (of_ _ _)⟩;unfold mv_;cases al_ mode 6 with
 | false=>exact m
 | true =>
  have h:=sq_ (out_ok f id) user id now;have p:(setX s (cQ_ s.Xa id)).Xa.length<=s.Xa.length:=of_ _ _;exact⟨h.users,h.quotas,h.tr,h.srt,h.exc,h.nl,qk h.el (by omega)⟩
theorem wstat_after{s:Xj}(f:FileOK s)(user:Str)(id:Int)(d:Yf)(now:Int):After s (hX_ s user id d now).1:=by
 unfold hX_;cases C:dz_ s user id d != 0 with
 | true=>exact After.refl f
 | false =>
  obtain⟨hi,kA,kB,kC,iC,mC⟩:=po_ f now C;obtain⟨Y,a2,a3⟩:=stepA_sm f.tr user id (ak_ s id) d now;obtain⟨V,U,O⟩:=stepB_sm Y user id (ak_ s id) d now;obtain⟨M,J⟩:=stepC_sm V id (ak_ s id) d;have D:=a2.trans U;have key:∀x∈s.Xa,x≠id->(ai_ (cz_ (ce_ (bR_ s.Xg user id (ak_ s id) d now) user id (ak_ s id) d now) id (ak_ s id) d).Xz x).2=true/\al_ (ai_ (cz_ (ce_ (bR_ s.Xg user id (ak_ s id) d now) user id (ak_ s id) d now) id (ak_ s id) d).Xz x).1.Xv 29=true:=λx h j=>by
   obtain⟨G,F⟩:=oi_ f D h;obtain⟨y,u⟩:=J x j G;exact⟨y,by rw[u];exact F⟩
  refine⟨rfl,rfl,kC,?_,λx h => ?_,?_,?_⟩
  .show cP_ (hW_ s.Xa id d);unfold hW_;cases d.Xv != -1 && !(al_ d.Xv 29)with
   | true=>exact l5_ f.srt
   | false=>exact f.srt
  .replace h:x∈hW_ s.Xa id d:=h;unfold hW_ at h;cases m:d.Xv != -1 && !(al_ d.Xv 29)with
   | true =>
    rw[m]at h;obtain⟨q,p⟩:=mem_outX.1 h;exact key x q p
   | false =>
    rw[m]at h
    replace h:x∈s.Xa:=h;by_cases j:x=id
    .subst j;refine⟨iC,?_⟩;show al_ (ai_ (cz_ (ce_ (bR_ s.Xg user x (ak_ s x) d now) user x (ak_ s x) d now) x (ak_ s x) d).Xz x).1.Xv 29=true;rw[mC];cases hm:d.Xv != -1 with
     | true =>
      rw[hm,zY]at m;simpa using m
     | false=>exact(f.exc x h).2
    .exact key x h j
  .show(cz_ _ id (ak_ s id) d).Xz.length<=_;rw[M,O,a3];omega
  .show(hW_ s.Xa id d).length<=_;unfold hW_;cases d.Xv != -1 && !(al_ d.Xv 29)with
   | true=>exact Nat.le_succ_of_le (of_ _ _)
   | false=>exact jd _
def newN0(root:Str)(now:Int):Xq:=Xq.mk 1 1 0 [47] 2147484141 (cs_ root) (cs_ root) (cs_ root) (av_ now) (av_ now) []
def newT(root:Str)(now:Int):Xk:=Xk.mk 2 [newN0 root now]
def zeroS:Xj:=Xj.mk [] [] (Xk.mk 0 []) []
theorem tree_new_eq(root:Str)(now:Int):qJ_ root 493 now=some (newT root now):=by
 unfold qJ_;refine aa_ (a:=493) (by kernel_rfl) (aa_ (a:=493) (by kernel_rfl) (aa_ (ew_ root) (aa_ (rfl:fl_ now=some (av_ now)) ?_)));have e:w64 (2147483648+493)=2147484141:=by kernel_rfl
 rw[e];rfl
def go_(u:List Xb)(q:List Xe)(root:Str)(now:Int):Xj×Int:=bif eZ_ u != 0 then(zeroS,eZ_ u)else bif hS_ q != 0 then(zeroS,hS_ q)else bif !(vU root)then(zeroS,25)else(Xj.mk u q (newT root (av_ now)) [],0)
theorem new_eq(u:List Xb)(q:List Xe)(root:Str)(now:Int)(f:u.length<=1000)(hm:smallM u)(m:mq_ u)(j:q.length<=1000)(h:pY_ q)(hr:root.length<=9223372036854775807):eN_ u q root now=some (go_ u q root now):=by
 unfold eN_ go_;refine aa_ (rk_ u f hm.fit m) ?_;cases eZ_ u != 0 with
 | true=>rfl
 | false =>
  refine ab_ rfl (aa_ (wK_ q j h) ?_);cases hS_ q != 0 with
  | true=>rfl
  | false =>
   refine ab_ rfl (aa_ (no_ _ hr) ?_);cases vU root with
   | false=>rfl
   | true=>exact ab_ rfl (aa_ (pk_ f) (aa_ (oc_ j) (aa_ rfl (aa_ (tree_new_eq root (av_ now)) (aa_ (new_loop u f hm) rfl)))))
theorem newT_ok(root:Str)(now:Int):OkT (newT root now).Xz (newT root now).Xn:=by
 have j:aY_ (newN0 root now)=true:=by
  rw[ip_];exact⟨by show aD_ 2147484141=true;decide,⟨by show(0:Int)<=0;omega,by show(0:Int)<=2147483647;omega⟩,ms_ now,ms_ now,⟨fq_ _,fq_ _,fq_ _⟩,qq _,λ_=>rfl⟩
 have hm:∀n∈[newN0 root now],n=newN0 root now:=λn j=>qE.1 j
 refine⟨List.pairwise_singleton ..,⟨newN0 root now,[],rfl,rfl,rfl,rfl,by show al_ 2147484141 31=true;decide⟩,λn h=>by rw[hm n h];exact j,λn h f=>absurd rfl (by rw[hm n h]at f;exact f),λn h f=>absurd rfl (by rw[hm n h]at f;exact f),λa p b m _ _ _ _=>by rw[hm a p,hm b m],λn h=>by rw[hm n h];show(1:Int)<2;omega,by show(2:Int)<=1048576;omega,by show 1<=1024;omega⟩
theorem new_ok{u:List Xb}{q:List Xe}{root:Str}{now:Int}(h:(go_ u q root now).2=0):FileOK (go_ u q root now).1/\(go_ u q root now).1=Xj.mk u q (newT root (av_ now)) []:=by
 revert h;unfold go_;cases f:eZ_ u != 0 with
 | true=>intro h;rw[show eZ_ u=0 from h]at f;cases f
 | false =>
  cases j:hS_ q != 0 with
  | true=>intro h;rw[show hS_ q=0 from h]at j;cases j
  | false =>
   cases vU root with
   | false=>intro h;cases h
   | true =>
    exact λ_=>⟨⟨by simpa using f,by simpa using j,newT_ok root (av_ now),List.Pairwise.nil,λx m=>absurd m (by simp)⟩,rfl⟩
theorem p2_(l:List Xb)(user group:Str)(h:l.length<=1000)(hm:smallM l):g0_ l user group=some (gP_ l user group):=by
 unfold g0_ gP_;refine aa_ (rj_ l group h) ?_;cases f:(d6_ l group).1.Yd==[]with
 | true=>exact aa_ (kJ_ l user group h hm) rfl
 | false=>rfl
theorem fmade_eq(x:Int)(q:x<=9223372036854775807):ku_ x=some (aD_ x):=by
 unfold ku_;have p:=cX_ x 27 (by omega) q;have m:=cX_ x 28 (by omega) q;have f:=cX_ x 31 (by omega) q;have h:=cX_ x 30 (by omega) q;have j:=cX_ x 29 (by omega) q;simp only[Nat.reducePow,jL]at p m f h j;rw[p,m,f,h,j];by_cases u:0<=x
 .obtain⟨n,rfl⟩:∃n:Nat,x=(n:Int):=⟨x.toNat,by omega⟩;simp only[hR_];have et:(n:Int).tmod 134217728=((n%134217728:Nat):Int):=rfl;rw[et];have ek:aD_ (n:Int)=((!(decide ((n:Int)<0)||decide ((n:Int)>=4294967296)||decide (((n%134217728:Nat):Int)>511)) && !(n.testBit 27)) && !(n.testBit 28)&&(!(n.testBit 31)||(!(n.testBit 30) && !(n.testBit 29)))):=by
   unfold aD_ topI;rw[←tbit,←tbit,←tbit,←tbit,←tbit,qK];simp only[qAn,qP,qL,qh,qDe,qDf,qG,qz];omega
  rw[ek];cases(decide ((n:Int)<0)||decide ((n:Int)>=4294967296)||decide (((n%134217728:Nat):Int)>511))<;>cases n.testBit 27<;>cases n.testBit 28<;>cases n.testBit 31<;>cases n.testBit 30<;>cases n.testBit 29<;>rfl
 .have s:decide (x<0)=true:=by simp;omega
  have:aD_ x=false:=by
   unfold aD_;have:decide (0<=x)=false:=by simp;omega
   rw[this];rfl
  rw[s,this];rfl
theorem cM_(m:Int)(hm:I64 m):gw_ m=some (bV_ m):=by
 by_cases h:0<=m/\m<128
 .rw[←cr_ m hm];obtain⟨n,rfl⟩:∃n:Nat,m=(n:Int):=⟨m.toNat,by omega⟩;have:=qf.1 vp_ n (List.mem_range.2 (by omega));rw[qAn,qG]at this;exact this.1.symm
 .unfold bV_;rw[qX h];unfold gw_;by_cases j:m=m.tmod 1000
  .have hr : -999<=m/\m<=999:=by
    have s : -1000<m.tmod 1000:=Int.lt_tmod_of_pos m (by omega);have q:m.tmod 1000<1000:=Int.tmod_lt_of_pos m (by omega);omega
   refine aa_ (a:=(0,false,false)) ?_ rfl;rw[←j];unfold kr_;refine aa_ (a := .fall ()) ?_ rfl;have body:∀i:Nat,i<=3->c3_ m (i:Int)=some (.next ((i+1:Nat):Int)):=λi hi=>by
    unfold c3_;rw[aq_ (n:=m-(i:Int)) ⟨by omega,by omega⟩,aw_ (by omega)];refine af_ (by simp;omega) (ab_ ?_ (ab_ ?_ rfl))
    .rw[qh,qz,qz];omega
    .rw[qh,qz,qz];omega
   rw[t2_];exact bh_ (body 0 (by omega)) (bh_ (body 1 (by omega)) (bh_ (body 2 (by omega)) (bh_ (body 3 (by omega)) (aS_ rfl))))
  .have:∃r,kr_ (m.tmod 1000)=some r:=by
    unfold kr_;have:∃r,am_ (c3_ (m.tmod 1000)) BIG 0=some r:=by
     rw[t2_];have step:∀(i:Nat) (n:Nat),i<=3->(∃r,am_ (c3_ (m.tmod 1000)) n ((i+1:Nat):Int)=some r)->∃r,am_ (c3_ (m.tmod 1000)) (n+1) (i:Int)=some r:=λi n hi ⟨r,hr⟩=>by
      cases f:((w64 (m.tmod 1000-(i:Int)))==0)||((w64 (m.tmod 1000-(i:Int)))==64)with
      | true=>exact⟨_,aS_ (by unfold c3_;exact af_ (by simp;omega) (af_ f rfl))⟩
      | false =>
       cases p:((w64 (m.tmod 1000-(i:Int)))==16)||((w64 (m.tmod 1000-(i:Int)))==80)with
       | true=>exact⟨_,aS_ (by unfold c3_;exact af_ (by simp;omega) (ab_ f (af_ p rfl)))⟩
       | false=>exact⟨r,bh_ (by unfold c3_;rw[aw_ (by omega)];exact af_ (by simp;omega) (ab_ f (ab_ p rfl))) hr⟩
     exact step 0 _ (by omega) (step 1 _ (by omega) (step 2 _ (by omega) (step 3 _ (by omega) ⟨_,aS_ rfl⟩)))
    obtain⟨r,hr⟩:=this;rw[hr];cases r with
    | ret x=>exact⟨_,rfl⟩
    | fall x=>exact⟨_,rfl⟩
   obtain⟨r,hr⟩:=this;refine aa_ hr (af_ ?_ rfl);rw[qP];exact .inr (by simpa using j)
theorem q3_(l:List Int)(x:Int)(m:l.length<=1000):eu_ l x=some (cQ_ l x):=by
 unfold eu_;refine aa_ (a:=cQ_ l x) ?_ rfl;have key:∀(q:List Int) (i:Nat) (acc:List Int),bH_ (λ(s:List Int) _ y=>if y != x then s++[y]else s) acc i q=acc++cQ_ q x:=by
  intro q
  induction q with
  | nil=>intro i acc;simp[bH_,cQ_]
  | cons a q h =>
   intro i acc;simp only[bH_];rw[h];unfold cQ_;rw[zZ];split
   .simp
   .rfl
 have f:=key l 0 [];rw[zG]at f;rw[←f];refine d4_ (τ:=Int×List Int) l _ (λi s=>((i:Int),s)) (λi s=>s.length<=i) (λs=>s) [] (bz_ (by omega)) (qA _) (λi s hi j=>⟨?_,?_⟩) (λs j => ?_)
 .unfold jC_;simp only;rw[bm_ hi,au_ hi,aw_ (by omega)];refine af_ rfl ?_;simp only[qBs];cases l[i] != x with
  | true =>
   refine aa_ (a:=s++[l[i]]) (aa_ (bj_ ?_ ?_) rfl) rfl
   .simp;omega
   .simp;omega
  | false=>rfl
 .show(if(l[i] != x)=true then s++[l[i]]else s).length<=i+1;split
  .simp;omega
  .omega
 .unfold jC_;simp only;rw[bC_];rfl
def fs_(x:Int)(s:Bool×List Int)(_:Nat)(y:Int):Bool×List Int:=((!s.1&&decide (y>=x))||s.1,bif y != x then(bif !s.1&&decide (y>=x)then s.2++[x]else s.2)++[y]else bif !s.1&&decide (y>=x)then s.2++[x]else s.2)
def withE(x:Int)(s:Bool×List Int):List Int:=bif s.1 then s.2 else s.2++[x]
theorem with_late(x:Int):∀(q:List Int) (i:Nat) (acc:List Int),bH_ (fs_ x) (true,acc) i q=(true,acc++cQ_ q x)
 | [],i,acc=>by simp[bH_,cQ_]
 | a::q,i,acc=>by
  have e:fs_ x (true,acc) i a=(true,bif a != x then acc++[a]else acc):=rfl;simp only[bH_];rw[e,with_late x q];unfold cQ_;rw[zZ];cases a != x with
  | true=>simp
  | false=>rfl
theorem with_key(x:Int):∀(q:List Int) (i:Nat) (acc:List Int),cP_ q->withE x (bH_ (fs_ x) (false,acc) i q)=acc++e0_ q x
 | [],i,acc,_=>by simp[bH_,e0_,withE]
 | a::q,i,acc,D=>by
  obtain⟨J,u⟩:=zN.1 D;simp only[bH_];by_cases G:a<x
  .have p:decide (a>=x)=false:=by simp;omega
   have m:(a != x)=true:=by rw[zM];omega
   have e:fs_ x (false,acc) i a=(false,acc++[a]):=by
    unfold fs_;rw[p,m];rfl
   rw[e,with_key x q (i+1) (acc++[a]) u];unfold e0_;rw[zZ,zZ];have j:decide (a<x)=true:=by simpa using G
   have h:decide (x<a)=false:=by simp;omega
   rw[j,h];simp
  .have p:decide (a>=x)=true:=by simp;omega
   have e:fs_ x (false,acc) i a=(true,bif a != x then acc++[x]++[a]else acc++[x]):=by
    unfold fs_;rw[p];rfl
   rw[e,with_late];have s:q.filter (λy=>decide (y<x))=[]:=by
    rw[jG];intro y C;have:=J y C;simp;omega
   have F:cQ_ q x=q.filter (λy=>decide (x<y)):=by
    rw[outX_cut u,s];rfl
   unfold e0_ withE;rw[zZ,zZ,s,F];have m:decide (a<x)=false:=by simp;omega
   rw[m];by_cases f:a=x
   .subst f;simp
   .have j:(a != x)=true:=by rw[zM];exact f
    have h:decide (x<a)=true:=by simp;omega
    rw[j,h];simp
theorem withF_len(x:Int)(s:Bool×List Int)(i:Nat)(a:Int):(fs_ x s i a).2.length<=s.2.length+2:=by
 unfold fs_;cases a != x<;>cases !s.1&&decide (a>=x)<;>simp
theorem with_len(x:Int):∀(q:List Int) (i:Nat) (s:Bool×List Int),(bH_ (fs_ x) s i q).2.length<=s.2.length+2*q.length
 | [],i,s=>by simp[bH_]
 | a::q,i,s=>by
  simp only[bH_,qLc];have h:=with_len x q (i+1) (fs_ x s i a);have f:=withF_len x s i a;omega
theorem fwith_eq(l:List Int)(x:Int)(m:cP_ l)(y:l.length<=1000):kt_ l x=some (e0_ l x):=by
 have h:=with_key x l 0 [] m;rw[zG]at h;unfold kt_;refine aa_ (a:=bH_ (fs_ x) (false,[]) 0 l) ?_ ?_
 .refine d4_ (τ:=Bool×Int×List Int) l (fs_ x) (λi s=>(s.1,(i:Int),s.2)) (λi s=>s.2.length<=2*i) (λs=>(s.1,s.2)) (false,[]) (bz_ (by omega)) (qA _) (λi s hi q=>⟨?_,?_⟩) (λs q => ?_)
  .unfold mG_;simp only;rw[bm_ hi,au_ hi,aw_ (by omega)];refine af_ rfl ?_;simp only[qBs];refine aa_ (a:=fs_ x s i l[i]) ?_ rfl;refine aa_ (a:=((!s.1&&decide (l[i]>=x))||s.1,bif !s.1&&decide (l[i]>=x)then s.2++[x]else s.2)) ?_ ?_
   .cases u:s.1 with
    | true=>rfl
    | false =>
     simp only[Bool.not_false,qn,qBs,zY,Bool.or_false];cases decide (l[i]>=x)with
     | true =>
      refine aa_ (bj_ ?_ ?_) rfl
      .simp;omega
      .simp;omega
     | false=>rfl
   .have f:(bif !s.1&&decide (l[i]>=x)then s.2++[x]else s.2).length<=s.2.length+1:=by
     cases !s.1&&decide (l[i]>=x)<;>simp
    unfold fs_;generalize(bif !s.1&&decide (l[i]>=x)then s.2++[x]else s.2)=z at f;cases p:l[i] != x with
    | true =>
     refine af_ rfl (aa_ (bj_ ?_ ?_) rfl)
     .simp;omega
     .simp;omega
    | false=>rfl
  .have:=withF_len x s i l[i];omega
  .unfold mG_;simp only;rw[bC_];rfl
 .have j:=with_len x l 0 (false,[]);rw[←h];unfold withE;cases u:(bH_ (fs_ x) (false,[]) 0 l).1 with
  | true=>rfl
  | false =>
   refine aa_ (a:=(bH_ (fs_ x) (false,[]) 0 l).2++[x]) (aa_ (bj_ ?_ ?_) rfl) rfl
   .simp at j ⊢;omega
   .simp at j ⊢;omega
theorem ref13_in_eq(l:List Int)(x:Int)(p:l.length<=1000):qN_ l x=some (decide (x∈l)):=by
 have e:decide (x∈l)=((l.find? λy=>y==x).map λ_=>true).getD false:=by
  rw[qK,qDe];cases f:l.find? λy=>y==x with
  | none =>
   rw[zy]at f;exact⟨λh=>absurd (jX x) (f x h),λh=>nomatch h⟩
  | some y =>
   have m:=zH f;have j:(y==x)=true:=by simpa using jW f
   rw[qG]at j;exact⟨λ_=>rfl,λ_=>j▸m⟩
 rw[e,←jW_ _ _ 0];unfold qN_;refine bT_ (bG_ l _ (bz_ (by omega)) (λi hi => ?_) ?_) (λ_=>rfl) rfl
 .unfold pi_;rw[au_ hi,bm_ hi,aw_ (by omega)];simp only[qn,qBs];cases l[i]==x<;>rfl
 .unfold pi_;rw[bC_];rfl
theorem vz_{α:Type}(f:α->α):∀(q:List α) (i:Nat) (acc:List α),bH_ (λ(s:List α) _ x=>s++[f x]) acc i q=acc++q.map f
 | [],i,acc=>by simp[bH_]
 | x::q,i,acc=>by simp only[bH_];rw[vz_ f q];simp
theorem gQ_(t:Xk)(n:Xq)(h:t.Xz.length<=2000):fp_ t n=some (Xk.mk t.Xn (aN_ t.Xz n)):=by
 have f:=vz_ (λm:Xq=>bif m.Id_==n.Id_ then n else m) t.Xz 0 [];rw[zG]at f;unfold fp_;refine aa_ (a:=(t.Xn,aN_ t.Xz n)) ?_ rfl;unfold aN_;rw[←f];refine d4_ (τ:=Int×Int×List Xq) t.Xz _ (λi s=>((i:Int),t.Xn,s)) (λi s=>s.length=i) (λs=>(t.Xn,s)) [] (bz_ (by omega)) rfl (λi s hi j=>⟨?_,by simp[j]⟩) (λs j => ?_)
 .unfold mF_;simp only;rw[bm_ hi,au_ hi,aw_ (by omega)];refine af_ rfl ?_;simp only[qBs];cases t.Xz[i].Id_==n.Id_ with
  | true=>exact aa_ (a:=(t.Xn,s++[n])) (aa_ (bj_ (by simp;omega) (by simp;omega)) rfl) rfl
  | false=>exact aa_ (a:=(t.Xn,s++[t.Xz[i]])) (aa_ (bj_ (by simp;omega) (by simp;omega)) rfl) rfl
 .unfold mF_;simp only;rw[bC_];rfl
theorem dg_(s:Str):cW_ s=some (cs_ s):=by unfold cW_ cs_;cases decide ((s.length:Int)>64)<;>rfl
theorem jH_(n:Xq)(uid:Str)(now:Int):fc_ n uid now=some (aU_ n uid now):=by
 unfold fc_;exact aa_ rfl (aa_ (dg_ uid) rfl)
theorem t9_(t:Xk)(id:Int)(uid:Str)(now:Int)(h:t.Xz.length<=2000):gZ_ t id uid now=some (Xk.mk t.Xn (aN_ t.Xz (aU_ (ai_ t.Xz id).1 uid now))):=by
 unfold gZ_;exact aa_ (aO_ t id h) (aa_ (jH_ _ uid now) (aa_ (gQ_ t _ h) rfl))
theorem vA_(t:Xk)(dir:Int)(name:Str)(mode:Int)(uid gid:Str)(now:Int)(h:OkT t.Xz t.Xn)(hm:mode<=9223372036854775807)(p:name.length<=9223372036854775807):kw_ t dir name mode uid gid now=some (f7_ t dir name mode uid gid now):=by
 have u:=h.len;unfold kw_ f7_;refine aa_ (aO_ t dir (by omega)) ?_;cases m:(ai_ t.Xz dir).2 with
 | false=>rfl
 | true =>
  refine ab_ rfl (aa_ (sY_ h (aH_ m).1) ?_);cases s:al_ (ai_ t.Xz dir).1.Xv 31 with
  | false=>rfl
  | true =>
   refine ab_ rfl (aa_ (g2_ name p) ?_);cases j:bs_ name with
   | false=>rfl
   | true =>
    refine ab_ rfl (aa_ (mL_ mode hm) ?_);cases aD_ mode with
    | false=>rfl
    | true =>
     refine ab_ rfl (aa_ (jr_ t dir name h) ?_);have f:(name==[46,46])=false:=by
      unfold bs_ at j;simp only[qAn,zM]at j;rw[qz];exact j.1.2
     have q:((gz_ t.Xz dir name).2==0)=(t.Xz.find? (ch_ dir name)).isSome:=by
      unfold gz_;rw[m,s,f];cases t.Xz.find? (ch_ dir name)<;>rfl
     rw[q];cases(t.Xz.find? (ch_ dir name)).isSome with
     | true=>rfl
     | false =>
      refine ab_ rfl ?_;cases decide ((t.Xz.length:Int)>=1024)||decide (t.Xn>1048575)with
      | true=>rfl
      | false =>
       refine ab_ rfl (aa_ (dg_ uid) (aa_ (dg_ gid) (aa_ (dg_ uid) (aa_ rfl (aa_ rfl (aa_ (t9_ t dir uid now (by omega)) (aa_ (bj_ ?_ ?_) rfl)))))))
       .simp[c9_];omega
       .simp[c9_];omega
theorem vB_(t:Xk)(id:Int)(uid:Str)(now:Int)(h:OkT t.Xz t.Xn):kA_ t id uid now=some (eo_ t id uid now):=by
 have V:=h.len;unfold kA_ eo_;refine aa_ (aO_ t id (by omega)) ?_;cases U:(ai_ t.Xz id).2 with
 | false=>rfl
 | true =>
  refine ab_ rfl ?_;cases O:id==1 with
  | true=>rfl
  | false =>
   refine ab_ rfl (aa_ (iF_ t id h) ?_);cases decide (((aQ_ t.Xz id).length:Int)>0)with
   | true=>rfl
   | false =>
    have D:=l0_ (λn:Xq=>n.Id_ != id) (λn=>n) t.Xz 0 [];rw[zG,List.map_id']at D;refine ab_ rfl (aa_ (a:=(t.Xn,t.Xz.filter λn=>n.Id_ != id)) ?_ ?_)
    .rw[←D];refine d4_ (τ:=Int×Int×List Xq) t.Xz _ (λi s=>((i:Int),t.Xn,s)) (λi s=>s.length<=i) (λs=>(t.Xn,s)) [] (bz_ (by omega)) (qA _) (λi s hi F=>⟨?_,tY_ _ _ _ _ F⟩) (λs F => ?_)
     .unfold kz_;simp only;rw[bm_ hi,au_ hi,aw_ (by omega)];refine af_ rfl ?_;simp only[qBs];cases t.Xz[i].Id_ != id with
      | true=>exact aa_ (a:=(t.Xn,s++[t.Xz[i]])) (aa_ (bj_ (by simp;omega) (by simp;omega)) rfl) rfl
      | false=>rfl
     .unfold kz_;simp only;rw[bC_];rfl
    .obtain⟨hm,C⟩:=aH_ U;have y:(ai_ t.Xz id).1.Id_≠1:=by rw[C];simpa using O
     obtain⟨p,q,m,J,G⟩:=h.par _ hm y;have j:=cc_ h.srt q;rw[m]at j;have u:(t.Xz.filter λn=>n.Id_ != id).Pairwise λa b=>a.Id_<b.Id_:=h.srt.filter _
     have x:p∈t.Xz.filter λn=>n.Id_ != id:=zS.2 ⟨q,by rw[zM];omega⟩
     have f:=cc_ u x;rw[m]at f;refine aa_ (t9_ _ _ uid now (by have:=ji (λn:Xq=>n.Id_ != id) t.Xz;simp only;omega)) ?_;simp only;rw[f,j]
     congr 3
     unfold aN_;rw[List.filter_map]
     congr 1
     apply List.filter_congr;intro n _;show(n.Id_ != id)=((bif n.Id_==p.Id_ then aU_ p uid now else n).Id_ != id);cases M:n.Id_==p.Id_ with
     | true=>rw[qG.1 M];rfl
     | false=>rfl
theorem rp_(t:Xk)(id:Int)(h:OkT t.Xz t.Xn):ks_ t id=some ((ai_ t.Xz id).1,e4_ t.Xz id):=by
 have j:=h.len;unfold ks_ e4_;refine aa_ (aO_ t id (by omega)) ?_;cases f:(ai_ t.Xz id).2 with
 | false=>rfl
 | true =>
  refine ab_ rfl (aa_ (sY_ h (aH_ f).1) ?_);cases al_ (ai_ t.Xz id).1.Xv 31<;>rfl
theorem zeros_eq(x:Int)(h:x<=65536):iU_ x=some (List.replicate x.toNat 0):=by
 unfold iU_;have e:bN_ x 0=(x.toNat:Int):=by unfold bN_;split<;>omega
 rw[e];refine aa_ (tW_ (by omega) (by omega) (by omega)) ?_;rw[qTn];simp[bytesS]
theorem oV_(t:Xk)(id size:Int)(uid:Str)(now:Int)(h:OkT t.Xz t.Xn):hJ_ t id size uid now=some (cR_ t id size uid now):=by
 have s:=h.len;unfold hJ_ cR_;refine aa_ (rp_ t id h) ?_;cases p:e4_ t.Xz id != 0 with
 | true=>rfl
 | false =>
  obtain⟨f1,f2⟩:=ns_ p;have hm:=(aH_ f1).1;have q:=iW_ (h.flds _ hm);refine ab_ rfl ?_;by_cases f:size<0
  .rw[show decide (size<0)=true by simpa using f];rfl
  .by_cases m:size>65536
   .rw[show decide (size<0)=false by simpa using f,show decide (size>65536)=true by simpa using m];rfl
   .rw[show decide (size<0)=false by simpa using f,show decide (size>65536)=false by simpa using m];refine ab_ rfl (ab_ rfl ?_);cases size==((ai_ t.Xz id).1.Xd.length:Int)with
    | true=>rfl
    | false =>
     refine ab_ rfl ?_;obtain⟨n,rfl⟩:∃n:Nat,size=(n:Int):=⟨size.toNat,by omega⟩;simp only;generalize hN:(ai_ t.Xz id).1=N at q;rw[qZ_ _ _ (by omega),qTn];refine aa_ (b5_ (by omega) (by omega) (by omega)) ?_;rw[aq_ ⟨by omega,by omega⟩,qTn,Int.toNat_zero,zm];refine aa_ (zeros_eq _ (by omega)) ?_;have e:N.Xd.take (min n N.Xd.length)++List.replicate ((n:Int)-(N.Xd.length:Int)).toNat 0=fitS N.Xd n:=by
      unfold fitS;rw[show((n:Int)-(N.Xd.length:Int)).toNat=n-N.Xd.length by omega]
      congr 1
      rcases qN n N.Xd.length with j|j
      .rw[zi (by omega)]
      .rw[jR j,qc j,qc (qA _)]
     refine aa_ (bK_ (by simp;omega)) ?_;rw[e];refine aa_ (jH_ _ uid now) (aa_ (gQ_ t _ (by omega)) rfl)
theorem wR_ (t:Xk) (id offset:Int) (data uid:Str) (now:Int) (h:OkT t.Xz t.Xn) (M:offset<=9223372036854775807) (F:data.length<=9223372036854775807):lQ_ t id offset data uid now=some (hT_ t id offset data uid now):=by
 have O:=h.len;unfold lQ_ hT_;refine aa_ (rp_ t id h) ?_;cases D:e4_ t.Xz id != 0 with
 | true=>rfl
 | false =>
  obtain⟨f1,f2⟩:=ns_ D;have hm:=(aH_ f1).1;have G:=iW_ (h.flds _ hm);have j:=h.mode hm;refine ab_ rfl ?_;by_cases y:offset<0
  .rw[show decide (offset<0)=true by simpa using y];rfl
  .rw [show decide (offset<0)=false by simpa using y];refine ab_ rfl ?_;cases data==[]with
   | true=>rfl
   | false =>
    refine ab_ rfl ?_;have q:=has_lit (ai_ t.Xz id).1.Xv 30 (by omega) (by omega);have m:decide ((ai_ t.Xz id).1.Xv>=0)=true:=by simp;omega
    simp only[Nat.reducePow,jL,m,zY]at q;simp only;generalize hN:(ai_ t.Xz id).1=N at G q;generalize x:(bif al_ N.Xv 30 then(N.Xd.length:Int)else offset)=o;have C:0<=o/\o<=9223372036854775807:=by
     subst x;cases al_ N.Xv 30
     .simp;omega
     .simp;omega
    refine aa_ (a:=o) ?_ ?_
    .rw[q,←x];cases al_ N.Xv 30<;>rfl
    .simp only[qw];by_cases f:o+(data.length:Int)>65536
     .have u:decide (o+(data.length:Int)>65536)=true:=by simpa using f
      rw[u];refine af_ ?_ rfl;rw[qP,qDe,qDe];by_cases J:(data.length:Int)>65536
      .exact .inl J
      .rw[aq_ ⟨by omega,by omega⟩];exact .inr (by omega)
     .have u:decide (o+(data.length:Int)>65536)=false:=by simpa using f
      rw[u];refine ab_ ?_ ?_
      .rw[aq_ ⟨by omega,by omega⟩];simp;omega
      .obtain⟨p,rfl⟩:∃p:Nat,o=(p:Int):=⟨o.toNat,by omega⟩;rw[qZ_ _ _ (by omega),qTn];refine aa_ (b5_ (by omega) (by omega) (by omega)) ?_;rw[aq_ (n:=(p:Int)+(data.length:Int)) ⟨by omega,by omega⟩,show(p:Int)+(data.length:Int)=((p+data.length:Nat):Int)by omega,qZ_ _ _ (by omega),qTn];refine aa_ (b5_ (by omega) (by omega) (by omega)) ?_;rw[qTn,qTn,qTn,jm,drop_min,Int.toNat_zero,zm,aq_ ⟨by omega,by omega⟩];refine aa_ (zeros_eq _ (by omega)) ?_;have e:N.Xd.take (min p N.Xd.length)++List.replicate ((p:Int)-(N.Xd.length:Int)).toNat 0=fitS N.Xd p:=by
        unfold fitS;rw[show((p:Int)-(N.Xd.length:Int)).toNat=p-N.Xd.length by omega]
        congr 1
        rcases qN p N.Xd.length with s|s
        .rw[zi (by omega)]
        .rw[jR s,qc s,qc (qA _)]
       refine aa_ (bK_ (by simp;omega)) ?_;rw[e];refine aa_ (bK_ (by rw[lr_];omega)) (aa_ (bK_ (by simp[lr_];omega)) ?_);refine aa_ (jH_ _ uid now) (aa_ (gQ_ t _ (by omega)) ?_);simp only[qw];rfl
theorem okName_dd{name:Str}(h:bs_ name=true):(name==[46,46])=false:=by
 unfold bs_ at h;simp only[qAn,zM]at h;rw[qz];exact h.1.2
theorem vC_(t:Xk)(id:Int)(name uid:Str)(now:Int)(h:OkT t.Xz t.Xn)(y:name.length<=9223372036854775807):kC_ t id name uid now=some (eT_ t id name uid now):=by
 have J:=h.len;unfold kC_ eT_;refine aa_ (aO_ t id (by omega)) ?_;cases G:(ai_ t.Xz id).2 with
 | false=>rfl
 | true =>
  refine ab_ rfl ?_;cases F:id==1 with
  | true=>rfl
  | false =>
   refine ab_ rfl (aa_ (g2_ name y) ?_);cases D:bs_ name with
   | false=>rfl
   | true =>
    refine ab_ rfl ?_;cases(ai_ t.Xz id).1.Xh==name with
    | true=>rfl
    | false =>
     refine ab_ rfl (aa_ (jr_ t _ name h) ?_);obtain⟨hm,u⟩:=aH_ G;have s:(ai_ t.Xz id).1.Id_≠1:=by rw[u];simpa using F
     obtain⟨p,q,m,x,j⟩:=h.par _ hm s;have f:=cc_ h.srt q;rw[m]at f;have C:((gz_ t.Xz (ai_ t.Xz id).1.Xy name).2==0)=(t.Xz.find? (ch_ (ai_ t.Xz id).1.Xy name)).isSome:=by
      unfold gz_;rw[f,okName_dd D];simp only[jN,qw,j];cases t.Xz.find? (ch_ (ai_ t.Xz id).1.Xy name)<;>rfl
     rw[C];cases(t.Xz.find? (ch_ (ai_ t.Xz id).1.Xy name)).isSome with
     | true=>rfl
     | false =>
      refine ab_ rfl (aa_ (gQ_ t _ (by omega)) (aa_ (t9_ _ _ uid now (by simp only[c9_];omega)) rfl))
theorem wS_(t:Xk)(id mode:Int)(gid:Str)(mtime:Int)(h:OkT t.Xz t.Xn)(m:mode<=9223372036854775807):lW_ t id mode gid mtime=some (hU_ t id mode gid mtime):=by
 have q:=h.len;unfold lW_ hU_;refine aa_ (aO_ t id (by omega)) ?_;cases p:(ai_ t.Xz id).2 with
 | false=>rfl
 | true =>
  have f:=sY_ h (aH_ p).1;generalize hN:(ai_ t.Xz id).1=N at f;refine ab_ rfl (aa_ (a:=(mode != -1)&&(!(aD_ mode) || !(al_ mode 31==al_ N.Xv 31))) ?_ ?_)
  .cases mode != -1 with
   | false=>rfl
   | true =>
    refine af_ rfl (aa_ (mL_ mode m) ?_);cases j:aD_ mode with
    | false=>rfl
    | true =>
     refine aa_ (a := !(al_ mode 31==al_ N.Xv 31)) ?_ rfl;refine ab_ rfl (aa_ (a:=al_ mode 31) ?_ (aa_ f rfl));unfold bf_;rw[eY_ j]
  .cases(mode != -1)&&(!(aD_ mode) || !(al_ mode 31==al_ N.Xv 31))with
   | true=>rfl
   | false =>
    refine ab_ rfl ?_;cases(mtime != -1)&&(decide (mtime<0)||decide (mtime>1099511627776))with
    | true=>rfl
    | false =>
     refine ab_ rfl ?_;refine aa_ (a:=Xq.mk N.Id_ N.Xy N.Xs N.Xh (bif mode != -1 then mode else N.Xv) N.Yg N.Yq N.Ym N.Yj N.Xl N.Xd) (by cases mode != -1<;>rfl) ?_;refine aa_ (a:=Xq.mk N.Id_ N.Xy N.Xs N.Xh (bif mode != -1 then mode else N.Xv) N.Yg (bif !(cs_ gid==[])then gid else N.Yq) N.Ym N.Yj N.Xl N.Xd) (aa_ (dg_ gid) (by cases cs_ gid==[]<;>rfl)) ?_;refine aa_ (a:=e5_ N mode gid mtime) ?_ (aa_ (gQ_ t _ (by omega)) rfl);unfold e5_;cases mtime != -1<;>rfl
theorem ref_above{s:Xj}(f:FileOK s)(z:SizeOK s)(user:Str){id:Int}(h:isS s id=true):(Option.bind (bif(id==1)then some true else Option.bind (eP_ s user (ak_ s id).Xy 2) λ(m:Bool)=>some (!m)) λ(j:Bool)=>some j)=some (!(ed_ s user (ak_ s id))):=by
 rw[kL_ f z];unfold ed_;rw[s1_ h];unfold bne;cases id==1 with
 | true=>simp
 | false=>simp
theorem ref_opens_eq {s:Xj} (z:SizeOK s) (f:FileOK s) (user:Str) (id mode:Int) (j:user.length<=9223372036854775807) (hm:I64 mode):lP_ s user id mode=some (fr_ s user id mode):=by
 unfold lP_ fr_ bU_;refine aa_ (aO_ _ _ (nl2 z)) (aa_ (d5_ _ j) ?_);cases vU user with
 | false=>rfl
 | true =>
  refine ab_ rfl ?_;cases hi:(ai_ s.Xg.Xz id).2 with
  | false=>unfold isS;rw[hi];rfl
  | true =>
   have h:isS s id=true:=hi;rw[h];refine ab_ rfl (aa_ (cM_ mode hm) ?_);show _=some (iY_ s user (ak_ s id) mode);unfold iY_;cases m:(bV_ mode).2 != 0 with
   | true=>rfl
   | false =>
    obtain⟨q,p⟩:=oT_ m;refine ab_ rfl (aa_ (fM_ _ (cj_ f id)).1 ?_);show(bif al_ (ak_ s id).Xv 31&&mode != 0 then _ else _)=_;cases al_ (ak_ s id).Xv 31&&mode != 0 with
    | true=>rfl
    | false =>
     refine ab_ rfl (aa_ (kL_ f z user id _) ?_);rw[h,zY];cases mayS s user (ak_ s id) (bV_ mode).1 with
     | false=>rfl
     | true =>
      refine ab_ rfl (aa_ (fM_ _ (by omega)).2.2.2.1 (aa_ (a:=al_ mode 6 && !(ed_ s user (ak_ s id))) ?_ ?_))
      .cases al_ mode 6 with
       | false=>rfl
       | true =>
        refine af_ rfl ?_;rw[zY];exact ref_above f z user h
      .cases al_ mode 6 && !(ed_ s user (ak_ s id))with
       | true=>rfl
       | false =>
        refine ab_ rfl (aa_ (fM_ _ (cj_ f id)).2.2.1 ?_);rw[ref13_in_eq _ _ (by have:=z.el;omega)];refine aa_ (a:=al_ (ak_ s id).Xv 29&&decide ((ak_ s id).Id_∈s.Xa)) ?_ ?_
        .rw[s1_ h];cases al_ (ak_ s id).Xv 29<;>rfl
        .cases al_ (ak_ s id).Xv 29&&decide ((ak_ s id).Id_∈s.Xa)<;>rfl
theorem ref_open_eq{s:Xj}(f:FileOK s)(z:SizeOK s)(user:Str)(id mode now:Int)(j:user.length<=9223372036854775807)(hm:I64 mode):nh_ s user id mode now=some (kM_ s user id mode now):=by
 unfold nh_ kM_;refine aa_ (ref_opens_eq z f user id mode j hm) ?_;cases h:fr_ s user id mode != 0 with
 | true=>rfl
 | false =>
  obtain⟨_,_,p,m⟩:=pn_ h;refine ab_ rfl (aa_ (aO_ _ _ (nl2 z)) (aa_ (a:=putTr s (bif al_ mode 4 && !(al_ (ak_ s id).Xv 30)then(cR_ s.Xg id 0 user (av_ now)).1 else s.Xg)) ?_ (aa_ (a:=let t:=(bif al_ mode 4 && !(al_ (ak_ s id).Xv 30)then(cR_ s.Xg id 0 user (av_ now)).1 else s.Xg);(s.Yz,s.Yx,t.Xn,t.Xz,bif al_ (ak_ s id).Xv 29 then e0_ s.Xa id else s.Xa)) ?_ rfl)))
  .rw[(fM_ _ (cj_ f id)).2.1];refine aa_ (fM_ mode (by omega)).2.2.2.2 (aa_ (a:=al_ mode 4 && !(al_ (ak_ s id).Xv 30)) (by cases al_ mode 4<;>rfl) ?_);cases al_ mode 4 && !(al_ (ak_ s id).Xv 30)with
   | true=>exact af_ rfl (aa_ rfl (aa_ (oV_ s.Xg id 0 user (av_ now) f.tr) rfl))
   | false=>rfl
  .refine aa_ (fM_ _ (cj_ f id)).2.2.1 ?_;cases al_ (ak_ s id).Xv 29 with
   | true=>exact af_ rfl (aa_ (fwith_eq _ id f.srt (by have:=z.el;show s.Xa.length<=1000;omega)) rfl)
   | false=>rfl
theorem wT_ {s:Xj} (z:SizeOK s) (f:FileOK s) (user:Str) (id:Int) (name:Str) (perm mode:Int) (m:user.length<=9223372036854775807) (hm:I64 mode) (j:perm<=9223372036854775807) (p:name.length<=9223372036854775807):ji_ s user id name perm mode=some (ex_ s user id name perm mode):=by
 unfold ji_ ex_ dirC;refine aa_ (aO_ _ _ (nl2 z)) (aa_ (d5_ _ m) ?_);cases vU user with
 | false=>rfl
 | true =>
  refine ab_ rfl ?_;cases hi:(ai_ s.Xg.Xz id).2 with
  | false=>unfold isS;rw[hi];rfl
  | true =>
   have h:isS s id=true:=hi;rw[h];refine ab_ rfl (aa_ (fM_ _ (cj_ f id)).1 ?_);cases al_ (ak_ s id).Xv 31 with
   | false=>rfl
   | true =>
    show _=some (mu_ s user (ak_ s id) name perm mode);unfold mu_;rw[s1_ h];refine ab_ rfl (aa_ (g2_ _ p) ?_);cases bs_ name with
    | false=>rfl
    | true =>
     refine ab_ rfl (aa_ (fmade_eq _ j) ?_);cases aD_ perm with
     | false=>rfl
     | true =>
      refine ab_ rfl (aa_ (cM_ mode hm) ?_);cases(bV_ mode).2 != 0 with
      | true=>rfl
      | false =>
       refine ab_ rfl (aa_ (jr_ _ _ _ f.tr) (aa_ (fM_ _ j).1 ?_));cases al_ perm 31&&mode != 0 with
       | true=>rfl
       | false =>
        refine ab_ rfl (aa_ (kL_ f z user id 2) ?_);rw[h,zY];cases mayS s user (ak_ s id) 2 with
        | false=>rfl
        | true =>
         refine ab_ rfl ?_;cases(gz_ s.Xg.Xz id name).2==0 with
         | true=>rfl
         | false =>
          refine ab_ rfl (aa_ (rm_ _ _ _ _ _ z.ql (nl2 z)) ?_);cases l4_ s.Yx s.Xg user 1 0<;>rfl
theorem ys_{s:Xj}(f:FileOK s)(z:SizeOK s)(user:Str)(id:Int)(name:Str)(perm mode now:Int)(u:user.length<=9223372036854775807)(hm:I64 mode)(x:perm<=9223372036854775807)(j:name.length<=9223372036854775807):kx_ s user id name perm mode now=some (lt_ s user id name perm mode now):=by
 unfold kx_ lt_;refine aa_ (wT_ z f user id name perm mode u hm x j) ?_;cases p:ex_ s user id name perm mode != 0 with
 | true=>rfl
 | false =>
  obtain⟨C,y⟩:=rn_ p;obtain⟨F,_,hi,_⟩:=sj_ C;obtain⟨_,h,_,_⟩:=tt_ y;obtain⟨q,_,D,_,m,_⟩:=inhI_kind f hi h;refine ab_ rfl (aa_ (aO_ _ _ (nl2 z)) (aa_ D (aa_ (rfl:gu_ now=some (av_ now)) (aa_ (vA_ s.Xg id name _ user _ (av_ now) f.tr m j) ?_))));show _=some (bif(f7_ s.Xg id name (e1_ (ak_ s id).Xv perm) user (ak_ s id).Yq (av_ now)).2.2 != 0 then _ else _);generalize f7_ s.Xg id name (e1_ (ak_ s id).Xv perm) user (ak_ s id).Yq (av_ now)=c;cases c.2.2 != 0 with
  | true=>rfl
  | false =>
   refine ab_ rfl (aa_ (a:=(s.Yz,s.Yx,c.1.Xn,c.1.Xz,bif al_ (e1_ (ak_ s id).Xv perm) 29 then e0_ s.Xa c.2.1 else s.Xa)) (aa_ (fM_ _ m).2.2.1 ?_) rfl);cases al_ (e1_ (ak_ s id).Xv perm) 29 with
   | true=>exact af_ rfl (aa_ (fwith_eq _ _ f.srt (by have:=z.el;omega)) rfl)
   | false=>rfl
theorem ref_write_eq {s:Xj} (f:FileOK s) (z:SizeOK s) (user:Str) (id offset:Int) (data:Str) (now:Int) (p:user.length<=9223372036854775807) (m:data.length<=9223372036854775807):lR_ s user id offset data now=some (oh_ s user id offset data now):=by
 unfold lR_ oh_ bU_;refine aa_ (aO_ _ _ (nl2 z)) (aa_ (d5_ _ p) ?_);cases vU user with
 | false=>rfl
 | true =>
  refine ab_ rfl ?_;cases hi:(ai_ s.Xg.Xz id).2 with
  | false=>unfold isS;rw[hi];rfl
  | true =>
   have h:isS s id=true:=hi;rw[h];refine ab_ rfl (aa_ (fM_ _ (cj_ f id)).1 ?_);cases x:al_ (ak_ s id).Xv 31 with
   | true=>rfl
   | false =>
    refine ab_ rfl ?_;cases q:decide (offset<0)with
    | true=>rfl
    | false =>
     refine ab_ rfl ?_;cases j:data==[]with
     | true=>rfl
     | false =>
      refine ab_ rfl (aa_ (a:=bif al_ (ak_ s id).Xv 30 then((ak_ s id).Xd.length:Int)else offset) (aa_ (fM_ _ (cj_ f id)).2.1 (by cases al_ (ak_ s id).Xv 30<;>rfl)) ?_);show _=some (bif _||_ then(s,0,4)else bif !(hV_ s (ak_ s id) (w64 (_+(data.length:Int))))then(s,0,21)else _);generalize y:(bif al_ (ak_ s id).Xv 30 then((ak_ s id).Xd.length:Int)else offset)=o;cases u:decide (o>65536)||decide ((data.length:Int)>w64 (65536-o))with
      | true=>rfl
      | false =>
       refine ab_ rfl (aa_ (sp_ z _ _) ?_);cases G:hV_ s (ak_ s id) (w64 (o+(data.length:Int)))with
       | false=>rfl
       | true =>
        obtain⟨F,D,C⟩:=write_ok (now:=av_ now) (user:=user) hi x (by simpa using q) j y.symm u;exact ab_ rfl (aa_ rfl (aa_ (wR_ s.Xg id o data user (av_ now) f.tr (by omega) m) rfl))
theorem rq_{s:Xj}(f:FileOK s)(z:SizeOK s)(user:Str)(id now:Int)(j:user.length<=9223372036854775807):hK_ s user id now=some (dT_ s user id now):=by
 unfold hK_ dT_ bU_;refine aa_ (aO_ _ _ (nl2 z)) (aa_ (d5_ _ j) ?_);cases vU user with
 | false=>rfl
 | true =>
  refine ab_ rfl ?_;cases hi:(ai_ s.Xg.Xz id).2 with
  | false=>unfold isS;rw[hi];rfl
  | true =>
   have h:isS s id=true:=hi;rw[h];refine ab_ rfl (aa_ (a := !(ed_ s user (ak_ s id))) ?_ ?_)
   .have:=ref_above f z user h;simpa only[Option.bind_fun_some]using this
   .cases ed_ s user (ak_ s id)with
    | false=>rfl
    | true =>
     refine ab_ rfl (aa_ rfl (aa_ (vB_ s.Xg id user (av_ now) f.tr) ?_));show _=some (bif(eo_ s.Xg id user (av_ now)).2 != 0 then _ else _);cases(eo_ s.Xg id user (av_ now)).2 != 0 with
     | true=>rfl
     | false=>exact ab_ rfl (aa_ (q3_ _ id (by have:=z.el;show s.Xa.length<=1000;omega)) rfl)
theorem sr_{s:Xj}(f:FileOK s)(z:SizeOK s)(user:Str)(id mode now:Int)(h:user.length<=9223372036854775807)(hm:mode<=9223372036854775807):lT_ s user id mode now=some (mv_ s user id mode now):=by
 unfold lT_ mv_;refine aa_ (q3_ _ id (by have:=z.el;omega)) ?_;rw[(fM_ _ hm).2.2.2.1];simp only[qBs];cases al_ mode 6 with
 | false=>rfl
 | true =>
  have:=rq_ (out_ok f id) (out_size z id) user id now h;unfold setX at this;rw[this];rfl
theorem refnums_eq(x:Yf):jj_ x=some (mw_ x):=by
 unfold jj_ oL_ gy_ mw_ okIn f8_;simp only[qBs];generalize((x.Yt == -1)||(decide (x.Yt>=0)&&decide (x.Yt<=65534)))=m;generalize((x.Zy == -1)||(decide (x.Zy>=0)&&decide (x.Zy<=4294967294)))=a2;generalize((x.Ya.Yt == -1)||(decide (x.Ya.Yt>=0)&&(bF_ .i64 x.Ya.Yt 232==x.Ya.Yt)))=a3;generalize((x.Ya.Xs == -1)||(decide (x.Ya.Xs>=0)&&decide (x.Ya.Xs<=2147483647)))=a4;generalize((x.Ya.Zj == -1)||(decide (x.Ya.Zj>=0)&&decide (x.Ya.Zj<=1099511627776)))=a5;generalize((x.Xv == -1)||(decide (x.Xv>=0)&&(bF_ .i64 x.Xv 3892314623==x.Xv)))=j;generalize((x.Yj == -1)||(decide (x.Yj>=0)&&decide (x.Yj<=1099511627776)))=h;generalize((x.Xl == -1)||(decide (x.Xl>=0)&&decide (x.Xl<=1099511627776)))=f
 generalize((x.Xt == -1)||(decide (x.Xt>=0)&&decide (x.Xt<=9007199254740991)))=a9;cases m<;>cases a2<;>cases a3<;>cases a4<;>cases a5<;>cases j<;>cases h<;>cases f<;>cases a9<;>rfl
theorem wU_(x:Yf)(f:x.Xh.length<=9223372036854775807):lV_ x=some (f9_ x):=by
 unfold lV_ f9_;rw[refnums_eq,g2_ _ f];simp only[qBs];have em:∀n:Nat,decide ((n:Int)>64) = !decide (n<=64):=λn=>by
  rw[qK];simp only[qL,qDe,qDf];omega
 rw[em,em,em];unfold okTexts;cases mw_ x<;>cases(x.Xh==[])<;>cases(x.Xh==[47])<;>cases bs_ x.Xh<;>cases decide (x.Yg.length<=64)<;>cases decide (x.Yq.length<=64)<;>cases decide (x.Ym.length<=64)<;>simp
theorem sets_eq{s:Xj}(z:SizeOK s)(user:Str)(n:Xq)(d:Yf)(h:n.Xv<=9223372036854775807)(f:d.Xv<=9223372036854775807):nk_ s user n d=some (setsS s user n d):=by
 unfold nk_ qP_ setsS oU_ ownsS;rw[p2_ _ _ _ z.ul z.um,p2_ _ _ _ z.ul z.um,kJ_ _ _ _ z.ul z.um,(fM_ _ h).1,(fM_ _ f).1,fmade_eq _ f];simp only[qBs];cases user==n.Yg<;>cases gP_ s.Yz user n.Yq<;>cases d.Xv != -1<;>cases al_ d.Xv 31==al_ n.Xv 31<;>cases aD_ d.Xv<;>cases d.Xl != -1<;>cases d.Yq==[]<;>cases d.Yq==n.Yq<;>cases dS_ s.Yz user d.Yq<;>cases gP_ s.Yz user d.Yq<;>rfl
theorem wV_{s:Xj}(f:FileOK s)(z:SizeOK s)(user:Str)(id:Int)(m:user.length<=9223372036854775807)(d:Yf)(j:DirB d):jm_ s user id d=some (dz_ s user id d):=by
 unfold jm_ dz_ bU_;refine aa_ (aO_ _ _ (nl2 z)) (aa_ (d5_ _ m) ?_);cases vU user with
 | false=>rfl
 | true =>
  refine ab_ rfl ?_;cases hi:(ai_ s.Xg.Xz id).2 with
  | false=>unfold isS;rw[hi];rfl
  | true =>
   have h:isS s id=true:=hi;rw[h];show _=some (jG_ s user (ak_ s id) d);unfold jG_;refine ab_ rfl (aa_ (wU_ d j.2.2) ?_);cases f9_ d != 0 with
   | true=>rfl
   | false =>
    refine ab_ rfl (aa_ (a:=(d.Yt != -1||d.Zy != -1) || !decide (d.Ya=Zm.mk (-1) (-1) (-1))) (by cases d.Yt != -1||d.Zy != -1<;>rfl) ?_);show(bif mx_ d then _ else _)=some (bif mx_ d then _ else _);cases mx_ d with
    | true=>rfl
    | false =>
     refine ab_ rfl (aa_ (vv_ f z user _ _ j.2.2).2 ?_);show(bif dx_ s user (ak_ s id) d.Xh != 0 then _ else _)=some (bif dx_ s user (ak_ s id) d.Xh != 0 then _ else _);cases dx_ s user (ak_ s id) d.Xh != 0 with
     | true=>rfl
     | false =>
      refine ab_ rfl (aa_ (vw_ f z user h _).2 ?_);show(bif dy_ s user (ak_ s id) d.Xt != 0 then _ else _)=some (bif dy_ s user (ak_ s id) d.Xt != 0 then _ else _);cases dy_ s user (ak_ s id) d.Xt != 0 with
      | true=>rfl
      | false=>exact ab_ rfl (aa_ (sets_eq z user _ d (cj_ f id) j.2.1) rfl)
theorem outX_not{l:List Int}{x:Int}(h:x∉l):cQ_ l x=l:=by
 unfold cQ_;rw[jT];intro y f;have:y≠x:=λe=>h (e▸f)
 simpa using this
theorem ref_wstat_eq{s:Xj}(f:FileOK s)(z:SizeOK s)(user:Str)(id:Int)(d:Yf)(now:Int)(u:user.length<=9223372036854775807)(j:DirB d):lX_ s user id d now=some (hX_ s user id d now):=by
 unfold lX_ hX_;refine aa_ (wV_ f z user id u d j) ?_;cases q:dz_ s user id d != 0 with
 | true=>rfl
 | false =>
  obtain⟨hi,kA,kB,kC,iC,mC⟩:=po_ f now q;refine ab_ rfl (aa_ (aO_ _ _ (nl2 z)) (aa_ (a:=putTr s (bR_ s.Xg user id (ak_ s id) d now)) ?_ (aa_ (a:=putTr s (ce_ (bR_ s.Xg user id (ak_ s id) d now) user id (ak_ s id) d now)) ?_ (aa_ (a:=ga_ (ak_ s id) d) ?_ (aa_ (a:=putTr s (cz_ (ce_ (bR_ s.Xg user id (ak_ s id) d now) user id (ak_ s id) d now) id (ak_ s id) d)) ?_ (aa_ (a:=(s.Yz,s.Yx,(cz_ (ce_ (bR_ s.Xg user id (ak_ s id) d now) user id (ak_ s id) d now) id (ak_ s id) d).Xn,(cz_ (ce_ (bR_ s.Xg user id (ak_ s id) d now) user id (ak_ s id) d now) id (ak_ s id) d).Xz,hW_ s.Xa id d)) ?_ rfl))))))
  .unfold bR_;show(bif !(d.Xh==[]) && !(d.Xh==(ak_ s id).Xh)then _ else _)=_;cases !(d.Xh==[]) && !(d.Xh==(ak_ s id).Xh)with
   | true=>exact af_ rfl (aa_ rfl (aa_ (vC_ s.Xg id d.Xh user (av_ now) f.tr j.2.2) rfl))
   | false=>rfl
  .generalize C:bR_ s.Xg user id (ak_ s id) d now=tA at kA;unfold ce_;show(bif d.Xt != -1&&d.Xt != ((ak_ s id).Xd.length:Int)then _ else _)=_;cases d.Xt != -1&&d.Xt != ((ak_ s id).Xd.length:Int)with
   | true=>exact af_ rfl (aa_ rfl (aa_ (oV_ tA id d.Xt user (av_ now) kA.ok) rfl))
   | false=>rfl
  .unfold ga_;show(bif d.Yq==(ak_ s id).Yq then _ else _)=_;cases d.Yq==(ak_ s id).Yq<;>rfl
  .generalize y:ce_ (bR_ s.Xg user id (ak_ s id) d now) user id (ak_ s id) d now=tB at kB;unfold cz_;cases(d.Xv != -1||d.Xl != -1) || !(ga_ (ak_ s id) d==[])with
   | true=>exact af_ rfl (aa_ (wS_ tB id d.Xv _ d.Xl kB.ok j.2.1) rfl)
   | false=>rfl
  .generalize x:cz_ (ce_ (bR_ s.Xg user id (ak_ s id) d now) user id (ak_ s id) d now) id (ak_ s id) d=tC at kC iC mC;refine aa_ (aO_ _ _ (by have:=kC.len;show tC.Xz.length<=2000;omega)) (aa_ (fM_ _ (lm_ kC id)).2.2.1 ?_);show(bif !(al_ (ai_ tC.Xz id).1.Xv 29)then _ else _)=_;rw[mC];have p:eu_ s.Xa id=some (cQ_ s.Xa id):=q3_ _ id (by have:=z.el;omega);unfold hW_;cases hm:d.Xv != -1 with
   | true =>
    simp only[qn,zY];cases al_ d.Xv 29 with
    | true=>rfl
    | false=>exact af_ rfl (aa_ p rfl)
   | false =>
    simp only[qw,Bool.false_and];cases m:al_ (ak_ s id).Xv 29 with
    | true=>rfl
    | false =>
     refine af_ rfl (aa_ p ?_);rw[outX_not (λh=>by rw[(f.exc id h).2]at m;cases m)];rfl
theorem ref10_new_eq(root:Str)(now:Int):oK_ root 493 now=some (newT root now):=by
 unfold oK_;refine aa_ (dg_ root) (aa_ (dg_ root) (aa_ (dg_ root) (aa_ (rfl:fo_ now=some (av_ now)) (aa_ (rfl:fo_ now=some (av_ now)) ?_))));have e:w64 (2147483648+(bF_ .i64 493 511))=2147484141:=by kernel_rfl
 rw[e];rfl
theorem ref_new_eq(u:List Xb)(q:List Xe)(root:Str)(now:Int)(h:u.length<=1000)(hm:smallM u)(j:mq_ u)(m:q.length<=1000)(f:pY_ q)(hr:root.length<=9223372036854775807):hI_ u q root now=some (go_ u q root now):=by
 unfold hI_ go_;refine aa_ (pW_ u h hm.fit j) ?_;cases eZ_ u != 0 with
 | true=>rfl
 | false =>
  refine ab_ rfl (aa_ (wL_ q m f) ?_);cases hS_ q != 0 with
  | true=>rfl
  | false =>
   refine ab_ rfl (aa_ (d5_ _ hr) ?_);cases vU root with
   | false=>rfl
   | true=>exact ab_ rfl (aa_ rfl (aa_ (ref10_new_eq root (av_ now)) rfl))
open Go.Sort
theorem lv_{α:Type}{R:α->α->Prop}:∀{f l2:List α},f.Perm l2->f.Pairwise R->l2.Pairwise R->(∀a,a∈f->∀b,b∈f->R a b->R b a->a=b)->f=l2
 | [],l2,j,_,_,_=>j.nil_eq
 | a::f,[],j,_,_,_=>absurd j.length_eq (by simp)
 | a::f,b::l2,j,O,M,D=>by
  have p:=zN.1 O;have m:=zN.1 M;have s:a=b:=by
   by_cases e:a=b
   .exact e
   have J:a∈b::l2:=j.subset qD;have C:b∈a::f:=j.symm.subset qD;rcases qW.1 J with h|u
   .exact h
   rcases qW.1 C with h|q
   .exact h.symm
   exact D a qD b C (p.1 b q) (m.1 a u)
  subst s;rw[lv_ j.cons_inv p.2 m.2 λx G y F=>D x (qC _ G) y (qC _ F)]
def leK{α:Type}(key:α->Int)(x y:α):Bool:=decide (key x<=key y)
theorem key_inj{α:Type}{key:α->Int}:∀{l:List α},(l.map key).Nodup->∀a,a∈l->∀b,b∈l->key a=key b->a=b
 | [],_,a,m,_,_,_=>by cases m
 | x::l,h,a,m,b,q,e=>by
  rw[zB]at h;obtain⟨p,s⟩:=jb.1 h;rcases qW.1 m with j|j<;>rcases qW.1 q with f|f
  .rw[j,f]
  .rw[j]at e;exact absurd (zQ.2 ⟨b,f,e.symm⟩) p
  .rw[f]at e;exact absurd (zQ.2 ⟨a,j,e⟩) p
  .exact key_inj s a j b f e
theorem pp_{α:Type}[Inhabited α]{key:α->Int}{xs p:List α}(h:gI_ key xs=some p):p.Perm xs/\p.Pairwise λa b=>leK key a b=true:=by
 unfold gI_ at h;split at h
 .obtain rfl:=qSj h;have C:=pdq_sorts (λ(x y:α)=>decide (key x<key y)) ⟨λx=>by simp,λx y z u m=>by simp at *;omega,λx y z u m=>by simp at *;omega⟩ xs.toArray 0 xs.length (Lib.bitLen xs.length) true true (qq _) (by simp) (Or.inl rfl);generalize Sort.pdq (λ(x y:α)=>decide (key x<key y)) xs.toArray 0 xs.length (Lib.bitLen xs.length) true true=d at C;obtain⟨⟨u,_,m⟩,F⟩:=C;have f:d.size=xs.length:=by simpa using u
  have J:d.extract 0 xs.length=d:=by rw[←f];simp
  have G:xs.toArray.extract 0 xs.length=xs.toArray:=by
   have:xs.length=xs.toArray.size:=by simp
   rw[this];simp
  rw[J,G]at m;refine⟨by simpa using m,zK.2 λi j hi D s => ?_⟩;have q:j<xs.length:=by simpa[f]using D
  have:=F i j (qq _) s q;rw[getElem!_pos d j (by omega),getElem!_pos d i (by omega)]at this;unfold leK;simp only[qDe,qDf]at *
  simpa using this
 .cases h
end Go.Proofs.YtebokaoegomboaaGreatDoor
namespace Go.Proofs.YtebokaoegomboaaGreatDoor
open Go.Rt Go.RowKit
theorem ua_:gY_=some true:=by kernel_rfl
theorem put_loop(n:Int)(w:Nat)(m:w<=8):am_ (hE_ (List.replicate w (0:Int)) n) BIG (0,List.replicate w (0:Int))=some (leL n w):=by
 have p:BIG=18446744073709551616:=rfl;have h:=be_ (body:=hE_ (List.replicate w (0:Int)) n) (λi=>((i:Int),leL n i++List.replicate (w-i) (0:Int))) w (by omega) (b:=leL n w) (λi hi => ?_) ?_
 .simpa[leL]using h
 .unfold hE_;have f:decide ((i:Int)<((List.replicate w (0:Int)).length:Int))=true:=by simp;omega
  simp only[f,qn];rw[tX_ n i (by omega)];simp only[qBs];have q:(leL n i++List.replicate (w-i) (0:Int)).length=w:=by simp[leL_len];omega
  rw[au_ (by omega:i<(leL n i++List.replicate (w-i) (0:Int)).length)];simp only[qBs,qTn];rw[aq_ (n:=(i:Int)+1) ⟨by omega,by omega⟩,wu8];have j:=set_mid (leL n i) (w-(i+1)) (0:Int) (kG_ n i);rw[leL_len,show w-(i+1)+1=w-i by omega]at j;rw[leL_succ];show some (Step.next ((i:Int)+1,(leL n i++List.replicate (w-i) (0:Int)).set i (kG_ n i)))=_;rw[j];rfl
 .unfold hE_;have f:decide ((w:Int)<((List.replicate w (0:Int)).length:Int))=false:=by simp
  simp only[f,qw];simp
def fitsW(n:Int)(w:Nat):Bool:=decide (0<=n)&&(decide (8<=w)||decide (n<2^(8*w)))
theorem yt_(n:Int)(w:Nat)(x:1<=w)(s:w<=8):gg_ n (w:Int)=some (if fitsW n w then(leB n w,0)else([],5)):=by
 unfold gg_;refine ab_ (by rw[qh];exact⟨by simp;omega,by simp;omega⟩) ?_;refine aa_ (a := !(fitsW n w)) ?_ ?_
 .unfold fitsW;by_cases p:n<0
  .refine af_ (by simpa using p) ?_;have:decide (0<=n)=false:=by simp;omega
   rw[this];rfl
  .refine ab_ (by simpa using p) ?_;have j:decide (0<=n)=true:=by simp;omega
   rw[j];by_cases h:w<8
   .have m:decide (8<=w)=false:=by simp;omega
    rw[m];refine aa_ (a := !decide (n<2^(8*w))) (af_ (by simp;omega) (aa_ (tX_ n w h) ?_)) (by simp);have q:(0:Int)<2^(8*w):=Int.pow_pos (by omega);rw[Int.fdiv_eq_ediv_of_nonneg _ (by omega)]
    congr 1
    by_cases f:n<2^(8*w)
    .rw[Int.ediv_eq_zero_of_lt (by omega) f];simp[f]
    .have:1<=n/2^(8*w):=by
      rw[Int.le_ediv_iff_mul_le q];omega
     simp[f];omega
   .have m:decide (8<=w)=true:=by simp;omega
    rw[m];exact aa_ (a:=false) (ab_ (by simp;omega) rfl) rfl
 .cases u:fitsW n w with
  | false=>exact af_ rfl rfl
  | true =>
   refine ab_ rfl ?_;refine aa_ (tW_ (by omega) (by omega) (by omega)) ?_;rw[qTn];exact aa_ (put_loop n w s) rfl
theorem kN_(n:Int)(w:Nat)(m:1<=w)(j:w<=8)(p:0<=n)(f:w<8->n<2^(8*w)):gg_ n (w:Int)=some (leB n w,0):=by
 rw[yt_ n w m j,qV];unfold fitsW;rw[qAn,qP];refine⟨by simpa using p,?_⟩;rcases qN w 8 with h|h
 .exact .inr (by simpa using f h)
 .exact .inl (by simpa using h)
def b1_(s:Str):Str:=leB (s.length:Int) 2++s
theorem b2_(s:Str):(b1_ s).length=2+s.length:=by simp[b1_,aM_]
theorem text_put(s:Str)(h:s.length<=65535):gN_ s=some (b1_ s,0):=by
 unfold gN_;have c:decide ((s.length:Int)>65535)=false:=by simp;omega
 rw[c];simp only[qw];have f:=kN_ (s.length:Int) 2 (by omega) (by omega) (by omega) (λ_=>by show(s.length:Int)<2^16;omega);rw[show((2:Nat):Int)=2 from rfl]at f;rw[f];simp only[qBs];rw[bK_ (by rw[aM_];omega)];rfl
def leV:Str->Nat | []=>0|b::r=>b.toNat+256*leV r
theorem leV_lt:∀(s:Str),leV s<2^(8*s.length)
 | []=>by simp[leV]
 | b::r=>by
  have h:=leV_lt r;have f:=b.toNat_lt;simp only[leV,qLc];rw[show 8*(r.length+1)=8*r.length+8 by omega,Nat.pow_add];omega
def win(s:Str)(at_ w:Nat):Str:=(s.drop at_).take w
theorem jZ_{s:Str}{at_ w:Nat}(h:at_+w<=s.length):(win s at_ w).length=w:=by simp[win];omega
theorem q4_{s:Str}{at_ w j:Nat}(h:at_+w<=s.length)(m:j<w):(win s at_ w).drop (w-(j+1))=s[at_+(w-1-j)]'(by omega)::(win s at_ w).drop (w-j):=by
 have f:=jZ_ h;rw[zV (by omega:w-(j+1)<(win s at_ w).length)]
 congr 1
 .simp only[win,List.getElem_take,List.getElem_drop]
  congr 1
  omega
 .congr 1
  omega
theorem or_byte(a b:Nat)(f:b<256):(a*256)|||b=a*256+b:=by
 have:=Nat.shiftLeft_add_eq_or_of_lt (i:=8) (b:=b) (by omega) a;rw[Nat.shiftLeft_eq]at this;exact this.symm
theorem get_loop(s:Str)(at_ w:Nat)(J:1<=w)(G:w<=8)(h:at_+w<=s.length)(D:s.length<=9223372036854775807):am_ (hC_ s (at_:Int)) BIG (0,w64 ((w:Int)-1))=some (leV (win s at_ w):Int):=by
 have F:BIG=18446744073709551616:=rfl;have p:=be_ (body:=hC_ s (at_:Int)) (λj=>(((leV ((win s at_ w).drop (w-j)):Nat):Int),(w:Int)-1-(j:Int))) w (by omega) (b:=(leV (win s at_ w):Int)) (λj u => ?_) ?_
 .have e:(win s at_ w).drop (w-0)=[]:=jI (by rw[jZ_ h];omega);simp only[e,leV]at p;rw[aq_ ⟨by omega,by omega⟩];simpa using p
 .unfold hC_;have f:=leV_lt ((win s at_ w).drop (w-j));have m:((win s at_ w).drop (w-j)).length=j:=by rw[qS,jZ_ h];omega
  rw[m]at f;have q:2^(8*j)<=2^56:=zI (by omega) (by omega);refine af_ (by simp;omega) ?_;have ei:w64 ((at_:Int)+((w:Int)-1-(j:Int)))=((at_+(w-1-j):Nat):Int):=by
   rw[aq_ ⟨by omega,by omega⟩];omega
  show Option.bind (cx_ s (w64 ((at_:Int)+((w:Int)-1-(j:Int))))) _=_;rw[ei];refine aa_ (lj_ (by omega)) ?_;rw[q4_ h u];simp only[leV];generalize s[at_+(w-1-j)]'(by omega)=b;have x:=b.toNat_lt;generalize leV ((win s at_ w).drop (w-j))=v at f ⊢;show some (Step.next (orI .u64 (IntKind.u64.wrap ((v:Int)*2^8)) (IntKind.u64.wrap (b.toNat:Int)),w64 ((w:Int)-1-(j:Int)-1)))=_;have C:IntKind.u64.wrap ((v:Int)*2^8)=((v*256:Nat):Int):=by rw[wu64];omega
  have y:IntKind.u64.wrap (b.toNat:Int)=(b.toNat:Int):=by rw[wu64];omega
  rw[C,y,orI_u64 (by omega) (by omega),or_byte _ _ x,aq_ ⟨by omega,by omega⟩]
  congr 3
  .omega
  .omega
 .unfold hC_;refine ab_ (by simp;omega) ?_;simp
theorem get_eq(s:Str)(at_ w:Nat)(q:1<=w)(p:w<=8)(h:at_<=s.length)(m:s.length<=9223372036854775807) :
  mk_ s (at_:Int) (w:Int)=some (if s.length-at_<w then(0,0,3)else if leV (win s at_ w)>9223372036854775807 then(0,0,5)else((leV (win s at_ w):Int),((at_+w:Nat):Int),0)):=by
 unfold mk_;refine ab_ (by simp;omega) ?_;have el:w64 ((s.length:Int)-(at_:Int))=((s.length-at_:Nat):Int):=by rw[aq_ ⟨by omega,by omega⟩];omega
 rw[el];by_cases f:s.length-at_<w
 .rw[qV f];exact af_ (by simp;omega) rfl
 .rw[qX f];refine ab_ (by simp;omega) ?_;refine aa_ (get_loop s at_ w q p (by omega) m) ?_;by_cases j:leV (win s at_ w)>9223372036854775807
  .rw[qV j];exact af_ (by simp;omega) rfl
  .rw[qX j];refine ab_ (by simp;omega) ?_;rw[aq_ (n:=(leV (win s at_ w):Int)) ⟨by omega,by omega⟩,aq_ (n:=(at_:Int)+(w:Int)) ⟨by omega,by omega⟩];rfl
theorem win_sub(s:Str)(at_ w:Nat)(h:at_+w<=s.length)(f:s.length<=9223372036854775807):bI_ s (at_:Int) (w64 ((at_:Int)+(w:Int)))=some (win s at_ w):=by
 rw[aq_ ⟨by omega,by omega⟩,b5_ (by omega) (by omega) (by omega)]
 congr 1
 simp only[win,qTn];rw[show((at_:Int)+(w:Int)).toNat=at_+w by omega,jE,show at_+w-at_=w by omega]
def takeT(s:Str)(a:Nat):Option (Str×Nat):=if s.length<a+2 then none else if s.length<a+2+leV (win s a 2)then none else some (win s (a+2) (leV (win s a 2)),a+2+leV (win s a 2))
theorem oj_{s t:Str}{a p:Nat}(h:takeT s a=some (t,p)):p<=s.length/\t.length<=s.length/\a+2<=p:=by
 unfold takeT at h;split at h
 .cases h
 .split at h
  .cases h
  .rename_i j f;simp only[qOi,qF]at h;obtain⟨rfl,rfl⟩:=h;refine⟨by omega,?_,by omega⟩;rw[jZ_ (by omega)];omega
theorem leV_two(s:Str)(a:Nat)(h:a+2<=s.length):leV (win s a 2)<65536:=by
 have:=leV_lt (win s a 2);rw[jZ_ h]at this;exact this
theorem gettext_eq(s:Str)(a:Nat)(h:a<=s.length)(u:s.length<=2000000):i8_ s (a:Int)=some (match takeT s a with|none=>([],0,3)|some (t,p)=>(t,(p:Int),0)):=by
 unfold i8_;have f:=get_eq s a 2 (by omega) (by omega) h (by omega);rw[show((2:Nat):Int)=2 from rfl]at f;unfold takeT;by_cases m:s.length<a+2
 .rw[qV (by omega)]at f;rw[qV m];refine aa_ f ?_;exact af_ rfl rfl
 .have q:=leV_two s a (by omega);rw[qX (by omega),qX (by omega)]at f;rw[qX m];refine aa_ f ?_;refine ab_ rfl ?_;have ew:w64 ((s.length:Int)-((a+2:Nat):Int))=((s.length-(a+2):Nat):Int):=by rw[aq_ ⟨by omega,by omega⟩];omega
  have ex:w64 (((a+2:Nat):Int)+(leV (win s a 2):Int))=((a+2+leV (win s a 2):Nat):Int):=by rw[aq_ ⟨by omega,by omega⟩];omega
  by_cases j:s.length<a+2+leV (win s a 2)
  .rw[qV j];refine af_ ?_ rfl;show decide (w64 ((s.length:Int)-((a+2:Nat):Int))<(leV (win s a 2):Int))=true;rw[ew];simp only[qDe];omega
  .rw[qX j];refine ab_ ?_ ?_
   .show decide (w64 ((s.length:Int)-((a+2:Nat):Int))<(leV (win s a 2):Int))=false;rw[ew];simp only[qDf];omega
   refine aa_ (win_sub s (a+2) (leV (win s a 2)) (by omega) (by omega)) ?_;show some (_,w64 (((a+2:Nat):Int)+(leV (win s a 2):Int)),(0:Int))=_;rw[ex]
theorem leV_leL:∀(w:Nat) (n:Nat),n<2^(8*w)->leV (leB (n:Int) w)=n:=by
 have key:∀(l:Str) (b:UInt8),leV (l++[b])=leV l+2^(8*l.length)*b.toNat:=by
  intro l
  induction l with
  | nil=>intro b;simp[leV]
  | cons a l f =>
   intro b;simp only[qR,leV,f,qLc];rw[show 8*(l.length+1)=8*l.length+8 by omega,Nat.pow_add,Nat.mul_add];have:256*(2^(8*l.length)*b.toNat)=2^(8*l.length)*2^8*b.toNat:=by
    rw[show(2:Nat)^8=256 from rfl,jQ (2^(8*l.length)) 256,Nat.mul_assoc]
   omega
 have gen:∀(w n:Nat),leV (leB (n:Int) w)=n%2^(8*w):=by
  intro w
  induction w with
  | zero=>intro n;simp[leB,leL,bytesS,leV,Nat.mod_one]
  | succ w f =>
   intro n;have m:(kG_ (n:Int) w).toNat=n/2^(8*w)%256:=by
    unfold kG_;have h:((2:Int)^(8*w))=((2^(8*w):Nat):Int):=by simp
    rw[h,Int.fdiv_eq_ediv_of_nonneg _ (Int.natCast_nonneg _)];have:((n:Int)/((2^(8*w):Nat):Int))=((n/2^(8*w):Nat):Int):=rfl;rw[this];generalize n/2^(8*w)=q;omega
   rw[leB_succ,show bytesS [kG_ (n:Int) w]=[UInt8.ofNat (kG_ (n:Int) w).toNat]from rfl,key,f,aM_,m];have p:(UInt8.ofNat (n/2^(8*w)%256)).toNat=n/2^(8*w)%256:=by simp
   rw[p,show 8*(w+1)=8*w+8 by omega,Nat.pow_add,Nat.mod_mul]
 intro w n j;rw[gen,Nat.mod_eq_of_lt j]
end Go.Proofs.YtebokaoegomboaaGreatDoor
