/-
 What the statements of this seat hang on,part 8: Ub Ur Hs Uw Ho Ha.
-/
import Derived.Test.YtebokaoegomboaaGreatDoorZG7
import Derived.Sort.AssemblyPlain
import Derived.KernelRfl
namespace Go.Proofs.YtebokaoegomboaaGreatDoor
open Go.Rt Go.RowKit
theorem tE_{xs:List Xc}(h:xs.length<=1000):bT_ xs=some xs:=hN_ (n:=56) (by omega) (by omega)
theorem sx_{xs:List Yq}(h:xs.length<=1000):bJ_ xs=some xs:=hN_ (n:=32) (by omega) (by omega)
theorem tF_{xs:List Xq}(h:xs.length<=2000):ce_ xs=some xs:=hN_ (n:=128) (by omega) (by omega)
theorem nF_{xs:List Int}(h:xs.length<=1000):cs_ xs=some xs:=hN_ (n:=8) (by omega) (by omega)
def gM_(l:List Xc)(user group:Str):Bool:=if(d5_ l group).1.Yr==[]then dS_ l user group else(d5_ l group).1.Yr==user
theorem m3_(l:List Xc)(user group:Str)(h:l.length<=1000)(hm:smallM l):in_ l user group=some (gM_ l user group):=by
 unfold in_ gM_;refine aa_ (sr_ l group h hm) ?_;have f:(d5_ l group).2=false->(d5_ l group).1.Yr=[]:=by
  unfold d5_;cases l.find? (dj_ group)with
  | none=>exact λ_=>rfl
  | some u=>exact λh=>nomatch h
 cases j:(d5_ l group).2 with
 | true =>
  cases m:(d5_ l group).1.Yr==[]with
  | true=>exact aa_ (ir_ l user group h hm) rfl
  | false=>rfl
 | false =>
  rw[f j];exact aa_ (ir_ l user group h hm) rfl
theorem py_(x:Int)(k:Nat)(f:k<63)(h:x<=9223372036854775807):jK_ x ((2^k:Nat):Int)=some (al_ x k):=p7_ x k f h
theorem tree_app_eq(x:Int)(f:x<=9223372036854775807):og_ x=some (al_ x 30):=qL some (has_lit x 30 (by omega) f)
theorem andNot_511{n:Nat}(h:n<2^63):da_ .i64 (n:Int) 511=((n-n%512:Nat):Int):=by
 rw[show(511:Int)=((511:Nat):Int)from rfl,pw_ h (by omega)]
 congr 1
 apply jK;intro i;have e:n-n%512=2^9*(n/2^9)+0:=by have:=jb n 512;omega
 rw[jA,e,Nat.testBit_two_pow_mul_add _ (by omega:0<2^9),jD,show 2^64-1-511=2^64-(511+1)by omega,Nat.testBit_two_pow_sub_succ (by omega)];by_cases hi:i<9
 .rw[qV hi];have:(511:Nat).testBit i=true:=by
   have:∀j,j<9->(511:Nat).testBit j=true:=by decide
   exact this i hi
  simp[this]
 .rw[qX hi];have m:(511:Nat).testBit i=false:=zw (zK (by omega:511<2^9) (zI (by omega) (by omega)));rw[m,show i-9+9=i by omega];by_cases f:i<64
  .simp[f]
  .have:n.testBit i=false:=zw (zK h (zI (by omega) (by omega)));simp[this]
theorem sub_two{r:Nat}(h:r<2^63):(da_ .i64 (r:Int) 1610612736==0)=(r==0||r==1073741824||r==536870912||r==1610612736):=by
 have e := @tC_ r 1610612736 h (by omega);rw[show((1610612736:Nat):Int)=1610612736 from rfl]at e;rw[e];rw[show(1610612736:Int)=((1610612736:Nat):Int)from rfl,lC_ h (by omega)];rw[qK,qF];simp only[qT,qF];constructor
 .intro s;have hr:r&&&1610612736=r:=by omega
  have f:=and_le hr;have p:r%2^29=0:=by
   apply jK;intro i;rw[Nat.testBit_mod_two_pow,Nat.zero_testBit];by_cases hi:i<29
   .have m:(1610612736:Nat).testBit i=false:=by
     have:∀j,j<29->(1610612736:Nat).testBit j=false:=by decide
     exact this i hi
    have:=qL (λq=>q.testBit i) hr;simp only[jA,m,Bool.and_false]at this;simp[←this]
   .simp[hi]
  omega
 .rintro(((rfl|rfl)|rfl)|rfl)<;>decide
theorem sy_(x:Int)(j:x<=9223372036854775807):eA_ x=some (aF_ x):=by
 unfold eA_ aF_;by_cases m:0<=x
 .obtain⟨n,rfl⟩:∃n:Nat,x=(n:Int):=⟨x.toNat,by omega⟩;have h:decide ((n:Int)<0)=false:=by simp
  have f:decide (0<=(n:Int))=true:=by simp
  rw[h,f,andNot_511 (by omega),sub_two (by omega)];refine ab_ rfl (qL some ?_);unfold topI;rw[qK];simp only[qT,qF,zY];omega
 .have h:decide (x<0)=true:=by simp;omega
  have f:decide (0<=x)=false:=by simp;omega
  rw[h,f];rfl
def bS_(m:Int):Int×Int:=if 0<=m/\m<128 then(match d9_ m with|some r=>r|none=>(0,12))else(0,12)
theorem vG_:((List.range 128).all λn=>(d9_ (n:Int)==gs_ (n:Int))&&(d9_ (n:Int)).isSome)=true:=by kernel_rfl
theorem cq_(m:Int)(hm:I64 m):d9_ m=some (bS_ m):=by
 unfold bS_;by_cases h:0<=m/\m<128
 .rw[qV h];obtain⟨n,rfl⟩:∃n:Nat,m=(n:Int):=⟨m.toNat,by omega⟩;have:=qh.1 vG_ n (List.mem_range.2 (by omega));rw[qAn]at this;cases G:d9_ (n:Int)with
  | none=>rw[G]at this;cases this.2
  | some r=>rfl
 .rw [qX h];unfold d9_;have u:=py_ m 4 (by omega) hm.2;have C:∀q:Int,q<=9223372036854775807->jK_ q 64=some (al_ q 6):=λq F=>py_ q 6 (by omega) F
  simp only[Nat.reducePow,zz]at u;have D:m<0\/128<=m:=by omega
  rw[u];refine aa_ (a:=if al_ m 4 then m-16 else m) ?_ ?_
  .refine aa_ rfl ?_;cases j:al_ m 4 with
   | false=>rfl
   | true =>
    have:0<=m:=by
     rcases Int.lt_or_le m 0 with f|f
     .rw[jN_ f]at j;cases j
     .exact f
    rw[qm,ao_ ⟨by omega,by omega⟩];rfl
  .generalize x:(if al_ m 4 then m-16 else m)=o;have M:o<0\/112<=o:=by
    subst x;cases j:al_ m 4 with
    | false=>simp;omega
    | true =>
     have:0<=m:=by
      rcases Int.lt_or_le m 0 with f|f
      .rw[jN_ f]at j;cases j
      .exact f
     simp;omega
   have J:o<=m:=by subst x;split<;>omega
   rw[C m hm.2];have s:al_ m 6=true->0<=m:=λj=>by
    rcases Int.lt_or_le m 0 with f|f
    .rw[jN_ f]at j;cases j
    .exact f
   have p:0<=m->112<=o:=λy=>by
    subst x;cases al_ m 4<;>simp<;>omega
   have O:m<0->o<0:=λy=>by
    subst x;rw[jN_ y];simpa using y
   refine aa_ (a:=if al_ m 6 then o-64 else o) ?_ ?_
   .refine aa_ rfl ?_;cases j:al_ m 6 with
    | false=>rfl
    | true =>
     have f:=p (s j);have U:=hm.2;rw[qm,ao_ ⟨by omega,by omega⟩];rfl
   .refine ae_ ?_ rfl;rw[qT,qDe,qDe];cases j:al_ m 6 with
    | false=>simp;omega
    | true =>
     have f:=p (s j);simp;omega
theorem sub_bit{x k:Nat}(h:x.testBit k=true)(j:Nat):(x-2^k).testBit j=(x.testBit j && !(j==k)):=by
 have s:x=2^(k+1)*(x/2^(k+1))+(2^k+x%2^k):=by
  have y:=jb x (2^(k+1));have u:x%2^(k+1)=2^k+x%2^k:=by
   rw[Nat.testBit_eq_decide_div_mod_eq,qDe]at h;rw[Nat.pow_succ,Nat.mod_mul,h,Nat.mul_one,Nat.add_comm]
  omega
 have hr:x%2^k<2^k:=jd _ (Nat.two_pow_pos k);have p:2^(k+1)=2^k+2^k:=by rw[Nat.pow_succ];omega
 have q:x-2^k=2^(k+1)*(x/2^(k+1))+x%2^k:=by
  rw (occs := .pos [1]) [s];omega
 rw[q,Nat.testBit_two_pow_mul_add _ (by omega)];by_cases m:j<k+1
 .rw[qV m,Nat.testBit_mod_two_pow];by_cases f:j=k
  .subst f;simp
  .have:j<k:=by omega
   simp[this,f]
 .rw[qX m,jD,show j-(k+1)+(k+1)=j by omega];have:(j==k)=false:=by rw[zZ];omega
  simp[this]
def inhB(d m j:Nat):Bool:=m.testBit j&&(!(d.testBit j)&&(m.testBit 31 || !((j==0)||(j==3)||(j==6))))
theorem inherit_ref(d m:Nat)(hd:d<2^63)(hm:m<2^63):∃r:Nat,es_ (d:Int) (m:Int)=some (r:Int)/\r<=m/\∀j,r.testBit j=(m.testBit j && !(decide (j<9)&&inhB d m j)):=by
 unfold es_
 have key:∀(n k out:Nat),k+n=9->out<=m->(∀j,out.testBit j=(m.testBit j && !(decide (j<k)&&inhB d m j))) ->
   ∃r:Nat,am_ (gt_ (m:Int) (d:Int)) (n+1) ((out:Int),((2^k:Nat):Int))=some (r:Int)/\r<=m/\∀j,r.testBit j=(m.testBit j && !(decide (j<9)&&inhB d m j)):=by
  intro n
  induction n with
  | zero =>
   intro k out U J x;obtain rfl:k=9:=by omega
   exact⟨out,aR_ (by unfold gt_;rfl),J,x⟩
  | succ n C =>
   intro k out U J x;have Z:2^k<=256:=by
    have:2^k<=2^8:=zI (by omega) (by omega);omega
   have M:=Nat.two_pow_pos k;have Y:w64 (2*((2^k:Nat):Int))=((2^(k+1):Nat):Int):=by
    rw[Nat.pow_succ];rw[ao_ ⟨by omega,by omega⟩];omega
   have y:=kZ_ (m:Int) 31 (by omega) (by omega);simp only[Nat.reducePow,zz]at y;have D:((((2^k:Nat):Int)==1)||(((2^k:Nat):Int)==8)||(((2^k:Nat):Int)==64))=((k==0)||(k==3)||(k==6)):=by
    match k,(show k<9 by omega)with
    | 0,_=>rfl
    | 1,_=>rfl
    | 2,_=>rfl
    | 3,_=>rfl
    | 4,_=>rfl
    | 5,_=>rfl
    | 6,_=>rfl
    | 7,_=>rfl
    | 8,_=>rfl
   obtain⟨r,G,F⟩:=C (k+1) (if inhB d m k then out-2^k else out) (by omega) (by split<;>omega) (λj=>by
    cases hi:inhB d m k with
    | false =>
     simp only[qu,jJ];rw[x j];by_cases p:j=k
     .subst p;simp[hi]
     .have:decide (j<k+1)=decide (j<k):=by rw[qK,qDe,qDe];omega
      rw[this]
    | true =>
     simp only[jB];have u:m.testBit k=true:=by unfold inhB at hi;simp only[qAn]at hi;exact hi.1
     have q:out.testBit k=true:=by rw[x k,u];simp
     rw[sub_bit q j,x j];by_cases p:j=k
     .subst p;simp[hi]
     .have:decide (j<k+1)=decide (j<k):=by rw[qK,qDe,qDe];omega
      rw[this];have:(j==k)=false:=by simpa using p
      rw[this];simp)
   refine⟨r,bj_ ?_ G,F⟩;unfold gt_;simp only;refine ae_ (by rw[qDe];omega) ?_;rw[Y,kZ_ (m:Int) k (by omega) (by omega),kZ_ (d:Int) k (by omega) (by omega),y,D];simp only[hO_];refine aa_ (a:=((if inhB d m k then out-2^k else out:Nat):Int)) ?_ rfl;have f:inhB d m k=true->w64 ((out:Int)-((2^k:Nat):Int))=((out-2^k:Nat):Int):=λhi=>by
    have u:m.testBit k=true:=by unfold inhB at hi;simp only[qAn]at hi;exact hi.1
    have q:out.testBit k=true:=by rw[x k,u];simp
    have O:2^k<=out:=Nat.ge_two_pow_of_testBit q;rw[ao_ ⟨by omega,by omega⟩];omega
   revert f;unfold inhB;cases m.testBit k<;>cases d.testBit k<;>cases m.testBit 31<;>cases((k==0)||(k==3)||(k==6))<;>intro f<;>first|rfl|exact qL some (f rfl)
 have V:BIG=18446744073709551606+(9+1):=rfl;have big:∀{σ β:Type} {body:σ->Option (Step σ β)} {n k:Nat} {s:σ} {b:β},am_ body n s=some b->am_ body (k+n) s=some b:=by
  intro σ β body n
  induction n with
  | zero=>intro k s b h;cases h
  | succ n C =>
   intro k s b h;rw[show k+(n+1)=(k+n)+1 by omega];simp only[am_]at h ⊢;split at h
   .exact h
   .exact C h
   .exact h
 obtain⟨r,G,F⟩:=key 9 0 m rfl (qA _) (λj=>by simp);refine⟨r,ab_ (by simp) (aa_ (a:=(r:Int)) ?_ rfl),F⟩;rw[V];exact big G
theorem ot_{a b:Nat}(f:a<2^63)(m:b<2^63):∃r:Nat,da_ .i64 (a:Int) (b:Int)=(r:Int)/\r<2^63/\r<=a/\∀j,r.testBit j=(a.testBit j && !(b.testBit j)):=by
 refine⟨_,pw_ f m,je Nat.and_le_left f,Nat.and_le_left,λj => ?_⟩;rw[jA,show 2^64-1-b=2^64-(b+1)by omega,Nat.testBit_two_pow_sub_succ (by omega)];by_cases h:j<64
 .simp[h]
 .have:a.testBit j=false:=zw (zK f (zI (by omega) (by omega)));simp[this]
theorem bits511(j:Nat):(511:Nat).testBit j=decide (j<9):=by
 by_cases h:j<9
 .have:∀j,j<9->(511:Nat).testBit j=true:=by decide
  simp[h,this j h]
 .have:(511:Nat).testBit j=false:=zw (zK (by omega:511<2^9) (zI (by omega) (by omega)));simp[h,this]
theorem bits438(j:Nat):(438:Nat).testBit j=(decide (j<9) && !((j==0)||(j==3)||(j==6))):=by
 by_cases h:j<9
 .have:∀j,j<9->(438:Nat).testBit j = !((j==0)||(j==3)||(j==6)):=by decide
  simp[h,this j h]
 .have:(438:Nat).testBit j=false:=zw (zK (by omega:438<2^9) (zI (by omega) (by omega)));simp[h,this]
theorem inherit_kind(d m:Int)(Y:0<=d/\d<=9223372036854775807)(hm:0<=m/\m<=9223372036854775807):∃q r,fQ_ d m=some q/\es_ d m=some r/\orI .i64 (da_ .i64 m 511) (bL_ .i64 q 511)=r/\0<=r/\r<=m/\(aF_ m=true->aF_ r=true):=by
 obtain⟨d,rfl⟩:∃n:Nat,d=(n:Int):=⟨d.toNat,by omega⟩;obtain⟨m,rfl⟩:∃n:Nat,m=(n:Int):=⟨m.toNat,by omega⟩;obtain⟨r,U,Z,F⟩:=inherit_ref d m (by omega) (by omega);have u:m<2^63:=by omega
 have h:∃k:Nat,(k=511/\m.testBit 31=true\/k=438/\m.testBit 31=false)/\fQ_ (d:Int) (m:Int)=some (da_ .i64 (m:Int) (da_ .i64 (k:Int) (d:Int))):=by
  have f:=py_ (m:Int) 31 (by omega) (by omega);simp only[Nat.reducePow,zz]at f;unfold fQ_;cases p:m.testBit 31 with
  | true =>
   refine⟨511,.inl ⟨rfl,rfl⟩,ab_ (by simp) ?_⟩;refine aa_ (a:=511) (aa_ f ?_) rfl;rw[hO_,p];rfl
  | false =>
   refine⟨438,.inr ⟨rfl,rfl⟩,ab_ (by simp) ?_⟩;refine aa_ (a:=438) (aa_ f ?_) rfl;rw[hO_,p];rfl
 obtain⟨k,D,O⟩:=h;have x:k<2^63:=by rcases D with⟨rfl,_⟩|⟨rfl,_⟩<;>omega
 obtain⟨a,V,a2,_,a3⟩:=ot_ (a:=k) (b:=d) x (by omega);obtain⟨q,M,y,_,J⟩:=ot_ (a:=m) (b:=a) u a2;obtain⟨t,G,t2,_,t3⟩:=ot_ (a:=m) (b:=511) u (by omega);have hr:t|||(q&&&511)=r:=by
  apply jK;intro j;rw[Nat.testBit_or,jA,t3,J,a3,F,bits511];unfold inhB;rcases D with⟨rfl,p⟩|⟨rfl,p⟩
  .rw[bits511,p];cases m.testBit j<;>cases d.testBit j<;>cases decide (j<9)<;>rfl
  .rw[bits438,p];cases m.testBit j<;>cases d.testBit j<;>cases decide (j<9)<;>cases((j==0)||(j==3)||(j==6))<;>rfl
 refine⟨_,_,by rw[O,V,M],U,?_,by omega,by omega,λs => ?_⟩
 .rw[show(511:Int)=((511:Nat):Int)from rfl,G,lC_ y (by omega),orI_i64 t2 (je Nat.and_le_left y),hr]
 .have C:r/512=m/512:=by
   apply jK;intro j;rw[show(512:Nat)=2^9 from rfl,jD,jD,F];have:decide (j+9<9)=false:=by simp
   rw[this];simp
  unfold aF_ topI at s ⊢;simp only[qAn,qT,qDe,qF]at s ⊢;omega
def nG_(l:List Yq)(name:Str):Yq×Bool:=match l.find? λq=>q.Yt==name with|some u=>(u,true)|none=>(Yq.mk [] 0 0,false)
theorem vH_(l:List Yq)(name:Str):nG_ l name=(aO_ (λ_ q=>if q.Yt==name then some (q,true)else none) 0 l).getD (Yq.mk [] 0 0,false):=by
 rw[hM_];unfold nG_;cases l.find? λq=>q.Yt==name<;>rfl
theorem yA_(l:List Yq)(name:Str)(h:l.length<=1000):qT_ l name=some (nG_ l name):=by
 rw[vH_];refine bk_ (bg_ l _ (bu_ (by omega)) (λi hi => ?_) ?_) (λ_=>rfl) rfl
 .unfold mS_;rw[ap_ hi,aT_ hi,as_ (by omega)];simp only[qm,qBs];cases l[i].Yt==name<;>rfl
 .unfold mS_;rw[be_];rfl
theorem yB_(l:List Yq)(name:Str)(h:l.length<=1000):qV_ l name=some (nG_ l name):=by
 rw[vH_];refine bk_ (bg_ l _ (bu_ (by omega)) (λi hi => ?_) ?_) (λ_=>rfl) rfl
 .unfold mW_;rw[ap_ hi,aT_ hi,as_ (by omega)];simp only[qm,qBs];cases l[i].Yt==name<;>rfl
 .unfold mW_;rw[be_];rfl
def usedN(l:List Xq)(name:Str):Int×Int:=bG_ (λ(s:Int×Int) _ (n:Xq)=>if n.Yg==name then(w64 (s.1+1),w64 (s.2+(n.Xl.length:Int)))else s) (0,0) 0 l
theorem yC_(t:Xv)(name:Str)(h:t.Xz.length<=2000):ns_ t name=some (usedN t.Xz name):=by
 unfold ns_;refine aa_ (a:=usedN t.Xz name) ?_ rfl;refine d4_ (τ:=Int×Int×Int) t.Xz _ (λi s=>(s.1,s.2,(i:Int))) (λ_ _=>True) (λs=>(s.1,s.2)) (0,0) (bu_ (by omega)) trivial (λi s hi _=>⟨?_,trivial⟩) (λs _ => ?_)
 .unfold mT_;simp only;rw[aT_ hi,ap_ hi,as_ (by omega)];refine ae_ rfl ?_;simp only[qBs];cases t.Xz[i].Yg==name<;>rfl
 .unfold mT_;simp only;rw[be_];rfl
theorem yD_(t:Xv)(name:Str)(h:t.Xz.length<=2000):nA_ t name=some (usedN t.Xz name):=by
 unfold nA_;refine aa_ (a:=usedN t.Xz name) ?_ rfl;refine d4_ (τ:=Int×Int×Int) t.Xz _ (λi s=>(s.1,s.2,(i:Int))) (λ_ _=>True) (λs=>(s.1,s.2)) (0,0) (bu_ (by omega)) trivial (λi s hi _=>⟨?_,trivial⟩) (λs _ => ?_)
 .unfold mX_;simp only;rw[aT_ hi,ap_ hi,as_ (by omega)];refine ae_ rfl ?_;simp only[qBs];cases t.Xz[i].Yg==name<;>rfl
 .unfold mX_;simp only;rw[be_];rfl
def mk_(l:List Yq)(t:Xv)(name:Str)(files bytes:Int):Bool:=if !(nG_ l name).2 then true else((decide (files<=0)||decide (files<=w64 ((nG_ l name).1.Xf-(usedN t.Xz name).1)))&&(decide (bytes<=0)||decide (bytes<=w64 ((nG_ l name).1.Zx-(usedN t.Xz name).2))))
theorem ru_(l:List Yq)(t:Xv)(name:Str)(files bytes:Int)(h:l.length<=1000)(f:t.Xz.length<=2000):kx_ l t name files bytes=some (mk_ l t name files bytes):=by
 unfold kx_ mk_;refine aa_ (yA_ l name h) ?_;cases(nG_ l name).2 with
 | false=>rfl
 | true=>exact ab_ rfl (aa_ (yC_ t name f) rfl)
theorem rv_(l:List Yq)(t:Xv)(name:Str)(files bytes:Int)(h:l.length<=1000)(f:t.Xz.length<=2000):kI_ l t name files bytes=some (mk_ l t name files bytes):=by
 unfold kI_ mk_;refine aa_ (yB_ l name h) ?_;cases(nG_ l name).2 with
 | false=>rfl
 | true=>exact ab_ rfl (aa_ (yD_ t name f) rfl)
def posI(l:List Int)(x:Int):Nat:=l.countP λy=>decide (y<x)
theorem cut_of{l:List Int}{x:Int}{p:Nat}(D:p<=l.length)(s:∀k y,k<p->l[k]? = some y->y<x)(q:∀k y,p<=k->l[k]? = some y->x<=y):posI l x=p/\l.take p=l.filter (λy=>decide (y<x))/\l.drop p=l.filter (λy=>decide (x<=y)):=by
 have h:∀y∈l.take p,y<x:=λy f=>by
  rw[List.mem_take_iff_getElem]at f;obtain⟨k,j,rfl⟩:=f;exact s k _ (by omega) (qQ (by omega))
 have m:∀y∈l.drop p,x<=y:=λy f=>by
  obtain⟨k,j⟩:=qM.1 f;rw[zA]at j;exact q (p+k) _ (by omega) j
 have e:l=l.take p++l.drop p:=(zn p l).symm;refine⟨?_,?_,?_⟩
 .unfold posI;rw[e,List.countP_append,List.countP_eq_length.2 (λy f=>by simpa using h y f),List.countP_eq_zero.2 (λy f=>by have:=m y f;simp;omega),qS];omega
 .rw (occs := .pos [2]) [e];rw[List.filter_append,jU.2 (λy f=>by simpa using h y f),jI.2 (λy f=>by have:=m y f;simp;omega),zl]
 .rw (occs := .pos [2]) [e];have C:(l.take p).filter (λy=>decide (x<=y))=[]:=jI.2 (λy f=>by have:=h y f;simp;omega);have u:(l.drop p).filter (λy=>decide (x<=y))=l.drop p:=jU.2 (λy f=>by simpa using m y f);rw[List.filter_append,C,u,zG]
theorem q7_{l:List Int}(f:cb_ l){i j:Nat}{x y:Int}(hi:l[i]? = some x)(m:l[j]? = some y)(h:i<j):x<y:=by
 obtain⟨q,rfl⟩:=qZ.1 hi;obtain⟨p,rfl⟩:=qZ.1 m;exact qq.1 f i j q p h
theorem search_loop(l:List Int)(x:Int)(Y:cb_ l)(hl:l.length<=1000):∃p:Nat,am_ (bn_ l x) BIG (0,(l.length:Int))=some (p:Int)/\p<=l.length/\(∀k y,k<p->l[k]? = some y->y<x)/\∀k y,p<=k->l[k]? = some y->x<=y:=by
 have key:∀(n i j:Nat),j-i<=n->i<=j->j<=l.length->(∀k y,k<i->l[k]? = some y->y<x)->(∀k y,j<=k->l[k]? = some y->x<=y) ->
   ∃p:Nat,am_ (bn_ l x) (n+1) ((i:Int),(j:Int))=some (p:Int)/\p<=l.length/\(∀k y,k<p->l[k]? = some y->y<x)/\∀k y,p<=k->l[k]? = some y->x<=y:=by
  intro n
  induction n with
  | zero =>
   intro i j Z U J O M;obtain rfl:i=j:=by omega
   exact⟨i,aR_ (by unfold bn_;exact ab_ (by simp) rfl),J,O,M⟩
  | succ n F =>
   intro i j Z U J O M;by_cases D:i<j
   .have q:w64 ((IntKind.u64.wrap (w64 ((i:Int)+(j:Int)))).fdiv (2^1))=(((i+j)/2:Nat):Int):=by
     rw[ao_ (n:=(i:Int)+(j:Int)) ⟨by omega,by omega⟩,wu64,Int.emod_eq_of_lt (by omega) (by omega),Int.fdiv_eq_ediv_of_nonneg _ (by omega),ao_ ⟨by omega,by omega⟩];omega
    have hm:(i+j)/2<l.length:=by omega
    have f:cmp_Less_int l[(i+j)/2] x=some (decide (l[(i+j)/2]<x)):=by
     unfold cmp_Less_int cmp_isNaN_int;simp
    by_cases V:l[(i+j)/2]<x
    .obtain⟨p,C,u⟩:=F ((i+j)/2+1) j (by omega) (by omega) J (λk y G m=>by
      rcases qN k ((i+j)/2)with h|h
      .have:=q7_ Y m (qQ hm) h;omega
      .obtain rfl:k=(i+j)/2:=by omega
       rw[qQ hm]at m;obtain rfl:=qSj m;exact V) M
     refine⟨p,bj_ ?_ C,u⟩;unfold bn_;simp only;rw[q,ap_ hm,as_ (by omega)];refine ae_ (by simpa using D) (aa_ rfl (aa_ f ?_));rw[show decide (l[(i+j)/2]<x)=true by simpa using V];rfl
    .obtain⟨p,C,u⟩:=F i ((i+j)/2) (by omega) (by omega) (by omega) O (λk y G m=>by
      rcases qN ((i+j)/2) k with h|h
      .have:=q7_ Y (qQ hm) m h;omega
      .obtain rfl:k=(i+j)/2:=by omega
       rw[qQ hm]at m;obtain rfl:=qSj m;omega)
     refine⟨p,bj_ ?_ C,u⟩;unfold bn_;simp only;rw[q,ap_ hm];refine ae_ (by simpa using D) (aa_ rfl (aa_ f ?_));rw[show decide (l[(i+j)/2]<x)=false by simpa using V];rfl
   .obtain rfl:i=j:=by omega
    exact⟨i,aR_ (by unfold bn_;exact ab_ (by simp) rfl),J,O,M⟩
 have big:∀{σ β:Type} {body:σ->Option (Step σ β)} {n k:Nat} {s:σ} {b:β},am_ body n s=some b->am_ body (k+n) s=some b:=by
  intro σ β body n
  induction n with
  | zero=>intro k s b h;cases h
  | succ n F =>
   intro k s b h;rw[show k+(n+1)=(k+n)+1 by omega];simp only[am_]at h ⊢;split at h
   .exact h
   .exact F h
   .exact h
 obtain⟨p,C,u⟩:=key 1000 0 l.length (by omega) (by omega) (qA _) (λk y G=>by omega) (λk y G m=>by rw[qR G]at m;cases m);exact⟨p,by rw[show BIG=18446744073709550615+(1000+1)from rfl];exact big C,u⟩
theorem search_eq(l:List Int)(x:Int)(s:cb_ l)(U:l.length<=1000):co_ l x=some ((posI l x:Int),decide (x∈l))/\posI l x<=l.length/\l.take (posI l x)=l.filter (λy=>decide (y<x))/\l.drop (posI l x)=l.filter (λy=>decide (x<=y))/\(x∈l->l[posI l x]? = some x):=by
 obtain⟨p,O,D,C,u⟩:=search_loop l x s U;obtain⟨e,Y,V⟩:=cut_of D C u;have j:x∈l->l[p]? = some x:=λq=>by
  obtain⟨k,m⟩:=qM.1 q;rcases Nat.lt_trichotomy k p with h|h|h
  .have:=C k x h m;omega
  .subst h;exact m
  .have f:p<l.length:=by have:=(qZ.1 m).1;omega
   have h5:=q7_ s (qQ f) m h;have Z:=u p _ (qA _) (qQ f);omega
 rw[e];refine⟨?_,D,Y,V,j⟩;unfold co_;refine aa_ O ?_;by_cases f:p<l.length
 .rw[aT_ f,ap_ f];have nan:c5_ l[p]=some false:=by unfold c5_;simp
  rw[show(Option.bind (some l[p]) λM=>Option.bind (c5_ M) λJ=>Option.bind (bif J then Option.bind (c5_ x) λG=>some G else some false) λF=>some F)=some false by simp[nan]];have:(l[p]==x)=decide (x∈l):=by
   rw[qK,qF,qDe];constructor
   .intro h;rw[←h];exact qx f
   .intro h;have:=j h;rw[qQ f]at this;exact qSj this
  simp only[qBs,qm];rw[this];cases decide (x∈l)<;>rfl
 .have:decide ((p:Int)<(l.length:Int))=false:=by simp;omega
  rw[this];have q:decide (x∈l)=false:=by
   rw[qDf];intro h;have:=(qZ.1 (j h)).1;omega
  rw[q];rfl
def eZ_(l:List Int)(x:Int):List Int:=l.filter (λy=>decide (y<x))++x::l.filter (λy=>decide (x<y))
def cM_(l:List Int)(x:Int):List Int:=l.filter λy=>y != x
theorem drop_ge{l:List Int}{x:Int}(h:x∉l):l.filter (λy=>decide (x<=y))=l.filter (λy=>decide (x<y)):=by
 apply List.filter_congr;intro y f;have:y≠x:=λe=>h (e▸f)
 rw[qK,qDe,qDe];omega
theorem drop_ge'{l:List Int}{x:Int}(s:cb_ l)(f:x∈l):l.filter (λy=>decide (x<=y))=x::l.filter (λy=>decide (x<y)):=by
 induction l with
 | nil=>cases f
 | cons a l p =>
  obtain⟨m,C⟩:=ze.1 s;rw[zJ,zJ];rcases qW.1 f with rfl|f
  .have j:decide (x<=x)=true:=by simp
   have h:decide (x<x)=false:=by simp
   rw[j,h];simp only[jB,qu,jJ]
   congr 1
   apply List.filter_congr;intro y q;have:=m y q;rw[qK,qDe,qDe];omega
  .have u:=m x f;have j:decide (x<=a)=false:=by simp;omega
   have h:decide (x<a)=false:=by simp;omega
   rw[j,h];simp only[qu,jJ];exact p C f
theorem putX_mem{l:List Int}{x:Int}(p:cb_ l)(f:x∈l):eZ_ l x=l:=by
 unfold eZ_;rw[←drop_ge' p f]
 induction l with
 | nil=>rfl
 | cons a l u =>
  obtain⟨s,D⟩:=ze.1 p;rw[zJ,zJ];by_cases q:a<x
  .have m:decide (x<=a)=false:=by simp;omega
   rw[qV (by simpa using q),m];simp only[qu,jJ,qa];rcases qW.1 f with rfl|f
   .omega
   .rw[u D f]
  .have m:decide (x<=a)=true:=by simp;omega
   rw[qX (by simpa using q),m];have C:l.filter (λy=>decide (y<x))=[]:=by
    rw[jI];intro y h;have:=s y h;simp;omega
   have j:l.filter (λy=>decide (x<=y))=l:=by
    rw[jU];intro y h;have:=s y h;simp;omega
   rw[C,j];simp
theorem outX_cut{l:List Int}{x:Int}(u:cb_ l):cM_ l x=l.filter (λy=>decide (y<x))++l.filter (λy=>decide (x<y)):=by
 unfold cM_
 induction l with
 | nil=>rfl
 | cons a l f =>
  obtain⟨D,j⟩:=ze.1 u;rw[zJ,zJ,zJ];rcases Int.lt_trichotomy a x with h|h|h
  .have q:(a != x)=true:=by rw[zM];omega
   have p:decide (a<x)=true:=by simpa using h
   have m:decide (x<a)=false:=by simp;omega
   rw[q,p,m];simp only[jB,qu,jJ,qa];rw[f j]
  .subst h;simp only[bne_self_eq_false,qu,jJ,Int.lt_irrefl,decide_false];exact f j
  .have q:(a != x)=true:=by rw[zM];omega
   have p:decide (a<x)=false:=by simp;omega
   have m:decide (x<a)=true:=by simpa using h
   rw[q,p,m];simp only[jB,qu,jJ];have C:l.filter (λy=>decide (y<x))=[]:=by
    rw[jI];intro y s;have:=D y s;simp;omega
   rw[f j,C];rfl
theorem tG_{l:List Int}{x:Int}(h:cb_ l):cb_ (eZ_ l x):=by
 unfold cb_ eZ_;refine List.pairwise_append.2 ⟨h.filter _,ze.2 ⟨λy j => ?_,h.filter _⟩,λa m b f => ?_⟩
 .simpa using(zR.1 j).2
 .have p:a<x:=by simpa using(zR.1 m).2
  rcases qW.1 f with rfl|f
  .exact p
  .have q:x<b:=by simpa using(zR.1 f).2
   omega
theorem ml_{l:List Int}{x:Int}(f:cb_ l):cb_ (cM_ l x):=f.filter _
theorem mem_putX{l:List Int}{x y:Int}:y∈eZ_ l x↔y=x\/y∈l/\y≠x:=by
 unfold eZ_;rw[qY,qW,zR,zR,qDe,qDe];constructor
 .rintro(⟨f,j⟩|h|⟨f,j⟩)
  .exact .inr ⟨f,by omega⟩
  .exact .inl h
  .exact .inr ⟨f,by omega⟩
 .rintro(h|⟨f,j⟩)
  .exact .inr (.inl h)
  .rcases Int.lt_or_gt_of_ne j with h|h
   .exact .inl ⟨f,h⟩
   .exact .inr (.inr ⟨f,h⟩)
theorem mem_outX{l:List Int}{x y:Int}:y∈cM_ l x↔y∈l/\y≠x:=by
 unfold cM_;rw[zR,zM]
theorem putX_len(l:List Int)(x:Int):(eZ_ l x).length<=l.length+1:=by
 unfold eZ_;rw[qLa,qLc];have:(l.filter (λy=>decide (y<x))).length+(l.filter (λy=>decide (x<y))).length<=l.length:=by
  induction l with
  | nil=>simp
  | cons a l j =>
   rw[zJ,zJ];by_cases h:a<x
   .have f:¬x<a:=by omega
    simp only[h,f,decide_true,decide_false,jB,qu,jJ,qLc];omega
   .by_cases f:x<a
    .simp only[h,f,decide_true,decide_false,jB,qu,jJ,qLc];omega
    .simp only[h,f,decide_false,qu,jJ,qLc];omega
 omega
theorem ou_(l:List Int)(x:Int):(cM_ l x).length<=l.length:=jk _ _
theorem insN_one{xs:List Int}{p:Nat}{x:Int}(h:p<=xs.length)(f:xs.length<=1000):insN 8 xs (p:Int) [x]=some (xs.take p++x::xs.drop p):=by
 show(if 0<=(p:Int)/\(p:Int)<=(xs.length:Int)/\(xs.length+(0+1))*8<=140737488355328 then some (xs.take (p:Int).toNat++([x]++xs.drop (p:Int).toNat))else none)=_;rw[qV ⟨by omega,by omega,by omega⟩,qTn];rfl
theorem delN_one{α:Type}{xs:List α}{p:Nat}(h:p<xs.length):delN xs (p:Int) ((p+1:Nat):Int)=some (xs.take p++xs.drop (p+1)):=by
 cases xs with
 | nil=>simp at h
 | cons a l =>
  show(if 0<=(p:Int)/\(p:Int)<=((p+1:Nat):Int)/\((p+1:Nat):Int)<=((a::l).length:Int)then some ((a::l).take (p:Int).toNat++(a::l).drop ((p+1:Nat):Int).toNat)else none)=_;rw[qV ⟨by omega,by omega,by omega⟩,qTn,qTn]
def setX(s:Xj)(l:List Int):Xj:=Xj.mk s.Yz s.Yx s.Xy l
theorem lock_eq(s:Xj)(x:Int)(j:cb_ s.Xt)(h:s.Xt.length<=1000):hA_ s x=some (setX s (eZ_ s.Xt x)):=by
 obtain⟨u,q,p,m,y⟩:=search_eq s.Xt x j h;unfold hA_ setX;refine aa_ (a:=(s.Yz,s.Yx,s.Xy.Xp,s.Xy.Xz,eZ_ s.Xt x)) ?_ rfl;refine aa_ u ?_;by_cases f:x∈s.Xt
 .rw[show decide (x∈s.Xt)=true by simpa using f,putX_mem j f];rfl
 .rw[show decide (x∈s.Xt)=false by simpa using f];refine ae_ rfl (aa_ (nF_ h) (aa_ (a:=eZ_ s.Xt x) ?_ rfl));refine(insN_one q h).trans ?_;rw[p,m,drop_ge f];rfl
theorem sz_(s:Xj)(x:Int)(h:cb_ s.Xt)(m:s.Xt.length<=1000):eS_ s x=some (setX s (cM_ s.Xt x)):=by
 obtain⟨D,F,C,u,q⟩:=search_eq s.Xt x h m;unfold eS_ setX;refine aa_ (a:=(s.Yz,s.Yx,s.Xy.Xp,s.Xy.Xz,cM_ s.Xt x)) ?_ rfl;refine aa_ D ?_;by_cases f:x∈s.Xt
 .rw[show decide (x∈s.Xt)=true by simpa using f];have j:=(qZ.1 (q f)).1;refine ae_ rfl (aa_ (nF_ m) (aa_ (a:=cM_ s.Xt x) ?_ rfl));rw[as_ (by omega)];refine(delN_one j).trans ?_;rw[outX_cut h,C]
  congr 2
  rw[←jV,u,drop_ge' h f];rfl
 .rw[show decide (x∈s.Xt)=false by simpa using f];have:cM_ s.Xt x=s.Xt:=by
   unfold cM_;rw[jU];intro y p;rw[zM];exact λe=>f (e▸p)
  rw[this];rfl
theorem yE_(l:List Int)(x:Int)(m:l.length<=1000):d1_ l x=some (decide (x∈l)):=by
 have h:g6_ l x=some (at_ (λy=>y==x) l):=by
  rw[←j7_];refine bk_ (bg_ l _ (bu_ (by omega)) (λi hi => ?_) ?_) (λ_=>rfl) rfl
  .unfold fA_;rw[ap_ hi,aT_ hi,as_ (by omega)];simp only[qm,qBs];have e:(x==l[i])=(l[i]==x):=by rw[qK,qF,qF];exact⟨Eq.symm,Eq.symm⟩
   rw[e];cases l[i]==x<;>rfl
  .unfold fA_;rw[be_];rfl
 unfold d1_;refine aa_ h ?_;rw[at_any]
 congr 1
 rw[qK,zg,qDe];constructor
 .rintro⟨y,j,f⟩;rw[qF]at f;exact f▸j
 .intro h;exact⟨x,h,by simp⟩
def cO_(s:Str):Str:=bif decide ((s.length:Int)>64)then[]else s
theorem i5_{n:Xq}(h:bb_ n=true):0<=n.Xo/\n.Xo<=2147483647:=by
 unfold bb_ at h;simp only[qAn,qDe]at h;exact h.1.1.1.1.1.2
theorem okNode_dir{n:Xq}(h:bb_ n=true)(j:al_ n.Xk 31=true):n.Xl=[]:=by
 unfold bb_ at h;simp only[qAn,qT,j,qF]at h;rcases h.2 with f|f
 .cases f
 .exact f
theorem fb_(t:Xv)(h:t.Xz.length<=2000):aH_ t=some t:=by
 unfold aH_;refine aa_ (uc_ (by omega) (by omega) (by omega)) ?_;rw[qTn];have:nb_ (List.replicate t.Xz.length (Xq.mk 0 0 0 [] 0 [] [] [] 0 0 [])) t.Xz=t.Xz:=by
  unfold nb_;simp
 rw[this]
def aM_(l:List Xq)(n:Xq):List Xq:=l.map λm=>bif m.Id_==n.Id_ then n else m
theorem c6_(l:List Xq)(n:Xq):(aM_ l n).length=l.length:=by simp[aM_]
theorem q8_{l:List Xq}(s:l.Pairwise λa b=>a.Id_<b.Id_){i:Nat}{m n:Xq}(hi:l[i]? = some m)(C:n.Id_=m.Id_):l.set i n=aM_ l n:=by
 apply zL;intro j;unfold aM_;rw[zS,qi];have y:=(qZ.1 hi).1;by_cases f:i=j
 .subst f;rw[qV rfl,qV y,hi];simp[C]
 .rw[qX f];cases D:l[j]? with
  | none=>rfl
  | some x =>
   have u:(x.Id_==n.Id_)=false:=by
    rw[zZ];intro e;obtain⟨p,rfl⟩:=qZ.1 D;obtain⟨q,rfl⟩:=qZ.1 hi;rw[qq]at s;rcases Nat.lt_trichotomy i j with h|h|h
    .have:=s i j q p h;omega
    .exact f h
    .have:=s j i p q h;omega
   simp[u]
def aU_(n:Xq)(uid:Str)(now:Int):Xq:=Xq.mk n.Id_ n.Xh ((w64 (n.Xo+1)).tmod 2147483648) n.Xg n.Xk n.Yg n.Yj (cO_ uid) n.Yw (ax_ now) n.Xl
theorem fc_(s:Str):eG_ s=some (cO_ s):=by unfold eG_ cO_;cases decide ((s.length:Int)>64)<;>rfl
theorem is_(t:Xv)(i:Nat)(n:Xq)(uid:Str)(now:Int)(hi:t.Xz[i]? = some n)(m:t.Xz.Pairwise λa b=>a.Id_<b.Id_)(q:0<=n.Xo/\n.Xo<=2147483647):dl_ t (i:Int) uid now=some (Xv.mk t.Xp (aM_ t.Xz (aU_ n uid now))):=by
 have j:=(qZ.1 hi).1;have h:∀x:Xq,an_ (t.Xz.set i x) (i:Int)=some x:=λx=>by
  rw[bt_,zS,qV rfl,qV j]
 have f:w64 (n.Xo+1)=n.Xo+1:=ao_ ⟨by omega,by omega⟩;rw[←q8_ m hi (n:=aU_ n uid now) rfl];unfold dl_;rw[bt_,hi];refine aa_ rfl ?_;simp only[qTn];by_cases p:n.Xo=2147483647
 .have ec:decide (w64 (n.Xo+1)>2147483647)=true:=by rw[f,qDe];omega
  refine aa_ (ae_ ec rfl) ?_;rw[List.set_set];refine aa_ (h _) (aa_ rfl (aa_ (fc_ uid) ?_));rw[List.set_set,List.set_set];have:(w64 (n.Xo+1)).tmod 2147483648=0:=by rw[f,p];rfl
  unfold aU_;rw[this];rfl
 .have ec:decide (w64 (n.Xo+1)>2147483647)=false:=by rw[f,qDf];omega
  refine aa_ (ab_ ec rfl) ?_;refine aa_ (h _) (aa_ rfl (aa_ (fc_ uid) ?_));rw[List.set_set,List.set_set];have:(w64 (n.Xo+1)).tmod 2147483648=w64 (n.Xo+1):=by
   rw[f,zj (by omega),Int.emod_eq_of_lt (by omega) (by omega)]
  unfold aU_;rw[this];rfl
def newN(t:Xv)(dir:Int)(name:Str)(mode:Int)(uid gid:Str)(now:Int):Xq:=Xq.mk t.Xp dir 0 name mode (cO_ uid) (cO_ gid) (cO_ uid) (ax_ now) (ax_ now) []
def f3_(t:Xv)(dir:Int)(name:Str)(mode:Int)(uid gid:Str)(now:Int):Xv×Int×Int:=bif !(ai_ t.Xz dir).2 then(t,0,8)else bif !(al_ (ai_ t.Xz dir).1.Xk 31)then(t,0,9)else bif !(bv_ name)then(t,0,6)else bif !(aF_ mode)then(t,0,1)else bif(t.Xz.find? (cf_ dir name)).isSome then(t,0,7)else bif decide ((t.Xz.length:Int)>=1024)||decide (t.Xp>1048575)then(t,0,22)else(Xv.mk (w64 (t.Xp+1)) (aM_ t.Xz (aU_ (ai_ t.Xz dir).1 uid now)++[newN t dir name mode uid gid now]),t.Xp,0)
theorem at_pos{α:Type}(p:α->Bool)(l:List α):decide (at_ p l>=0)=(l.find? p).isSome:=by
 have:=kW_ p l;have e:decide (at_ p l>=0) = !decide (at_ p l<0):=by rw[qK];simp
 rw[e,this];cases l.find? p<;>rfl
theorem wZ_(t:Xv)(dir:Int)(name:Str)(mode:Int)(uid gid:Str)(now:Int)(h:OkT t.Xz t.Xp)(hm:mode<=9223372036854775807)(m:name.length<=9223372036854775807):l2_ t dir name mode uid gid now=some (f3_ t dir name mode uid gid now):=by
 have s:=h.len;have f:=fb_ t (by omega);unfold l2_ f3_;refine aa_ (sn_ t dir h) ?_;unfold nO_;cases j:(ai_ t.Xz dir).2 with
 | false=>exact aa_ f rfl
 | true =>
  cases u:al_ (ai_ t.Xz dir).1.Xk 31 with
  | false=>exact aa_ f rfl
  | true =>
   refine ab_ rfl (aa_ (ip_ name m) ?_);cases bv_ name with
   | false=>exact aa_ f rfl
   | true =>
    refine ab_ rfl (aa_ (mZ_ mode hm) ?_);cases aF_ mode with
    | false=>exact aa_ f rfl
    | true =>
     refine ab_ rfl (aa_ (uk_ t dir name (by omega)) ?_);rw[at_pos];cases(t.Xz.find? (cf_ dir name)).isSome with
     | true=>exact aa_ f rfl
     | false =>
      refine ab_ rfl ?_;cases decide ((t.Xz.length:Int)>=1024)||decide (t.Xp>1048575)with
      | true=>exact aa_ f rfl
      | false =>
       obtain⟨i,q,p,x⟩:=at_id j;refine ab_ rfl (aa_ f (aa_ (dD_ t dir (by omega)) ?_));rw[q];refine aa_ (is_ t i _ uid now p h.srt (i5_ (h.flds _ (aA_ j).1))) ?_;refine aa_ rfl (aa_ (fc_ uid) (aa_ (fc_ gid) (aa_ (fc_ uid) (aa_ (bm_ ?_ ?_) rfl))))
       .simp[c6_];omega
       .simp[c6_];omega
def en_(t:Xv)(id:Int)(uid:Str)(now:Int):Xv×Int:=bif !(ai_ t.Xz id).2 then(t,8)else bif id==1 then(t,1)else bif decide (((aQ_ t.Xz id).length:Int)>0)then(t,23)else(Xv.mk t.Xp ((aM_ t.Xz (aU_ (ai_ t.Xz (ai_ t.Xz id).1.Xh).1 uid now)).filter λn=>n.Id_ != id),0)
theorem filter_cut{l:List Xq}(q:l.Pairwise λa b=>a.Id_<b.Id_){i:Nat}{m:Xq}(hi:l[i]? = some m):(l.filter λn=>n.Id_ != m.Id_)=l.take i++l.drop (i+1):=by
 induction l generalizing i with
 | nil=>simp at hi
 | cons x l p =>
  obtain⟨j,u⟩:=ze.1 q;rw[zJ];cases i with
  | zero =>
   simp at hi;subst hi;simp only[bne_self_eq_false,qu,jJ,List.take_zero,zG,List.drop_succ_cons,zo];rw[jU];intro n s;have:=j n s;rw[zM];omega
  | succ i =>
   have f:l[i]? = some m:=by simpa using hi
   have:=j m (qb f);have h:(x.Id_ != m.Id_)=true:=by rw[zM];omega
   rw[h,p u f];rfl
theorem gx_{l:List Xq}(j:l.Pairwise λa b=>a.Id_<b.Id_)(n:Xq):(aM_ l n).Pairwise λa b=>a.Id_<b.Id_:=by
 unfold aM_;rw[List.pairwise_map];refine j.imp fun{a b} f => ?_
 have ea:(bif a.Id_==n.Id_ then n else a).Id_=a.Id_:=by
  cases h:a.Id_==n.Id_ with
  | true=>exact(qF.1 h).symm
  | false=>rfl
 have eb:(bif b.Id_==n.Id_ then n else b).Id_=b.Id_:=by
  cases h:b.Id_==n.Id_ with
  | true=>exact(qF.1 h).symm
  | false=>rfl
 rw[ea,eb];exact f
theorem updN_get{l:List Xq}{n:Xq}{i:Nat}{m:Xq}(h:l[i]? = some m):∃f,(aM_ l n)[i]? = some f/\f.Id_=m.Id_:=by
 unfold aM_;rw[qi,h];refine⟨_,rfl,?_⟩;show(bif m.Id_==n.Id_ then n else m).Id_=m.Id_;cases h:m.Id_==n.Id_ with
 | true=>exact(qF.1 h).symm
 | false=>rfl
theorem w0_(t:Xv)(id:Int)(uid:Str)(now:Int)(h:OkT t.Xz t.Xp):l6_ t id uid now=some (en_ t id uid now):=by
 have hl:=h.len;have x:=fb_ t (by omega);unfold l6_ en_;refine aa_ (dD_ t id (by omega)) ?_;cases G:(ai_ t.Xz id).2 with
 | false =>
  rw[nE_ G];exact aa_ x rfl
 | true =>
  obtain⟨i,e1,O,e3⟩:=at_id G;rw[e1];refine ab_ (by simp) ?_;cases Z:id==1 with
  | true=>exact aa_ x rfl
  | false =>
   refine ab_ rfl (aa_ (jP_ t id h) ?_);cases decide (((aQ_ t.Xz id).length:Int)>0)with
   | true=>exact aa_ x rfl
   | false =>
    obtain⟨hm,u⟩:=aA_ G;have D:(ai_ t.Xz id).1.Id_≠1:=by rw[u];simpa using Z
    obtain⟨p,C,y,Y,V⟩:=h.par _ hm D;have s:=ca_ h.srt C;rw[y]at s;have J:(ai_ t.Xz (ai_ t.Xz id).1.Xh).2=true:=by rw[s]
    obtain⟨j,f1,f2,f3⟩:=at_id J;refine ab_ rfl (aa_ x (aa_ (a:=(ai_ t.Xz id).1) (by rw[bt_,O]) (aa_ (dD_ t _ (by omega)) ?_)));rw[f1];refine aa_ (is_ t j _ uid now f2 h.srt (i5_ (h.flds _ (aA_ J).1))) ?_;generalize F:aM_ t.Xz (aU_ (ai_ t.Xz (ai_ t.Xz id).1.Xh).1 uid now)=U;have m:U.length=t.Xz.length:=by rw[←F,c6_]
    rw[as_ (by omega)];refine aa_ (bV_ (by omega) (by omega) (by simp only[m];omega)) (aa_ (bV_ (by omega) (by simp only[m];omega) (by omega)) (aa_ (bV_ (by omega) (by omega) (by simp only[m];omega)) ?_));have q:U.Pairwise λa b=>a.Id_<b.Id_:=by rw[←F];exact gx_ h.srt _
    obtain⟨m',M,g2⟩:=updN_get (n:=aU_ (ai_ t.Xz (ai_ t.Xz id).1.Xh).1 uid now) O;rw[F]at M;have f:=filter_cut q M;rw[g2,u]at f;rw[f];simp only[qTn,Int.toNat_zero,zo];refine aa_ (bm_ ?_ ?_) rfl
    .simp;omega
    .simp;omega
def putD(n:Xq)(d:Str):Xq:=Xq.mk n.Id_ n.Xh n.Xo n.Xg n.Xk n.Yg n.Yj n.Ym n.Yw n.Xe d
def bO_(n:Xq)(s:Str):Xq:=Xq.mk n.Id_ n.Xh n.Xo s n.Xk n.Yg n.Yj n.Ym n.Yw n.Xe n.Xl
theorem nH_{l:List Xq}{id:Int}(h:(e3_ l id != 0)=false):(ai_ l id).2=true/\al_ (ai_ l id).1.Xk 31=false:=by
 unfold e3_ at h;cases j:(ai_ l id).2<;>cases f:al_ (ai_ l id).1.Xk 31<;>rw[j,f]at h<;>first|exact⟨rfl,rfl⟩|(cases h)
def fitS(s:Str)(n:Nat):Str:=s.take n++List.replicate (n-s.length) 0
theorem lH_(s:Str)(n:Nat):(fitS s n).length=n:=by simp[fitS];omega
theorem tH_(s:Str)(n:Nat)(f:s.length<=65536)(j:n<=65536):oh_ s (n:Int)=some (fitS s n):=by
 unfold oh_ fitS;by_cases h:n<=s.length
 .refine ae_ (by simpa using h) (aa_ (bV_ (by omega) (by omega) (by omega)) ?_);rw[qTn,Int.toNat_zero,zo,show n-s.length=0 by omega];simp
 .refine ab_ (by simp;omega) ?_;rw[ao_ ⟨by omega,by omega⟩,show(n:Int)-(s.length:Int)=((n-s.length:Nat):Int)by omega];have hr:strings_Repeat [0] ((n-s.length:Nat):Int)=some (List.replicate (n-s.length) 0):=by
   unfold strings_Repeat;rw[qV ⟨by omega,by omega,by rw[qTn,jj];omega⟩];simp
  refine aa_ hr (aa_ (bI_ (by simp;omega)) ?_);rw[qf (by omega)]
def cN_(t:Xv)(id size:Int)(uid:Str)(now:Int):Xv×Int:=bif e3_ t.Xz id != 0 then(t,e3_ t.Xz id)else bif decide (size<0)then(t,1)else bif decide (size>65536)then(t,4)else bif size==((ai_ t.Xz id).1.Xl.length:Int)then(t,0)else(Xv.mk t.Xp (aM_ t.Xz (aU_ (putD (ai_ t.Xz id).1 (fitS (ai_ t.Xz id).1.Xl size.toNat)) uid now)),0)
theorem upd_upd{l:List Xq}{a b:Xq}(h:a.Id_=b.Id_):aM_ (aM_ l a) b=aM_ l b:=by
 unfold aM_;rw[List.map_map]
 congr 1
 funext m
 show(bif(bif m.Id_==a.Id_ then a else m).Id_==b.Id_ then b else(bif m.Id_==a.Id_ then a else m))=_;cases hm:m.Id_==a.Id_ with
 | true =>
  have:=qF.1 hm;simp[h,this]
 | false=>rfl
theorem vI_{t:Xv}{k:Nat}{m n:Xq}(q:t.Xz[k]? = some m)(j:n.Id_=m.Id_)(p:t.Xz.Pairwise λa b=>a.Id_<b.Id_)(s:0<=n.Xo/\n.Xo<=2147483647)(uid:Str)(now:Int) :
  dl_ (Xv.mk t.Xp (t.Xz.set k n)) (k:Int) uid now=some (Xv.mk t.Xp (aM_ t.Xz (aU_ n uid now))):=by
 have h:=(qZ.1 q).1;have f:=q8_ p q j;rw[is_ (Xv.mk t.Xp (t.Xz.set k n)) k n uid now (by simp only;rw[zS,qV rfl,qV h]) (by simp only;rw[f];exact gx_ p n) s];simp only;rw[f,upd_upd (by rfl)]
theorem qd_(t:Xv)(id size:Int)(uid:Str)(now:Int)(h:OkT t.Xz t.Xp):iZ_ t id size uid now=some (cN_ t id size uid now):=by
 have C:=h.len;have f:=fb_ t (by omega);obtain⟨i,y,x⟩:=ss_ t id h;unfold iZ_ cN_;refine aa_ y ?_;cases s:e3_ t.Xz id != 0 with
 | true=>exact aa_ f rfl
 | false =>
  obtain⟨k,rfl,j⟩:=x s;have hm:=qb j;have u:=i4_ (h.flds _ hm);have q:=i5_ (h.flds _ hm);refine ab_ rfl ?_;by_cases m:size<0
  .rw[show decide (size<0)=true by simpa using m];exact aa_ f rfl
  .by_cases p:size>65536
   .rw[show decide (size<0)=false by simpa using m,show decide (size>65536)=true by simpa using p];exact aa_ f rfl
   .rw[show decide (size<0)=false by simpa using m,show decide (size>65536)=false by simpa using p];refine ab_ rfl (ab_ rfl (aa_ (a:=(ai_ t.Xz id).1) (by rw[bt_,j]) ?_));cases size==((ai_ t.Xz id).1.Xl.length:Int)with
    | true=>exact aa_ f rfl
    | false =>
     refine ab_ rfl (aa_ f (aa_ (a:=(ai_ t.Xz id).1) (by rw[bt_,j]) ?_));obtain⟨n,rfl⟩:∃n:Nat,size=(n:Int):=⟨size.toNat,by omega⟩;refine aa_ (tH_ _ n u (by omega)) (aa_ (a:=(ai_ t.Xz id).1) (by rw[bt_,j]) ?_);refine aa_ (vI_ j (n:=putD (ai_ t.Xz id).1 (fitS (ai_ t.Xz id).1.Xl n)) rfl h.srt q uid now) rfl
def wrS(old:Str)(o:Nat)(data:Str):Str:=fitS old o++data++old.drop (o+data.length)
def hP_(t:Xv)(id offset:Int)(data uid:Str)(now:Int):Xv×Int×Int :=
 bif e3_ t.Xz id != 0 then(t,0,e3_ t.Xz id)else bif decide (offset<0)then(t,0,1)else bif data==[]then(t,0,0)else
 let o:=bif al_ (ai_ t.Xz id).1.Xk 30 then((ai_ t.Xz id).1.Xl.length:Int)else offset
 bif decide (o+(data.length:Int)>65536)then(t,0,4)else
 (Xv.mk t.Xp (aM_ t.Xz (aU_ (putD (ai_ t.Xz id).1 (wrS (ai_ t.Xz id).1.Xl o.toNat data)) uid now)),(data.length:Int),0)
theorem drop_min(s:Str)(k:Nat):s.drop (min k s.length)=s.drop k:=by
 rcases qN k s.length with f|f
 .rw[zk (by omega)]
 .rw[jR f,jM f,jM (qA _)]
theorem yF_(t:Xv)(id offset:Int)(data uid:Str)(now:Int)(h:OkT t.Xz t.Xp)(V:offset<=9223372036854775807)(J:data.length<=9223372036854775807):nt_ t id offset data uid now=some (hP_ t id offset data uid now):=by
 have Y:=h.len;have q:=fb_ t (by omega);obtain⟨i,U,O⟩:=ss_ t id h;unfold nt_ hP_;refine aa_ U ?_;cases G:e3_ t.Xz id != 0 with
 | true=>exact aa_ q rfl
 | false =>
  obtain⟨k,rfl,m⟩:=O G;have hm:=qb m;have y:=i4_ (h.flds _ hm);have u:=i5_ (h.flds _ hm);have j:=h.hm hm;refine ab_ rfl ?_;by_cases D:offset<0
  .rw[show decide (offset<0)=true by simpa using D];exact aa_ q rfl
  .rw [show decide (offset<0)=false by simpa using D];refine ab_ rfl ?_;cases data==[]with
   | true=>exact aa_ q rfl
   | false =>
    refine ab_ rfl (aa_ (a:=(ai_ t.Xz id).1) (by rw[bt_,m]) ?_);have x:=tree_app_eq _ j;generalize hN:(ai_ t.Xz id).1=N at y u x m;generalize C:(bif al_ N.Xk 30 then(N.Xl.length:Int)else offset)=o;have F:0<=o/\o<=9223372036854775807:=by
     subst C;cases al_ N.Xk 30
     .simp;omega
     .simp;omega
    refine aa_ (a:=o) (aa_ (a:=N) (by rw[bt_,m]) (aa_ x ?_)) ?_
    .rw[←C];cases al_ N.Xk 30<;>rfl
    .simp only[qr];by_cases f:o+(data.length:Int)>65536
     .have s:decide (o+(data.length:Int)>65536)=true:=by simpa using f
      rw[s];refine ae_ ?_ (aa_ q rfl);rw[qT,qDe,qDe];by_cases M:o>65536
      .exact .inl M
      .rw[ao_ ⟨by omega,by omega⟩];exact .inr (by omega)
     .have s:decide (o+(data.length:Int)>65536)=false:=by simpa using f
      rw[s];refine ab_ ?_ ?_
      .rw[ao_ ⟨by omega,by omega⟩];simp;omega
      .refine aa_ q ?_;obtain⟨p,rfl⟩:∃p:Nat,o=(p:Int):=⟨o.toNat,by omega⟩;refine aa_ (tH_ _ p y (by omega)) (aa_ (bI_ (by rw[lH_];omega)) ?_);rw[ao_ ⟨by omega,by omega⟩,show(p:Int)+(data.length:Int)=((p+data.length:Nat):Int)by omega,q6_ _ _ (by omega),qTn];refine aa_ (bV_ (by omega) (by omega) (by omega)) ?_;rw[qTn,qTn,jo,drop_min];refine aa_ (bI_ (by simp[lH_];omega)) ?_;refine aa_ (a:=N) (by rw[bt_,m]) ?_;refine aa_ (vI_ m (n:=putD N (wrS N.Xl p data)) rfl h.srt u uid now) ?_;simp only[qTn,qr]
def eT_(t:Xv)(id:Int)(name uid:Str)(now:Int):Xv×Int:=bif !(ai_ t.Xz id).2 then(t,8)else bif id==1 then(t,1)else bif !(bv_ name)then(t,6)else bif(ai_ t.Xz id).1.Xg==name then(t,0)else bif(t.Xz.find? (cf_ (ai_ t.Xz id).1.Xh name)).isSome then(t,7)else(Xv.mk t.Xp (aM_ (aM_ t.Xz (bO_ (ai_ t.Xz id).1 name)) (aU_ (ai_ (aM_ t.Xz (bO_ (ai_ t.Xz id).1 name)) (ai_ t.Xz id).1.Xh).1 uid now)),0)
theorem mem_updN{l:List Xq}{n x:Xq}(f:x∈aM_ l n):∃m∈l,x.Id_=m.Id_/\(x=m/\m.Id_≠n.Id_\/x=n/\m.Id_=n.Id_):=by
 unfold aM_ at f;obtain⟨m,hm,rfl⟩:=qz.1 f;refine⟨m,hm,?_⟩;cases h:m.Id_==n.Id_ with
 | true=>exact⟨(qF.1 h).symm,.inr ⟨rfl,qF.1 h⟩⟩
 | false=>exact⟨rfl,.inl ⟨rfl,by simpa using h⟩⟩
theorem ov_{l:List Xq}{n m:Xq}(hm:m∈l):(bif m.Id_==n.Id_ then n else m)∈aM_ l n:=qz.2 ⟨m,hm,rfl⟩
theorem childT_mem{l:List Xq}{dir:Int}:(decide (((aQ_ l dir).length:Int)>0))=l.any λn=>n.Xh==dir&&n.Id_ != 1:=by
 unfold aQ_;rw[qK,qDe,zg,zq];have:(((l.filter λn=>n.Xh==dir&&n.Id_ != 1).length:Nat):Int)>0↔0<(l.filter λn=>n.Xh==dir&&n.Id_ != 1).length:=by omega
 rw[this,List.length_pos_iff_exists_mem];exact⟨λ⟨n,f⟩=>⟨n,(zR.1 f).1,(zR.1 f).2⟩,λ⟨n,j,h⟩=>⟨n,zR.2 ⟨j,h⟩⟩⟩
theorem w1_ (t:Xv) (id:Int) (name uid:Str) (now:Int) (h:OkT t.Xz t.Xp) (Y:name.length<=9223372036854775807):l7_ t id name uid now=some (eT_ t id name uid now):=by
 have hl:=h.len;have s:=fb_ t (by omega);unfold l7_ eT_;refine aa_ (dD_ t id (by omega)) ?_;cases J:(ai_ t.Xz id).2 with
 | false =>
  rw[nE_ J];exact aa_ s rfl
 | true =>
  obtain⟨i,e1,x,e3⟩:=at_id J;rw[e1];refine ab_ (by simp) ?_;cases h2:id==1 with
  | true=>exact aa_ s rfl
  | false =>
   refine ab_ rfl (aa_ (ip_ name Y) ?_);cases h3:bv_ name with
   | false=>exact aa_ s rfl
   | true =>
    refine ab_ rfl (aa_ (a:=(ai_ t.Xz id).1) (by rw[bt_,x]) ?_);have e4:(name==(ai_ t.Xz id).1.Xg)=((ai_ t.Xz id).1.Xg==name):=by rw[qK,qF,qF];exact⟨Eq.symm,Eq.symm⟩
    rw[e4];cases(ai_ t.Xz id).1.Xg==name with
    | true=>exact aa_ s rfl
    | false =>
     refine ab_ rfl (aa_ (a:=(ai_ t.Xz id).1) (by rw[bt_,x]) (aa_ (uk_ t _ name (by omega)) ?_));rw[at_pos];cases(t.Xz.find? (cf_ (ai_ t.Xz id).1.Xh name)).isSome with
     | true=>exact aa_ s rfl
     | false =>
      obtain⟨hm,G⟩:=aA_ J;have F:(ai_ t.Xz id).1.Id_≠1:=by rw[G];simpa using h2
      obtain⟨p,u,D,U,O⟩:=h.par _ hm F;have q:=q8_ h.srt x (n:=bO_ (ai_ t.Xz id).1 name) rfl;have m:=gx_ h.srt (bO_ (ai_ t.Xz id).1 name);have C:p∈aM_ t.Xz (bO_ (ai_ t.Xz id).1 name):=by
       have:=ov_ (n:=bO_ (ai_ t.Xz id).1 name) u;have Z:(p.Id_==(bO_ (ai_ t.Xz id).1 name).Id_)=false:=by
        rw[zZ];show p.Id_≠(ai_ t.Xz id).1.Id_;omega
       rw[Z]at this;exact this
      have f:=ca_ m C;rw[D]at f;have V:(ai_ (aM_ t.Xz (bO_ (ai_ t.Xz id).1 name)) (ai_ t.Xz id).1.Xh).2=true:=by rw[f]
      obtain⟨j,f1,f2,f3⟩:=at_id V;refine ab_ rfl (aa_ s (aa_ (a:=(ai_ t.Xz id).1) (by rw[bt_,x]) ?_));simp only[qTn];rw[show t.Xz.set i (Xq.mk (ai_ t.Xz id).1.Id_ (ai_ t.Xz id).1.Xh (ai_ t.Xz id).1.Xo name (ai_ t.Xz id).1.Xk (ai_ t.Xz id).1.Yg (ai_ t.Xz id).1.Yj (ai_ t.Xz id).1.Ym (ai_ t.Xz id).1.Yw (ai_ t.Xz id).1.Xe (ai_ t.Xz id).1.Xl)=aM_ t.Xz (bO_ (ai_ t.Xz id).1 name)from q];refine aa_ (a:=bO_ (ai_ t.Xz id).1 name) (by rw[bt_,←q,zS,qV rfl,qV e3]) ?_;refine aa_ (dD_ _ _ (by rw[c6_];omega)) ?_;have y:0<=p.Xo/\p.Xo<=2147483647:=i5_ (h.flds _ u);have M:(aM_ t.Xz (bO_ (ai_ t.Xz id).1 name))[j]? = some p:=by rw[f2,f]
      show Option.bind (dl_ (Xv.mk t.Xp (aM_ t.Xz (bO_ (ai_ t.Xz id).1 name))) (at_ (eI_ (ai_ t.Xz id).1.Xh) (aM_ t.Xz (bO_ (ai_ t.Xz id).1 name))) uid now) _=_;rw[f1];refine aa_ (is_ _ j p uid now M m y) ?_;rw[f];rfl
def e4_(n:Xq)(mode:Int)(gid:Str)(mtime:Int):Xq:=Xq.mk n.Id_ n.Xh n.Xo n.Xg (bif mode != -1 then mode else n.Xk) n.Yg (bif !(cO_ gid==[])then gid else n.Yj) n.Ym n.Yw (bif mtime != -1 then mtime else n.Xe) n.Xl
def hQ_(t:Xv)(id mode:Int)(gid:Str)(mtime:Int):Xv×Int:=bif !(ai_ t.Xz id).2 then(t,8)else bif(mode != -1)&&(!(aF_ mode) || !(al_ mode 31==al_ (ai_ t.Xz id).1.Xk 31))then(t,1)else bif(mtime != -1)&&(decide (mtime<0)||decide (mtime>1099511627776))then(t,5)else(Xv.mk t.Xp (aM_ t.Xz (e4_ (ai_ t.Xz id).1 mode gid mtime)),0)
theorem short_or(gid:Str)(h:(cO_ gid==[])=false):cO_ gid=gid:=by
 unfold cO_ at h ⊢;cases f:decide ((gid.length:Int)>64)with
 | true=>rw[f]at h;cases h
 | false=>rfl
theorem yG_ (t:Xv) (id mode:Int) (gid:Str) (mtime:Int) (h:OkT t.Xz t.Xp) (s:mode<=9223372036854775807):nx_ t id mode gid mtime=some (hQ_ t id mode gid mtime):=by
 have V:=h.len;have u:=fb_ t (by omega);unfold nx_ hQ_;refine aa_ (dD_ t id (by omega)) ?_;cases G:(ai_ t.Xz id).2 with
 | false =>
  rw[nE_ G];exact aa_ u rfl
 | true =>
  obtain⟨i,O,p,M⟩:=at_id G;rw[O];have F:=iq_ h id;generalize hN:(ai_ t.Xz id).1=N at p F;refine ab_ (by simp) (aa_ (a:=(mode != -1)&&(!(aF_ mode) || !(al_ mode 31==al_ N.Xk 31))) ?_ ?_)
  .cases mode != -1 with
   | false=>rfl
   | true =>
    refine ae_ rfl (aa_ (mZ_ mode s) ?_);cases aF_ mode with
    | false=>rfl
    | true =>
     refine aa_ (a := !(al_ mode 31==al_ N.Xk 31)) ?_ rfl;exact ab_ rfl (aa_ (eO_ mode s) (aa_ (a:=N) (by rw[bt_,p]) (aa_ (eO_ _ F) rfl)))
  .cases (mode != -1)&&(!(aF_ mode) || !(al_ mode 31==al_ N.Xk 31))with
   | true=>exact aa_ u rfl
   | false =>
    refine ab_ rfl (aa_ (a:=(mtime != -1)&&(decide (mtime<0)||decide (mtime>1099511627776))) ?_ ?_)
    .cases mtime != -1 with
     | false=>rfl
     | true=>refine ae_ rfl (aa_ rfl ?_);exact qL some (clock_ne mtime)
    .cases(mtime != -1)&&(decide (mtime<0)||decide (mtime>1099511627776))with
     | true=>exact aa_ u rfl
     | false =>
      refine ab_ rfl (aa_ u (aa_ (a:=N) (by rw[bt_,p]) ?_));simp only[qTn];have f:∀(x:Xq) (q:List Xq),q.length=t.Xz.length->an_ (q.set i x) (i:Int)=some x:=λx q U=>by
       rw[bt_,zS,qV rfl,qV (by omega)]
      have m:t.Xz.set i N=t.Xz:=by
       apply zL;intro j;rw[zS];split
       .rename_i y;subst y;first|rw[qV M,p]|rw[p]
       .rfl
      let D:Xq:=Xq.mk N.Id_ N.Xh N.Xo N.Xg (bif mode != -1 then mode else N.Xk) N.Yg N.Yj N.Ym N.Yw N.Xe N.Xl
      let C:Xq:=Xq.mk N.Id_ N.Xh N.Xo N.Xg (bif mode != -1 then mode else N.Xk) N.Yg (bif !(cO_ gid==[])then gid else N.Yj) N.Ym N.Yw N.Xe N.Xl
      refine aa_ (a:=t.Xz.set i D) ?_ ?_
      .show(bif mode != -1 then _ else _)=some (t.Xz.set i {N with Xk:=(bif mode != -1 then mode else N.Xk)});cases mode != -1 with
       | true=>rfl
       | false=>exact qL some m.symm
      .refine aa_ (f D _ rfl) (aa_ (a:=t.Xz.set i C) (aa_ (fc_ gid) ?_) ?_)
       .show _=some (t.Xz.set i {N with Xk:=(bif mode != -1 then mode else N.Xk),Yj:=(bif !(cO_ gid==[])then gid else N.Yj)});cases J:cO_ gid==[]with
        | true=>rfl
        | false =>
         rw[short_or gid J];refine ae_ rfl ?_;rw[List.set_set];rfl
       .refine aa_ (f C _ rfl) (aa_ (a:=t.Xz.set i (e4_ N mode gid mtime)) ?_ ?_)
        .show(bif mtime != -1 then _ else _)=some (t.Xz.set i {N with Xk:=(bif mode != -1 then mode else N.Xk),Yj:=(bif !(cO_ gid==[])then gid else N.Yj),Xe:=(bif mtime != -1 then mtime else N.Xe)});cases mtime != -1 with
         | true =>
          refine ae_ rfl ?_;rw[List.set_set];rfl
         | false=>rfl
        .rw[q8_ h.srt p (n:=e4_ N mode gid mtime) rfl];rfl
theorem k1_(n:Xq):bb_ n=true↔aF_ n.Xk=true/\(0<=n.Xo/\n.Xo<=2147483647)/\(0<=n.Yw/\n.Yw<=1099511627776)/\(0<=n.Xe/\n.Xe<=1099511627776)/\(n.Yg.length<=64/\n.Yj.length<=64/\n.Ym.length<=64)/\n.Xl.length<=65536/\(al_ n.Xk 31=true->n.Xl=[]):=by
 unfold bb_;simp only[qAn,qDe,qT,qH,qF];constructor
 .rintro⟨⟨⟨⟨⟨⟨u,s⟩,q⟩,p⟩,m⟩,j⟩,f⟩
  exact ⟨u, s, q, p, m, j, fun h => by        rcases f with f|f;· rw[h]at f;cases f
                                              ·exact f⟩
 .rintro⟨u,s,q,p,m,j,f⟩;refine⟨⟨⟨⟨⟨⟨u,s⟩,q⟩,p⟩,m⟩,j⟩,?_⟩;cases h:al_ n.Xk 31 with
  | false=>exact .inl rfl
  | true=>exact .inr (f h)
theorem k2_(s:Str):(cO_ s).length<=64:=by
 unfold cO_;by_cases h:(s.length:Int)>64
 .rw[show decide ((s.length:Int)>64)=true by simpa using h];exact zV _
 .rw[show decide ((s.length:Int)>64)=false by simpa using h];show s.length<=64;omega
theorem sA_(x:Int):0<=ax_ x/\ax_ x<=1099511627776:=by
 unfold ax_ bX_ ci_;split<;>split<;>omega
theorem uo_{n:Xq}(h:bb_ n=true)(uid:Str)(now:Int):bb_ (aU_ n uid now)=true:=by
 rw[k1_]at h ⊢;obtain⟨q,u,p,s,f,m,j⟩:=h;refine⟨q,?_,p,sA_ now,⟨f.1,f.2.1,k2_ uid⟩,m,j⟩;show 0<=(w64 (n.Xo+1)).tmod 2147483648/\(w64 (n.Xo+1)).tmod 2147483648<=2147483647;rw[ao_ ⟨by omega,by omega⟩,zj (by omega)];omega
theorem putD_ok{n:Xq}(h:bb_ n=true){d:Str}(j:d.length<=65536)(f:al_ n.Xk 31=false):bb_ (putD n d)=true:=by
 rw[k1_]at h ⊢;obtain⟨u,s,q,p,m,y,x⟩:=h;exact⟨u,s,q,p,m,j,λ(e:al_ n.Xk 31=true)=>by rw[f]at e;cases e⟩
theorem putName_ok{n:Xq}(h:bb_ n=true)(s:Str):bb_ (bO_ n s)=true:=by
 rw[k1_]at h ⊢;exact h
theorem OkT.upd{l:List Xq}{next:Int}(h:OkT l next){n n':Xq}(hn:n∈l)(F:n'.Id_=n.Id_)(hp:n'.Xh=n.Xh)(ZZ:bb_ n'=true)(hd:al_ n'.Xk 31=al_ n.Xk 31)
  (f:n'.Xg=n.Xg\/(n.Id_≠1/\bv_ n'.Xg=true/\∀c∈l,c.Id_≠1->c.Xh=n.Xh->c.Xg=n'.Xg->c.Id_=n.Id_)):OkT (aM_ l n') next:=by
 have phi:∀m∈l,(bif m.Id_==n'.Id_ then n' else m).Id_=m.Id_/\(bif m.Id_==n'.Id_ then n' else m).Xh=m.Xh/\al_ (bif m.Id_==n'.Id_ then n' else m).Xk 31=al_ m.Xk 31/\bb_ (bif m.Id_==n'.Id_ then n' else m)=true /\
   ((m.Id_≠n.Id_/\(bif m.Id_==n'.Id_ then n' else m).Xg=m.Xg)\/(m=n/\(bif m.Id_==n'.Id_ then n' else m).Xg=n'.Xg)):=λm hm=>by
  cases hb:m.Id_==n'.Id_ with
  | true =>
   have e:=qF.1 hb;obtain rfl:=kX_ h.srt hm hn (by rw[e,F]);exact⟨F,hp,hd,ZZ,.inr ⟨rfl,rfl⟩⟩
  | false =>
   have e:m.Id_≠n'.Id_:=by simpa using hb
   exact⟨rfl,rfl,rfl,h.flds m hm,.inl ⟨by rw[←F];exact e,rfl⟩⟩
 have mem:∀x,x∈aM_ l n'->∃m∈l,x=bif m.Id_==n'.Id_ then n' else m:=λx u=>by
  obtain⟨m,hm,e⟩:=qz.1 u;exact⟨m,hm,e.symm⟩
 refine⟨gx_ h.srt n',?_,λx u => ?_,λx u p => ?_,λx u p => ?_,λa ha b hb p G y s => ?_,λx u => ?_,h.nx2,by rw[c6_];exact h.len⟩
 .obtain⟨r,q,e,p,G,y,s⟩:=h.root;have hr:r∈l:=by rw[e];exact qE ..
  obtain⟨C,M,Z,p4,j⟩:=phi r hr;refine⟨_,q.map λm=>bif m.Id_==n'.Id_ then n' else m,by rw[e];rfl,C.trans p,M.trans G,?_,Z.trans s⟩;rcases j with⟨_,j⟩|⟨rfl,j⟩
  .rw[j];exact y
  .rw[j];rcases f with f|⟨ZY,_⟩
   .rw[f];exact y
   .exact absurd p ZY
 .obtain⟨m,hm,rfl⟩:=mem x u;exact(phi m hm).2.2.2.1
 .obtain⟨m,hm,rfl⟩:=mem x u;obtain⟨C,M,Z,p4,j⟩:=phi m hm;rw[C]at p;rcases j with⟨_,j⟩|⟨rfl,j⟩
  .rw[j];exact h.nam m hm p
  .rw[j];rcases f with f|⟨_,ZX,_⟩
   .rw[f];exact h.nam m hm p
   .exact ZX
 .obtain⟨m,hm,rfl⟩:=mem x u;obtain⟨C,M,Z,p4,j⟩:=phi m hm;rw[C]at p ⊢;rw[M];obtain⟨q,q1,q2,q3,q4⟩:=h.par m hm p;obtain⟨O,r2,r3,_⟩:=phi q q1;exact⟨_,ov_ q1,O.trans q2,by rw[O];exact q3,r3.trans q4⟩
 .obtain⟨m,hm,rfl⟩:=mem a ha;obtain⟨k,U,rfl⟩:=mem b hb;obtain⟨C,M,Z,p4,j⟩:=phi m hm;obtain⟨O,r2,r3,r4,V⟩:=phi k U;rw[C]at p;rw[O]at G;rw[M,r2]at y;rw[C,O];rcases j with⟨j,Y⟩|⟨rfl,Y⟩
  .rcases V with⟨V,J⟩|⟨rfl,J⟩
   .rw[Y,J]at s;exact h.uniq m hm k U p G y s
   .rw[Y,J]at s;rcases f with f|⟨_,_,D⟩
    .rw[f]at s;exact h.uniq m hm k U p G y s
    .exact D m hm p y s
  .rcases V with⟨V,J⟩|⟨rfl,J⟩
   .rw[Y,J]at s;rcases f with f|⟨_,_,D⟩
    .rw[f]at s;exact h.uniq m hm k U p G y s
    .exact(D k U G y.symm s.symm).symm
   .rfl
 .obtain⟨m,hm,rfl⟩:=mem x u;rw[(phi m hm).1];exact h.nxt m hm
theorem OkT.touch{l:List Xq}{next:Int}(h:OkT l next){n:Xq}(f:n∈l)(uid:Str)(now:Int):OkT (aM_ l (aU_ n uid now)) next :=
 h.upd f rfl rfl (uo_ (h.flds n f) uid now) rfl (.inl rfl)
theorem OkT.add{l:List Xq}{next:Int}(h:OkT l next){d n:Xq}(V:d∈l)(G:al_ d.Xk 31=true)(F:n.Id_=next)(M:n.Xh=d.Id_)(O:bb_ n=true)(y:bv_ n.Xg=true)
  (s:∀c∈l,c.Id_≠1->c.Xh=d.Id_->c.Xg≠n.Xg) (ZZ:next<=1048575) (hl:l.length<1024):OkT (l++[n]) (next+1):=by
 have U:=h.nxt d V;have ZY:=h.ge V;refine⟨List.pairwise_append.2 ⟨h.srt,List.pairwise_singleton ..,λa m b j => ?_⟩,?_,λx f => ?_,λx f u => ?_,λx f u => ?_,λa m b j u J D C => ?_,λx f => ?_,by omega,by simp;omega⟩
 .rw[qD.1 j,F];exact h.nxt a m
 .obtain⟨r,q,e,u,J,D,C⟩:=h.root;exact⟨r,q++[n],by rw[e];rfl,u,J,D,C⟩
 .rcases qY.1 f with f|f
  .exact h.flds x f
  .rw[qD.1 f];exact O
 .rcases qY.1 f with f|f
  .exact h.nam x f u
  .rw[qD.1 f];exact y
 .rcases qY.1 f with f|f
  .obtain⟨p,Z,Y⟩:=h.par x f u;exact⟨p,List.mem_append_left _ Z,Y⟩
  .rw[qD.1 f];exact⟨d,List.mem_append_left _ V,M.symm,by rw[F];exact U,G⟩
 .rcases qY.1 m with m|m
  .rcases qY.1 j with j|j
   .exact h.uniq a m b j u J D C
   .rw[qD.1 j]at D C;exact absurd C (s a m u (D.trans M))
  .rcases qY.1 j with j|j
   .rw[qD.1 m]at D C;exact absurd C.symm (s b j J (D.symm.trans M))
   .rw[qD.1 m,qD.1 j]
 .rcases qY.1 f with f|f
  .have:=h.nxt x f;omega
  .rw[qD.1 f];omega
theorem OkT.remove{l:List Xq}{next:Int}(h:OkT l next){id:Int}(M:id≠1)(y:∀c∈l,c.Id_≠1->c.Xh≠id):OkT (l.filter λn=>n.Id_ != id) next:=by
 have mem:∀x,(x∈l.filter λn=>n.Id_ != id)->x∈l/\x.Id_≠id:=λx f=>⟨(zR.1 f).1,by simpa using(zR.1 f).2⟩
 refine⟨h.srt.filter _,?_,λx f=>h.flds x (mem x f).1,λx f=>h.nam x (mem x f).1,λx f e => ?_,λa D b C=>h.uniq a (mem a D).1 b (mem b C).1,λx f=>h.nxt x (mem x f).1,h.nx2,qt (jk _ _) h.len⟩
 .obtain⟨r,q,e,m,J,G,F⟩:=h.root;refine⟨r,q.filter λn=>n.Id_ != id,?_,m,J,G,F⟩;rw[e,zJ];have:(r.Id_ != id)=true:=by rw[zM,m];exact λe=>M e.symm
  rw[this];rfl
 .obtain⟨p,u,j,s⟩:=h.par x (mem x f).1 e;exact⟨p,zR.2 ⟨u,by rw[zM,j];exact y x (mem x f).1 e⟩,j,s⟩
theorem o7_{l:List Xq}{dir:Int}{name:Str}(h:(l.find? (cf_ dir name)).isSome=false):∀c∈l,c.Id_≠1->c.Xh=dir->c.Xg≠name:=λc m s q p=>by
 have f:l.find? (cf_ dir name)=none:=by
  cases j:l.find? (cf_ dir name)with
  | none=>rfl
  | some x=>rw[j]at h;cases h
 rw[zr]at f;exact f c m (by unfold cf_;simp[s,q,p])
theorem newN_ok(t:Xv)(dir:Int)(name:Str){mode:Int}(uid gid:Str)(now:Int)(h:aF_ mode=true):bb_ (newN t dir name mode uid gid now)=true:=by
 rw[k1_];exact⟨h,⟨by show(0:Int)<=0;omega,by show(0:Int)<=2147483647;omega⟩,sA_ now,sA_ now,⟨k2_ _,k2_ _,k2_ _⟩,zV _,λ_=>rfl⟩
theorem create_cases {t:Xv} {dir:Int} {name:Str} {mode:Int} {uid gid:Str} {now:Int} (h:OkT t.Xz t.Xp) :
  (∃e,e≠0/\f3_ t dir name mode uid gid now=(t,0,e)) \/
  (f3_ t dir name mode uid gid now=(Xv.mk (t.Xp+1) (aM_ t.Xz (aU_ (ai_ t.Xz dir).1 uid now)++[newN t dir name mode uid gid now]),t.Xp,0)/\(ai_ t.Xz dir).2=true/\al_ (ai_ t.Xz dir).1.Xk 31=true/\aF_ mode=true /\
   OkT (aM_ t.Xz (aU_ (ai_ t.Xz dir).1 uid now)++[newN t dir name mode uid gid now]) (t.Xp+1)):=by
 unfold f3_;cases V:(ai_ t.Xz dir).2 with
 | false=>exact .inl ⟨8,by omega,rfl⟩
 | true =>
  cases U:al_ (ai_ t.Xz dir).1.Xk 31 with
  | false=>exact .inl ⟨9,by omega,rfl⟩
  | true =>
   cases O:bv_ name with
   | false=>exact .inl ⟨6,by omega,rfl⟩
   | true =>
    cases M:aF_ mode with
    | false=>exact .inl ⟨1,by omega,rfl⟩
    | true =>
     cases J:(t.Xz.find? (cf_ dir name)).isSome with
     | true=>exact .inl ⟨7,by omega,rfl⟩
     | false =>
      cases G:decide ((t.Xz.length:Int)>=1024)||decide (t.Xp>1048575)with
      | true=>exact .inl ⟨22,by omega,rfl⟩
      | false =>
       simp only[qP,qDf]at G;obtain⟨hm,j⟩:=aA_ V;have s:=h.nxt _ hm;have y:=h.ge hm;have x:w64 (t.Xp+1)=t.Xp+1:=ao_ ⟨by omega,by omega⟩;refine .inr ⟨by rw[x];rfl,rfl,rfl,rfl,?_⟩;have u:=ov_ (n:=aU_ (ai_ t.Xz dir).1 uid now) hm;have D:((ai_ t.Xz dir).1.Id_==(aU_ (ai_ t.Xz dir).1 uid now).Id_)=true:=jX _;rw[D]at u;have F:=h.touch hm uid now;refine F.add u U rfl (show dir=_ from j.symm) (newN_ok t dir name uid gid now M) O (λc C c1 c2 => ?_) (by omega) (by rw[c6_];omega);obtain⟨m,f,Z,q⟩:=mem_updN C;have p:m.Xh=c.Xh/\m.Xg=c.Xg:=by
        rcases q with⟨q,_⟩|⟨q,Y⟩
        .rw[q];exact⟨rfl,rfl⟩
        .rw[q];have:=kX_ h.srt f hm Y;rw[this];exact⟨rfl,rfl⟩
       rw[←p.2];refine o7_ J m f (by rw[←Z];exact c1) ?_;rw[p.1,c2];exact j
theorem remove_cases{t:Xv}{id:Int}{uid:Str}{now:Int}(h:OkT t.Xz t.Xp) :
  (∃e,e≠0/\en_ t id uid now=(t,e))\/(∃p,p∈t.Xz/\p.Id_=(ai_ t.Xz id).1.Xh/\p.Id_≠id/\(ai_ t.Xz id).2=true/\id≠1/\en_ t id uid now=(Xv.mk t.Xp ((aM_ t.Xz (aU_ p uid now)).filter λn=>n.Id_ != id),0) /\
   OkT ((aM_ t.Xz (aU_ p uid now)).filter λn=>n.Id_ != id) t.Xp):=by
 unfold en_;cases O:(ai_ t.Xz id).2 with
 | false=>exact .inl ⟨8,by omega,rfl⟩
 | true =>
  cases M:id==1 with
  | true=>exact .inl ⟨1,by omega,rfl⟩
  | false =>
   have j:id≠1:=by simpa using M
   cases D:decide (((aQ_ t.Xz id).length:Int)>0)with
   | true=>exact .inl ⟨23,by omega,rfl⟩
   | false =>
    obtain⟨hm,y⟩:=aA_ O;obtain⟨p,f,s,G,F⟩:=h.par _ hm (by rw[y];exact j);have q:=ca_ h.srt f;rw[s]at q;refine .inr ⟨p,f,s,by omega,rfl,j,by rw[q];rfl,?_⟩;refine(h.touch f uid now).remove j λc J Z Y => ?_
    rw[childT_mem,jO]at D;obtain⟨m,u,V,x⟩:=mem_updN J;have C:m.Xh=c.Xh:=by
     rcases x with⟨x,_⟩|⟨x,U⟩
     .rw[x]
     .rw[x,kX_ h.srt u f U];rfl
    refine D m u ?_;rw[qAn,qF,zM];exact⟨C.trans Y,by rw[←V];exact Z⟩
theorem sB_{t:Xv}{id size:Int}{uid:Str}{now:Int}(h:OkT t.Xz t.Xp) :
  (∃e,cN_ t id size uid now=(t,e))\/((ai_ t.Xz id).2=true/\al_ (ai_ t.Xz id).1.Xk 31=false/\cN_ t id size uid now=(Xv.mk t.Xp (aM_ t.Xz (aU_ (putD (ai_ t.Xz id).1 (fitS (ai_ t.Xz id).1.Xl size.toNat)) uid now)),0)/\0<=size /\
   OkT (aM_ t.Xz (aU_ (putD (ai_ t.Xz id).1 (fitS (ai_ t.Xz id).1.Xl size.toNat)) uid now)) t.Xp):=by
 unfold cN_;cases m:e3_ t.Xz id != 0 with
 | true=>exact .inl ⟨_,rfl⟩
 | false =>
  obtain⟨f1,f2⟩:=nH_ m;have hm:=(aA_ f1).1;by_cases j:size<0
  .rw[show decide (size<0)=true by simpa using j];exact .inl ⟨_,rfl⟩
  .rw[show decide (size<0)=false by simpa using j];by_cases f:size>65536
   .rw[show decide (size>65536)=true by simpa using f];exact .inl ⟨_,rfl⟩
   .rw[show decide (size>65536)=false by simpa using f];cases p:size==((ai_ t.Xz id).1.Xl.length:Int)with
    | true=>exact .inl ⟨_,rfl⟩
    | false =>
     refine .inr ⟨f1,f2,rfl,by omega,?_⟩;exact h.upd hm rfl rfl (uo_ (putD_ok (h.flds _ hm) (by rw[lH_];omega) f2) uid now) rfl (.inl rfl)
theorem wrS_len(old:Str)(o:Nat)(data:Str)(h:old.length<=65536)(f:o+data.length<=65536):(wrS old o data).length<=65536/\(wrS old o data).length=max old.length (o+data.length):=by
 unfold wrS;rw[qLa,qLa,lH_,qc];omega
theorem write_cases{t:Xv}{id offset:Int}{data uid:Str}{now:Int}(h:OkT t.Xz t.Xp) :
  (∃e,hP_ t id offset data uid now=(t,0,e))\/(∃o:Nat,(ai_ t.Xz id).2=true/\al_ (ai_ t.Xz id).1.Xk 31=false/\((o:Int)=bif al_ (ai_ t.Xz id).1.Xk 30 then((ai_ t.Xz id).1.Xl.length:Int)else offset)/\o+data.length<=65536/\data≠[] /\
   hP_ t id offset data uid now=(Xv.mk t.Xp (aM_ t.Xz (aU_ (putD (ai_ t.Xz id).1 (wrS (ai_ t.Xz id).1.Xl o data)) uid now)),(data.length:Int),0) /\
   OkT (aM_ t.Xz (aU_ (putD (ai_ t.Xz id).1 (wrS (ai_ t.Xz id).1.Xl o data)) uid now)) t.Xp):=by
 unfold hP_;cases x:e3_ t.Xz id != 0 with
 | true=>exact .inl ⟨_,rfl⟩
 | false =>
  obtain⟨f1,f2⟩:=nH_ x;have hm:=(aA_ f1).1;by_cases p:offset<0
  .rw[show decide (offset<0)=true by simpa using p];exact .inl ⟨_,rfl⟩
  .rw[show decide (offset<0)=false by simpa using p];cases u:data==[]with
   | true=>exact .inl ⟨_,rfl⟩
   | false =>
    have j:data≠[]:=by simpa using u
    simp only[qr];generalize s:(bif al_ (ai_ t.Xz id).1.Xk 30 then((ai_ t.Xz id).1.Xl.length:Int)else offset)=o;have q:0<=o:=by
     subst s;cases al_ (ai_ t.Xz id).1.Xk 30
     .simp;omega
     .simp
    by_cases m:o+(data.length:Int)>65536
    .rw[show decide (o+(data.length:Int)>65536)=true by simpa using m];exact .inl ⟨_,rfl⟩
    .rw[show decide (o+(data.length:Int)>65536)=false by simpa using m];have f:=wrS_len (ai_ t.Xz id).1.Xl o.toNat data (i4_ (h.flds _ hm)) (by omega);refine .inr ⟨o.toNat,f1,f2,by omega,by omega,j,rfl,?_⟩;exact h.upd hm rfl rfl (uo_ (putD_ok (h.flds _ hm) f.1 f2) uid now) rfl (.inl rfl)
theorem sC_ {t:Xv} {id:Int} {name uid:Str} {now:Int} (h:OkT t.Xz t.Xp) :
  (∃e,eT_ t id name uid now=(t,e))\/(∃p,(ai_ t.Xz id).2=true/\id≠1/\p∈t.Xz/\p.Id_=(ai_ t.Xz id).1.Xh/\p.Id_<id/\eT_ t id name uid now=(Xv.mk t.Xp (aM_ (aM_ t.Xz (bO_ (ai_ t.Xz id).1 name)) (aU_ p uid now)),0) /\
   OkT (aM_ (aM_ t.Xz (bO_ (ai_ t.Xz id).1 name)) (aU_ p uid now)) t.Xp):=by
 unfold eT_;cases U:(ai_ t.Xz id).2 with
 | false=>exact .inl ⟨8,rfl⟩
 | true =>
  cases O:id==1 with
  | true=>exact .inl ⟨1,rfl⟩
  | false =>
   have y:id≠1:=by simpa using O
   cases M:bv_ name with
   | false=>exact .inl ⟨6,rfl⟩
   | true =>
    cases h4:(ai_ t.Xz id).1.Xg==name with
    | true=>exact .inl ⟨0,rfl⟩
    | false =>
     cases J:(t.Xz.find? (cf_ (ai_ t.Xz id).1.Xh name)).isSome with
     | true=>exact .inl ⟨7,rfl⟩
     | false =>
      obtain⟨hm,x⟩:=aA_ U;have u:(ai_ t.Xz id).1.Id_≠1:=by rw[x];exact y
      obtain⟨p,s,q,m,D⟩:=h.par _ hm u;have C:=h.upd hm (n':=bO_ (ai_ t.Xz id).1 name) rfl rfl (putName_ok (h.flds _ hm) name) rfl (.inr ⟨u,M,λc F Z Y V=>absurd V (o7_ J c F Z Y)⟩);have f:p∈aM_ t.Xz (bO_ (ai_ t.Xz id).1 name):=by
       have:=ov_ (n:=bO_ (ai_ t.Xz id).1 name) s;have G:(p.Id_==(bO_ (ai_ t.Xz id).1 name).Id_)=false:=by
        rw[zZ];show p.Id_≠(ai_ t.Xz id).1.Id_;omega
       rw[G]at this;exact this
      have j:=ca_ C.srt f;rw[q]at j;exact .inr ⟨p,rfl,y,s,q,by rw[x]at m;exact m,by rw[j];rfl,C.touch f uid now⟩
theorem attrN_ok{n:Xq}(h:bb_ n=true){mode:Int}{gid:Str}{mtime:Int}(f:mode = -1\/aF_ mode=true/\al_ mode 31=al_ n.Xk 31)(m:mtime = -1\/0<=mtime/\mtime<=1099511627776):bb_ (e4_ n mode gid mtime)=true/\al_ (e4_ n mode gid mtime).Xk 31=al_ n.Xk 31:=by
 have q:al_ (e4_ n mode gid mtime).Xk 31=al_ n.Xk 31:=by
  unfold e4_;rcases f with rfl|⟨f,D⟩
  .rfl
  .show al_ (bif mode != -1 then mode else n.Xk) 31=_;cases mode != -1 with
   | true=>exact D
   | false=>rfl
 refine⟨?_,q⟩;rw[k1_]at h ⊢;obtain⟨k1,y,x,p,j,u,s⟩:=h;refine⟨?_,y,x,?_,⟨j.1,?_,j.2.2⟩,u,λe=>s (q▸e)⟩
 .show aF_ (bif mode != -1 then mode else n.Xk)=true;rcases f with rfl|⟨f,_⟩
  .exact k1
  .cases mode != -1 with
   | true=>exact f
   | false=>exact k1
 .show 0<=(bif mtime != -1 then mtime else n.Xe)/\(bif mtime != -1 then mtime else n.Xe)<=_;rcases m with rfl|m
  .exact p
  .cases mtime != -1 with
   | true=>exact m
   | false=>exact p
 .show(bif !(cO_ gid==[])then gid else n.Yj).length<=64;cases C:cO_ gid==[]with
  | true=>exact j.2.1
  | false =>
   rw[←short_or gid C];exact k2_ gid
theorem tI_{t:Xv}{id mode:Int}{gid:Str}{mtime:Int}(h:OkT t.Xz t.Xp) :
  (∃e,hQ_ t id mode gid mtime=(t,e))\/((ai_ t.Xz id).2=true/\hQ_ t id mode gid mtime=(Xv.mk t.Xp (aM_ t.Xz (e4_ (ai_ t.Xz id).1 mode gid mtime)),0)/\OkT (aM_ t.Xz (e4_ (ai_ t.Xz id).1 mode gid mtime)) t.Xp):=by
 unfold hQ_;cases m:(ai_ t.Xz id).2 with
 | false=>exact .inl ⟨8,rfl⟩
 | true =>
  have hm:=(aA_ m).1;cases f:(mode != -1)&&(!(aF_ mode) || !(al_ mode 31==al_ (ai_ t.Xz id).1.Xk 31))with
  | true=>exact .inl ⟨1,rfl⟩
  | false =>
   cases j:(mtime != -1)&&(decide (mtime<0)||decide (mtime>1099511627776))with
   | true=>exact .inl ⟨5,rfl⟩
   | false =>
    have s:mode = -1\/aF_ mode=true/\al_ mode 31=al_ (ai_ t.Xz id).1.Xk 31:=by
     rw[zh]at f;rcases f with f|f
     .exact .inl (by simpa using f)
     .simp only[qP,Bool.not_eq_false',qF]at f;exact .inr f
    have a2:mtime = -1\/0<=mtime/\mtime<=1099511627776:=by
     rw[zh]at j;rcases j with j|j
     .exact .inl (by simpa using j)
     .simp only[qP,qDf]at j;exact .inr (by omega)
    obtain⟨q,p⟩:=attrN_ok (h.flds _ hm) (gid:=gid) s a2;exact .inr ⟨rfl,rfl,h.upd hm rfl rfl q p (.inl rfl)⟩
theorem set_self{α:Type}{l:List α}{i:Nat}{x:α}(h:l[i]? = some x):l.set i x=l:=by
 obtain⟨hi,rfl⟩:=qZ.1 h;exact List.set_getElem_self hi
theorem copy_loop{body:Int×List Xc->Option (Step (Int×List Xc) (List Xc))}(l:List Xc)(j:l.length<=1000)
  (h:∀i,i<l.length->body ((i:Int),l)=some (.next (((i+1:Nat):Int),l))) (f:body ((l.length:Int),l)=some (.done l)):am_ body BIG (0,l)=some l :=
 bf_ (λi=>((i:Int),l)) l.length (bu_ (by omega)) (λi hi=>h i hi) f
theorem fresh_loop(l:List Xc)(f:l.length<=1000)(hm:smallM l):am_ (gn_ l) BIG (0,l)=some l:=by
 refine copy_loop l f (λi hi => ?_) ?_
 .unfold gn_;simp only;rw[aT_ hi,ap_ hi,as_ (by omega)];refine ae_ rfl (aa_ rfl (aa_ (px_ (hm _ (qx hi))) (aa_ rfl ?_)));exact qL (λq=>some (Step.next (((i+1:Nat):Int),q))) (set_self (qQ hi))
 .unfold gn_;simp only;rw[be_];rfl
theorem lI_(s:Xj)(z:SizeOK s):cZ_ s=some s:=by
 have:=z.nl;have:=z.el;unfold cZ_;exact aa_ (tE_ z.ul) (aa_ (fresh_loop _ z.ul z.um) (aa_ (tF_ (by omega)) (aa_ (sx_ z.ql) (aa_ (nF_ (by omega)) rfl))))
def ec_(s:Xj)(user:Str)(n:Xq):Bool:=(isS s n.Xh&&n.Id_ != 1)&&mayS s user (ak_ s n.Xh) 2
def putTr(s:Xj)(t:Xv):Xj:=Xj.mk s.Yz s.Yx t s.Xt
def putTE(s:Xj)(t:Xv)(e:List Int):Xj:=Xj.mk s.Yz s.Yx t e
theorem up_{s:Xj}(f:FileOK s)(z:SizeOK s)(user:Str)(n:Xq):e8_ s user n=some (ec_ s user n):=by
 unfold e8_ ec_ isS;refine aa_ (cV_ _ _ (nl2 z)) ?_;cases h:(ai_ s.Xy.Xz n.Xh).2&&n.Id_ != 1 with
 | false=>rfl
 | true=>exact aa_ (aa_ (may_eq z user (ch_ f _) 2) rfl) rfl
theorem td_{s:Xj}{id:Int}(h:isS s id=true):(ak_ s id).Id_=id:=(aA_ h).2
theorem gy_{s:Xj}{user:Str}{id:Int}(h:(bR_ s user id != 0)=false):bR_ s user id=0/\vU user=true/\isS s id=true:=by
 have f:bR_ s user id=0:=by simpa using h
 refine⟨f,?_⟩;unfold bR_ at f;cases j:vU user with
 | false=>rw[j]at f;cases f
 | true =>
  rw[j]at f;cases hi:isS s id with
  | false=>rw[hi]at f;cases f
  | true=>exact⟨rfl,rfl⟩
def i6_(s:Xj)(user:Str)(n:Xq)(mode:Int):Int:=bif(bS_ mode).2 != 0 then(bS_ mode).2 else bif al_ n.Xk 31&&mode != 0 then 10 else bif !(mayS s user n (bS_ mode).1)then 11 else bif al_ mode 6 && !(ec_ s user n)then 11 else bif al_ n.Xk 29&&decide (n.Id_∈s.Xt)then 24 else 0
def fo_(s:Xj)(user:Str)(id mode:Int):Int:=bif bR_ s user id != 0 then bR_ s user id else i6_ s user (ak_ s id) mode
theorem o8_{m:Int}(h:((bS_ m).2 != 0)=false):0<=m/\m<128:=by
 unfold bS_ at h;split at h
 .assumption
 .cases h
theorem opens_eq{s:Xj}(z:SizeOK s)(f:FileOK s)(user:Str)(n:Xq)(mode:Int)(hm:I64 mode)(h:n.Xk<=9223372036854775807):jl_ s user n mode=some (i6_ s user n mode):=by
 unfold jl_ i6_;refine aa_ (cq_ mode hm) ?_;cases j:(bS_ mode).2 != 0 with
 | true=>rfl
 | false =>
  obtain⟨m,q⟩:=o8_ j;refine ab_ rfl (aa_ (gw_ _ h).1 ?_);cases al_ n.Xk 31&&mode != 0 with
  | true=>rfl
  | false =>
   refine ab_ rfl (aa_ (may_eq z user h _) ?_);cases mayS s user n (bS_ mode).1 with
   | false=>rfl
   | true =>
    have p:(bL_ .i64 mode 64 != 0)=al_ mode 6:=by
     have:=has_and mode 6 (by omega) (by omega);rw[show decide (mode>=0)=true by simpa using m,zY]at this;exact this
    rw[p,up_ f z];refine ab_ rfl (aa_ (a:=al_ mode 6 && !(ec_ s user n)) (by cases al_ mode 6<;>rfl) ?_);cases al_ mode 6 && !(ec_ s user n)with
    | true=>rfl
    | false =>
     refine ab_ rfl (aa_ (gw_ _ h).2.2.1 ?_);rw[yE_ _ _ (by have:=z.el;omega)];refine aa_ (a:=al_ n.Xk 29&&decide (n.Id_∈s.Xt)) (by cases al_ n.Xk 29<;>rfl) ?_;cases al_ n.Xk 29&&decide (n.Id_∈s.Xt)<;>rfl
def k3_(s:Xj)(user:Str)(id mode now:Int):Xj×Int:=bif fo_ s user id mode != 0 then(s,fo_ s user id mode)else(putTE s (bif al_ mode 4 && !(al_ (ak_ s id).Xk 30)then(cN_ s.Xy id 0 user (ax_ now)).1 else s.Xy) (bif al_ (ak_ s id).Xk 29 then eZ_ s.Xt id else s.Xt),0)
theorem pA_{s:Xj}{user:Str}{id mode:Int}(h:(fo_ s user id mode != 0)=false):(bR_ s user id != 0)=false/\i6_ s user (ak_ s id) mode=0/\0<=mode/\mode<128:=by
 have f:fo_ s user id mode=0:=by simpa using h
 unfold fo_ at f;cases m:bR_ s user id != 0 with
 | true=>rw[m]at f;rw[show bR_ s user id=0 from f]at m;cases m
 | false =>
  rw[m]at f;have p:i6_ s user (ak_ s id) mode=0:=f;refine⟨rfl,p,?_⟩;unfold i6_ at p;cases j:(bS_ mode).2 != 0 with
  | true=>rw[j]at p;rw[show(bS_ mode).2=0 from p]at j;cases j
  | false=>exact o8_ j
theorem open_eq{s:Xj}(f:FileOK s)(z:SizeOK s)(user:Str)(id mode now:Int)(p:user.length<=9223372036854775807)(hm:I64 mode):ky_ s user id mode now=some (k3_ s user id mode now):=by
 obtain⟨n,C,y⟩:=qc_ z user id p;unfold ky_ k3_;refine aa_ (lI_ s z) (aa_ C ?_);cases h:bR_ s user id != 0 with
 | true =>
  have:fo_ s user id mode=bR_ s user id:=by unfold fo_;rw[h];rfl
  rw[this,h];rfl
 | false =>
  obtain⟨u,_,hi⟩:=gy_ h;obtain rfl:=y u;have m:fo_ s user id mode=i6_ s user (ak_ s id) mode:=by unfold fo_;rw[h];rfl
  refine ab_ rfl (aa_ (opens_eq z f user _ mode hm (ch_ f id)) ?_);rw[m];cases j:i6_ s user (ak_ s id) mode != 0 with
  | true=>rfl
  | false =>
   rw[←m]at j;obtain⟨_,_,q,D⟩:=pA_ j;have x:(bL_ .i64 mode 16 != 0)=al_ mode 4:=by
    have:=has_and mode 4 (by omega) (by omega);rw[show decide (mode>=0)=true by simpa using q,zY]at this;exact this
   rw[x];refine ab_ rfl (aa_ (a:=let t:=(bif al_ mode 4 && !(al_ (ak_ s id).Xk 30)then(cN_ s.Xy id 0 user (ax_ now)).1 else s.Xy);(t.Xp,s.Yz,s.Yx,t.Xz,s.Xt)) ?_ (aa_ (a:=let t:=(bif al_ mode 4 && !(al_ (ak_ s id).Xk 30)then(cN_ s.Xy id 0 user (ax_ now)).1 else s.Xy);(s.Yz,s.Yx,t.Xp,t.Xz,bif al_ (ak_ s id).Xk 29 then eZ_ s.Xt id else s.Xt)) ?_ rfl))
   .rw[(gw_ _ (ch_ f id)).2.1];refine aa_ (a:=al_ mode 4 && !(al_ (ak_ s id).Xk 30)) (by cases al_ mode 4<;>rfl) ?_;cases al_ mode 4 && !(al_ (ak_ s id).Xk 30)with
    | true=>exact ae_ rfl (aa_ rfl (aa_ (qd_ s.Xy id 0 user (ax_ now) f.tr) rfl))
    | false=>rfl
   .refine aa_ (gw_ _ (ch_ f id)).2.2.1 ?_;cases al_ (ak_ s id).Xk 29 with
    | true=>exact ae_ rfl (aa_ (lock_eq _ id f.srt (by have:=z.el;show s.Xt.length<=1000;omega)) rfl)
    | false=>rfl
def mJ_(s:Xj)(user:Str)(n:Xq)(name:Str)(perm mode:Int):Int:=bif !(bv_ name)then 6 else bif !(aF_ perm)then 1 else bif(bS_ mode).2 != 0 then(bS_ mode).2 else bif al_ perm 31&&mode != 0 then 12 else bif !(mayS s user n 2)then 11 else bif(gv_ s.Xy.Xz n.Id_ name).2==0 then 7 else bif !(mk_ s.Yx s.Xy user 1 0)then 21 else 0
def ew_(s:Xj)(user:Str)(id:Int)(name:Str)(perm mode:Int):Int:=bif dirC s user id != 0 then dirC s user id else mJ_ s user (ak_ s id) name perm mode
def e0_(d m:Int):Int:=(es_ d m).getD 0
def lJ_(s:Xj)(user:Str)(id:Int)(name:Str)(perm mode now:Int):Xj×Int×Int :=
 bif ew_ s user id name perm mode != 0 then(s,0,ew_ s user id name perm mode)else
 let r:=e0_ (ak_ s id).Xk perm
 let c:=f3_ s.Xy id name r user (ak_ s id).Yj (ax_ now)
 bif c.2.2 != 0 then(s,0,c.2.2)else(putTE s c.1 (bif al_ r 29 then eZ_ s.Xt c.2.1 else s.Xt),c.2.1,0)
theorem makes_eq{s:Xj}(z:SizeOK s)(f:FileOK s)(user:Str)(n:Xq)(name:Str)(perm mode:Int)(hm:I64 mode)(h:perm<=9223372036854775807)(j:n.Xk<=9223372036854775807)(m:name.length<=9223372036854775807):jj_ s user n name perm mode=some (mJ_ s user n name perm mode):=by
 unfold jj_ mJ_;refine aa_ (ip_ _ m) ?_;cases bv_ name with
 | false=>rfl
 | true =>
  refine ab_ rfl (aa_ (sy_ _ h) ?_);cases aF_ perm with
  | false=>rfl
  | true =>
   refine ab_ rfl (aa_ (cq_ mode hm) ?_);cases(bS_ mode).2 != 0 with
   | true=>rfl
   | false =>
    refine ab_ rfl (aa_ (gw_ _ h).1 ?_);cases al_ perm 31&&mode != 0 with
    | true=>rfl
    | false =>
     refine ab_ rfl (aa_ (may_eq z user j 2) ?_);cases mayS s user n 2 with
     | false=>rfl
     | true =>
      refine ab_ rfl (aa_ (or_ _ _ _ f.tr) ?_);cases(gv_ s.Xy.Xz n.Id_ name).2==0 with
      | true=>rfl
      | false =>
       refine ab_ rfl (aa_ (ru_ _ _ _ _ _ z.ql (nl2 z)) ?_);cases mk_ s.Yx s.Xy user 1 0<;>rfl
theorem rw_{s:Xj}{user:Str}{id:Int}{name:Str}{perm mode:Int}(h:(ew_ s user id name perm mode != 0)=false):(dirC s user id != 0)=false/\mJ_ s user (ak_ s id) name perm mode=0:=by
 have f:ew_ s user id name perm mode=0:=by simpa using h
 unfold ew_ at f;cases j:dirC s user id != 0 with
 | true=>rw[j]at f;rw[show dirC s user id=0 from f]at j;cases j
 | false=>rw[j]at f;exact⟨rfl,f⟩
theorem tJ_{s:Xj}{user:Str}{n:Xq}{name:Str}{perm mode:Int}(h:mJ_ s user n name perm mode=0):bv_ name=true/\aF_ perm=true/\mayS s user n 2=true/\mk_ s.Yx s.Xy user 1 0=true:=by
 unfold mJ_ at h;cases u:bv_ name with
 | false=>rw[u]at h;cases h
 | true =>
  rw[u]at h;cases q:aF_ perm with
  | false=>rw[q]at h;cases h
  | true =>
   rw[q]at h;cases f:(bS_ mode).2 != 0 with
   | true=>rw[f]at h;rw[show(bS_ mode).2=0 from h]at f;cases f
   | false =>
    rw[f]at h;cases p:al_ perm 31&&mode != 0 with
    | true=>rw[p]at h;cases h
    | false =>
     rw[p]at h;cases m:mayS s user n 2 with
     | false=>rw[m]at h;cases h
     | true =>
      rw[m]at h;cases j:(gv_ s.Xy.Xz n.Id_ name).2==0 with
      | true=>rw[j]at h;cases h
      | false =>
       rw[j]at h;cases x:mk_ s.Yx s.Xy user 1 0 with
       | false=>rw[x]at h;cases h
       | true=>exact⟨rfl,rfl,rfl,rfl⟩
theorem inhI_kind{s:Xj}(f:FileOK s){id:Int}(h:isS s id=true){m:Int}(hm:aF_ m=true):∃q,fQ_ (ak_ s id).Xk m=some q/\es_ (ak_ s id).Xk m=some (e0_ (ak_ s id).Xk m)/\orI .i64 (da_ .i64 m 511) (bL_ .i64 q 511)=e0_ (ak_ s id).Xk m/\e0_ (ak_ s id).Xk m<=9223372036854775807/\aF_ (e0_ (ak_ s id).Xk m)=true:=by
 have u:=f.tr.mode (um_ h);have p:=o4_ hm;obtain⟨q,r,C,j,y,F,D,x⟩:=inherit_kind (ak_ s id).Xk m ⟨u.1,by omega⟩ ⟨p.1,by omega⟩;have:e0_ (ak_ s id).Xk m=r:=by unfold e0_;rw[j];rfl
 rw[this];exact⟨q,C,j,y,by omega,x hm⟩
theorem create_eq{s:Xj}(f:FileOK s)(z:SizeOK s)(user:Str)(id:Int)(name:Str)(perm mode now:Int)(x:user.length<=9223372036854775807)(hm:I64 mode)(y:perm<=9223372036854775807)(j:name.length<=9223372036854775807):ih_ s user id name perm mode now=some (lJ_ s user id name perm mode now):=by
 obtain⟨n,O,p⟩:=su_ f z user id x;unfold ih_ lJ_;refine aa_ (lI_ s z) (aa_ O (aa_ (a:=ew_ s user id name perm mode) ?_ ?_))
 .unfold ew_ bne;cases C:dirC s user id==0 with
  | false=>rfl
  | true =>
   obtain rfl:=p (by simpa using C);exact ae_ rfl (aa_ (makes_eq z f user _ name perm mode hm y (ch_ f id) j) rfl)
 .cases u:ew_ s user id name perm mode != 0 with
  | true=>rfl
  | false =>
   obtain⟨F,D⟩:=rw_ u;obtain⟨G,_,hi,_⟩:=sw_ F;obtain rfl:=p G;obtain⟨_,h,_,_⟩:=tJ_ D;obtain⟨q,M,_,J,m,_⟩:=inhI_kind f hi h;refine ab_ rfl (aa_ M (aa_ (rfl:cX_ now=some (ax_ now)) ?_));simp only[J,qr];refine aa_ (wZ_ s.Xy id name _ user _ (ax_ now) f.tr m j) ?_;generalize f3_ s.Xy id name (e0_ (ak_ s id).Xk perm) user (ak_ s id).Yj (ax_ now)=c;cases c.2.2 != 0 with
   | true=>rfl
   | false =>
    refine ab_ rfl (aa_ (a:=(s.Yz,s.Yx,c.1.Xp,c.1.Xz,bif al_ (e0_ (ak_ s id).Xk perm) 29 then eZ_ s.Xt c.2.1 else s.Xt)) (aa_ (gw_ _ m).2.2.1 ?_) rfl);cases al_ (e0_ (ak_ s id).Xk perm) 29 with
    | true=>exact ae_ rfl (aa_ (lock_eq _ _ f.srt (by have:=z.el;show s.Xt.length<=1000;omega)) rfl)
    | false=>rfl
def hR_(s:Xj)(n:Xq)(size:Int):Bool:=decide (size<=(n.Xl.length:Int))||mk_ s.Yx s.Xy n.Yg 0 (w64 (size-(n.Xl.length:Int)))
theorem grows_eq{s:Xj}(z:SizeOK s)(n:Xq)(size:Int):gH_ s n size=some (hR_ s n size):=by
 unfold gH_ hR_;rw[ru_ _ _ _ _ _ z.ql (nl2 z)];cases decide (size<=(n.Xl.length:Int))<;>rfl
theorem sD_{s:Xj}(z:SizeOK s)(n:Xq)(size:Int):i2_ s n size=some (hR_ s n size):=by
 unfold i2_ hR_;rw[rv_ _ _ _ _ _ z.ql (nl2 z)];cases decide (size<=(n.Xl.length:Int))<;>rfl
def ow_(s:Xj)(user:Str)(id offset:Int)(data:Str)(now:Int):Xj×Int×Int :=
 bif bR_ s user id != 0 then(s,0,bR_ s user id)else bif al_ (ak_ s id).Xk 31 then(s,0,10)else bif decide (offset<0)then(s,0,1)else bif data==[]then(s,0,0)else
 let o:=bif al_ (ak_ s id).Xk 30 then((ak_ s id).Xl.length:Int)else offset
 bif decide (o>65536)||decide ((data.length:Int)>w64 (65536-o))then(s,0,4)else
 bif !(hR_ s (ak_ s id) (w64 (o+(data.length:Int))))then(s,0,21)else
 (putTr s (hP_ s.Xy id o data user (ax_ now)).1,(data.length:Int),0)
theorem write_ok{t:Xv}{id offset o:Int}{data user:Str}{now:Int}(hi:(ai_ t.Xz id).2=true)(q:al_ (ai_ t.Xz id).1.Xk 31=false)(s:0<=offset)(j:(data==[])=false)(h:o=bif al_ (ai_ t.Xz id).1.Xk 30 then((ai_ t.Xz id).1.Xl.length:Int)else offset)
  (m:(decide (o>65536)||decide ((data.length:Int)>w64 (65536-o)))=false):(hP_ t id o data user now).2=((data.length:Int),0)/\0<=o/\o+data.length<=65536:=by
 have f:0<=o:=by rw[h];cases al_ (ai_ t.Xz id).1.Xk 30 with
  | true=>exact Int.natCast_nonneg _
  | false=>exact s
 simp only[qP,qDf]at m;rw[ao_ ⟨by omega,by omega⟩]at m;refine⟨?_,f,by omega⟩;unfold hP_ e3_;rw[hi,q];have y:decide (o<0)=false:=by simpa using f
 rw[y,j];have x:(bif al_ (ai_ t.Xz id).1.Xk 30 then((ai_ t.Xz id).1.Xl.length:Int)else o)=o:=by
  cases p:al_ (ai_ t.Xz id).1.Xk 30 with
  | true=>rw[p]at h;exact h.symm
  | false=>rfl
 simp only[x];have u:decide (o+(data.length:Int)>65536)=false:=by simp;omega
 rw[u];rfl
theorem write_eq{s:Xj}(f:FileOK s)(z:SizeOK s)(user:Str)(id offset:Int)(data:Str)(now:Int)(p:user.length<=9223372036854775807)(j:data.length<=9223372036854775807):jk_ s user id offset data now=some (ow_ s user id offset data now):=by
 obtain⟨n,G,F⟩:=qc_ z user id p;unfold jk_ ow_;refine aa_ (lI_ s z) (aa_ G ?_);cases y:bR_ s user id != 0 with
 | true=>rfl
 | false =>
  obtain⟨D,_,hi⟩:=gy_ y;obtain rfl:=F D;refine ab_ rfl (aa_ (gw_ _ (ch_ f id)).1 ?_);cases x:al_ (ak_ s id).Xk 31 with
  | true=>rfl
  | false =>
   refine ab_ rfl ?_;cases q:decide (offset<0)with
   | true=>rfl
   | false =>
    refine ab_ rfl ?_;cases h:data==[]with
    | true=>rfl
    | false =>
     refine ab_ rfl (aa_ (a:=bif al_ (ak_ s id).Xk 30 then((ak_ s id).Xl.length:Int)else offset) (aa_ (gw_ _ (ch_ f id)).2.1 (by cases al_ (ak_ s id).Xk 30<;>rfl)) ?_);simp only[qr];generalize C:(bif al_ (ak_ s id).Xk 30 then((ak_ s id).Xl.length:Int)else offset)=o;cases u:decide (o>65536)||decide ((data.length:Int)>w64 (65536-o))with
     | true=>rfl
     | false =>
      refine ab_ rfl (aa_ (grows_eq z _ _) ?_);cases hR_ s (ak_ s id) (w64 (o+(data.length:Int)))with
      | false=>rfl
      | true =>
       obtain⟨m,M,J⟩:=write_ok (now:=ax_ now) (user:=user) hi x (by simpa using q) h C.symm u;refine ab_ rfl (aa_ rfl (aa_ (yF_ s.Xy id o data user (ax_ now) f.tr (by omega) j) ?_));simp only[m];rfl
def dT_(s:Xj)(user:Str)(id now:Int):Xj×Int:=bif bR_ s user id != 0 then(s,bR_ s user id)else bif !(ec_ s user (ak_ s id))then(s,11)else bif(en_ s.Xy id user (ax_ now)).2 != 0 then(s,(en_ s.Xy id user (ax_ now)).2)else(putTE s (en_ s.Xy id user (ax_ now)).1 (cM_ s.Xt id),0)
theorem remove_eq{s:Xj}(f:FileOK s)(z:SizeOK s)(user:Str)(id now:Int)(h:user.length<=9223372036854775807):fX_ s user id now=some (dT_ s user id now):=by
 obtain⟨n,q,p⟩:=qc_ z user id h;unfold fX_ dT_;refine aa_ (lI_ s z) (aa_ q ?_);cases j:bR_ s user id != 0 with
 | true=>rfl
 | false =>
  obtain⟨m,_,hi⟩:=gy_ j;obtain rfl:=p m;refine ab_ rfl (aa_ (up_ f z user _) ?_);cases ec_ s user (ak_ s id)with
  | false=>rfl
  | true =>
   refine ab_ rfl (aa_ rfl (aa_ (w0_ s.Xy id user (ax_ now) f.tr) ?_));cases(en_ s.Xy id user (ax_ now)).2 != 0 with
   | true=>rfl
   | false=>exact ab_ rfl (aa_ (sz_ _ id f.srt (by have:=z.el;show s.Xt.length<=1000;omega)) rfl)
def mK_(s:Xj)(user:Str)(id mode now:Int):Xj:=bif al_ mode 6 then(dT_ (setX s (cM_ s.Xt id)) user id now).1 else setX s (cM_ s.Xt id)
theorem tK_(s:Xj)(user:Str)(id now:Int)(h:(dT_ s user id now).2≠0):(dT_ s user id now).1=s:=by
 revert h;unfold dT_;cases bR_ s user id != 0 with
 | true=>exact λ_=>rfl
 | false =>
  cases ec_ s user (ak_ s id)with
  | false=>exact λ_=>rfl
  | true =>
   cases(en_ s.Xy id user (ax_ now)).2 != 0 with
   | true=>exact λ_=>rfl
   | false=>exact λh=>absurd rfl h
theorem out_ok{s:Xj}(f:FileOK s)(x:Int):FileOK (setX s (cM_ s.Xt x)):=⟨f.us,f.qs,f.tr,ml_ f.srt,λy h=>f.exc y (mem_outX.1 h).1⟩
theorem out_size{s:Xj}(z:SizeOK s)(x:Int):SizeOK (setX s (cM_ s.Xt x)):=⟨z.ul,z.um,z.us,z.ql,z.qs,z.nl,qt (ou_ _ _) z.el⟩
theorem close_eq{s:Xj}(f:FileOK s)(z:SizeOK s)(user:Str)(id mode now:Int)(h:user.length<=9223372036854775807)(hm:mode<=9223372036854775807):jp_ s user id mode now=some (mK_ s user id mode now):=by
 unfold jp_ mK_;refine aa_ (lI_ s z) (aa_ (sz_ _ id f.srt (by have:=z.el;omega)) ?_);rw[(gw_ _ hm).2.2.2];simp only[qBs];cases al_ mode 6 with
 | false=>rfl
 | true =>
  rw[remove_eq (out_ok f id) (out_size z id) user id now h];cases hr:(dT_ (setX s (cM_ s.Xt id)) user id now).2==0 with
  | true=>simp[hr]
  | false =>
   rw[tK_ _ _ _ _ (by simpa using hr)];simp[hr]
def mm_(m:Yc):Bool:=decide (-1<=m.n_)&&decide (m.n_<=m.Zp)
def qe_(x:Yf):List Yc:=[(Yc.mk x.Ys 2 65534),(Yc.mk x.Zy 4 4294967294),(Yc.mk x.Yo.Ys 1 232),(Yc.mk x.Yo.Xo 4 2147483647),(Yc.mk x.Yo.Zj 8 1099511627776),(Yc.mk x.Xk 4 3892314623),(Yc.mk x.Yw 8 1099511627776),(Yc.mk x.Xe 8 1099511627776),(Yc.mk x.Xa 8 9007199254740991)]
theorem numbers_eq(x:Yf):oj_ x=some (qe_ x):=rfl
theorem check_loop(ns:List Yc)(h:ns.length<=1000):am_ (e9_ ns) BIG (0,ns)=some (if ns.all mm_ then .fall ()else .ret 5):=by
 refine ev_ (body:=e9_ ns) (J:=λi s b=>s=((i:Int),ns)/\b=if(ns.drop i).all mm_ then .fall ()else .ret 5) ns.length (bu_ (by omega)) (λs b f => ?_) (λi s b hi f => ?_) ⟨rfl,by simp⟩
 .obtain⟨rfl,rfl⟩:=f;unfold e9_;simp only;rw[be_];simp
 .obtain⟨rfl,rfl⟩:=f;have j:e9_ ns ((i:Int),ns)=bif mm_ ns[i]then some (.next (((i+1:Nat):Int),ns))else some (.done (.ret 5)):=by
   unfold e9_;simp only;rw[aT_ hi,ap_ hi,as_ (by omega)];generalize ns[i]=m;simp only[qm,qBs];have e:mm_ m = !(decide (m.n_ < -1)||decide (m.n_>m.Zp)):=by
    unfold mm_;rw[qK];simp only[qAn,qDe,qH,qP,qDf];omega
   rw[e];cases decide (m.n_ < -1)<;>cases decide (m.n_>m.Zp)<;>rfl
  rw[j,qw hi,jY];cases p:mm_ ns[i]with
  | true=>exact .inr ⟨_,rfl,rfl,by simp⟩
  | false=>exact .inl (by simp)
def f4_(x m:Int):Bool:=(x == -1)||(decide (x>=0)&&(bL_ .i64 x m==x))
def okIn(x m:Int):Bool:=(x == -1)||(decide (x>=0)&&decide (x<=m))
theorem vK_(x:Int)(m:Nat)(hm:m<2^63)(h:x<=9223372036854775807):i0_ x (m:Int)=some (f4_ x (m:Int)):=by
 unfold i0_ f4_;by_cases j:0<=x
 .obtain⟨n,rfl⟩:∃n:Nat,x=(n:Int):=⟨x.toNat,by omega⟩;rw[tC_ (by omega) hm]
 .have f:decide (x>=0)=false:=by simp;omega
  rw[f];simp
theorem bits_in(x:Int)(m:Nat)(hm:m<2^63)(j:x<=9223372036854775807)(h:f4_ x (m:Int)=true):okIn x (m:Int)=true:=by
 unfold f4_ at h;unfold okIn;by_cases f:0<=x
 .obtain⟨n,rfl⟩:∃n:Nat,x=(n:Int):=⟨x.toNat,by omega⟩;rw[lC_ (by omega) hm]at h;simp only[qT,qAn,qF,qDe]at h ⊢;rcases h with h|⟨_,h⟩
  .exact .inl h
  .have:n&&&m=n:=by omega
   have:=and_le this;exact .inr ⟨f,by omega⟩
 .simp only[qT,qAn,qF,qDe]at h ⊢;rcases h with h|⟨h,_⟩
  .exact .inl h
  .omega
theorem okNum_in(n w m:Int):mm_ ⟨n,w,m⟩=okIn n m\/m < -1:=by
 by_cases hm:m < -1
 .exact .inr hm
 .refine .inl ?_;unfold mm_ okIn;rw[qK];simp only[qT,qAn,qF,qDe];omega
def mL_(x:Yf):Bool:=okIn x.Ys 65534&&okIn x.Zy 4294967294&&f4_ x.Yo.Ys 232&&okIn x.Yo.Xo 2147483647&&okIn x.Yo.Zj 1099511627776&&f4_ x.Xk 3892314623&&okIn x.Yw 1099511627776&&okIn x.Xe 1099511627776&&okIn x.Xa 9007199254740991
def okTexts(x:Yf):Bool:=(x.Xg==[]||x.Xg==[47]||bv_ x.Xg)&&decide (x.Yg.length<=64)&&decide (x.Yj.length<=64)&&decide (x.Ym.length<=64)
def f5_(x:Yf):Int:=if mL_ x then(if okTexts x then 0 else 6)else 5
theorem numList_ok(x:Yf)(h:x.Yo.Ys<=9223372036854775807)(f:x.Xk<=9223372036854775807):((qe_ x).all mm_&&f4_ x.Yo.Ys 232&&f4_ x.Xk 3892314623)=mL_ x:=by
 have e:=λn w m (hm:¬m < -1)=>(okNum_in n w m).resolve_right hm
 have p:=bits_in x.Yo.Ys 232 (by omega) h;have j:=bits_in x.Xk 3892314623 (by omega) f;unfold mL_ qe_;simp only[jY,List.all_nil,e _ _ _ (show ¬(65534:Int) < -1 by omega),e _ _ _ (show ¬(4294967294:Int) < -1 by omega),e _ _ _ (show ¬(232:Int) < -1 by omega),e _ _ _ (show ¬(2147483647:Int) < -1 by omega),e _ _ _ (show ¬(1099511627776:Int) < -1 by omega),e _ _ _ (show ¬(3892314623:Int) < -1 by omega),e _ _ _ (show ¬(9007199254740991:Int) < -1 by omega)];simp only[zz]at p j;cases s:f4_ x.Yo.Ys 232<;>cases q:f4_ x.Xk 3892314623<;>simp_all [Bool.and_assoc]
theorem yH_(x:Yf)(m:x.Yo.Ys<=9223372036854775807)(f:x.Xk<=9223372036854775807)(p:x.Xg.length<=9223372036854775807):nw_ x=some (f5_ x):=by
 have q:=numList_ok x m f;have j:=vK_ x.Yo.Ys 232 (by omega) m;have h:=vK_ x.Xk 3892314623 (by omega) f;simp only[zz]at j h;unfold nw_ f5_;rw[numbers_eq];simp only[qBs];rw[check_loop (qe_ x) (show(9:Nat)<=1000 by decide)];simp only[qBs];rw[←q];cases s:(qe_ x).all mm_ with
 | false=>simp
 | true =>
  simp only[jB];rw[j,h,ip_ _ p];simp only[qBs];have em:decide (ci_ (ci_ (x.Yg.length:Int) (x.Yj.length:Int)) (x.Ym.length:Int)>64) = !(decide (x.Yg.length<=64)&&decide (x.Yj.length<=64)&&decide (x.Ym.length<=64)):=by
   rw[qK];simp only[qH,zh,qDe,qDf];unfold ci_;split<;>split<;>omega
  rw[em];unfold okTexts;cases f4_ x.Yo.Ys 232<;>cases f4_ x.Xk 3892314623<;>cases(x.Xg==[])<;>cases(x.Xg==[47])<;>cases bv_ x.Xg<;>cases decide (x.Yg.length<=64)<;>cases decide (x.Yj.length<=64)<;>cases decide (x.Ym.length<=64)<;>simp
theorem lenD_eq{n:Xq}(h:bb_ n=true)(hm:n.Xk<=9223372036854775807):fY_ n=some (n.Xl.length:Int):=by
 unfold fY_;refine aa_ (gw_ _ hm).1 ?_;cases f:al_ n.Xk 31 with
 | true=>rw[okNode_dir h f];rfl
 | false=>rfl
def dx_(s:Xj)(user:Str)(n:Xq)(name:Str):Int:=bif name==[]||name==n.Xg then 0 else bif n.Id_==1 then 11 else bif !(bv_ name)then 6 else bif !(ec_ s user n)then 11 else bif(gv_ s.Xy.Xz n.Xh name).2==0 then 7 else 0
def dy_(s:Xj)(user:Str)(n:Xq)(size:Int):Int:=bif size == -1||size==(n.Xl.length:Int)then 0 else bif al_ n.Xk 31 then 10 else bif !(mayS s user n 2)then 11 else bif decide (size>65536)then 4 else bif !(hR_ s n size)then 21 else 0
def ownsS(s:Xj)(user:Str)(n:Xq):Bool:=user==n.Yg||gM_ s.Yz user n.Yj
def o9_(s:Xj)(user:Str)(n:Xq)(gid:Str):Int:=bif(gid==[]||gid==n.Yj)||(user==n.Yg&&dS_ s.Yz user gid)then 0 else bif gM_ s.Yz user n.Yj&&gM_ s.Yz user gid then 0 else 26
def setsS(s:Xj)(user:Str)(n:Xq)(d:Yf):Int:=bif d.Xk != -1 && !(ownsS s user n)then 11 else bif d.Xk != -1 && !(al_ d.Xk 31==al_ n.Xk 31)then 27 else bif d.Xk != -1 && !(aF_ d.Xk)then 1 else bif d.Xe != -1 && !(ownsS s user n)then 11 else o9_ s user n d.Yj
def mM_(d:Yf):Bool:=((((d.Ys != -1||d.Zy != -1) || !decide (d.Yo=Zm.mk (-1) (-1) (-1)))||d.Yw != -1) || !(d.Yg==[])) || !(d.Ym==[])
def jQ_(s:Xj)(user:Str)(n:Xq)(d:Yf):Int:=bif f5_ d != 0 then f5_ d else bif mM_ d then 27 else bif dx_ s user n d.Xg != 0 then dx_ s user n d.Xg else bif dy_ s user n d.Xa != 0 then dy_ s user n d.Xa else setsS s user n d
def dz_(s:Xj)(user:Str)(id:Int)(d:Yf):Int:=bif bR_ s user id != 0 then bR_ s user id else jQ_ s user (ak_ s id) d
def DirB(d:Yf):Prop:=d.Yo.Ys<=9223372036854775807/\d.Xk<=9223372036854775807/\d.Xg.length<=9223372036854775807
theorem vM_{s:Xj}(f:FileOK s)(z:SizeOK s)(user:Str)(n:Xq)(name:Str)(h:name.length<=9223372036854775807):hl_ s user n name=some (dx_ s user n name)/\jt_ s user n name=some (dx_ s user n name):=by
 unfold hl_ jt_ dx_;cases j:name==[]||name==n.Xg with
 | true=>exact⟨rfl,rfl⟩
 | false =>
  rw[or_ _ _ _ f.tr,jA_ _ _ _ f.tr,ip_ _ h,gY_ _ h,up_ f z,k0_ f z];simp only[qr,qBs];unfold ec_ bne;cases n.Id_==1<;>cases bv_ name<;>cases isS s n.Xh<;>cases mayS s user (ak_ s n.Xh) 2<;>cases(gv_ s.Xy.Xz n.Xh name).2==0<;>exact⟨rfl,rfl⟩
theorem vN_{s:Xj}(f:FileOK s)(z:SizeOK s)(user:Str){id:Int}(hi:isS s id=true)(size:Int):hm_ s user (ak_ s id) size=some (dy_ s user (ak_ s id) size)/\ju_ s user (ak_ s id) size=some (dy_ s user (ak_ s id) size):=by
 have hm:=ch_ f id;unfold hm_ ju_ dy_;rw[lenD_eq (f.tr.flds _ (um_ hi)) hm,(gw_ _ hm).1,(fH_ _ hm).1,may_eq z user hm,td_ hi,k0_ f z,hi,grows_eq z,sD_ z];simp only[qBs,zY];cases size == -1<;>cases size==((ak_ s id).Xl.length:Int)<;>cases al_ (ak_ s id).Xk 31<;>cases mayS s user (ak_ s id) 2<;>cases decide (size>65536)<;>cases hR_ s (ak_ s id) size<;>exact⟨rfl,rfl⟩
theorem regroups_eq{s:Xj}(z:SizeOK s)(user:Str)(n:Xq)(gid:Str):gr_ s user n gid=some (o9_ s user n gid):=by
 unfold gr_ o9_;rw[m3_ _ _ _ z.ul z.um,m3_ _ _ _ z.ul z.um,ir_ _ _ _ z.ul z.um];simp only[qBs];cases user==n.Yg<;>cases gM_ s.Yz user n.Yj<;>cases gid==[]<;>cases gid==n.Yj<;>cases dS_ s.Yz user gid<;>cases gM_ s.Yz user gid<;>rfl
theorem changes_eq{s:Xj}(f:FileOK s)(z:SizeOK s)(user:Str){id:Int}(hi:isS s id=true)(d:Yf)(h:DirB d):hn_ s user (ak_ s id) d=some (jQ_ s user (ak_ s id) d):=by
 have hm:=ch_ f id;unfold hn_ jQ_;refine aa_ (yH_ d h.1 h.2.1 h.2.2) ?_;cases f5_ d != 0 with
 | true=>rfl
 | false =>
  refine ab_ rfl (aa_ rfl ?_);show(bif mM_ d then _ else _)=some (bif mM_ d then _ else _);cases mM_ d with
  | true=>rfl
  | false =>
   refine ab_ rfl (aa_ (vM_ f z user _ _ h.2.2).1 ?_);show(bif dx_ s user (ak_ s id) d.Xg != 0 then _ else _)=some (bif dx_ s user (ak_ s id) d.Xg != 0 then _ else _);cases dx_ s user (ak_ s id) d.Xg != 0 with
   | true=>rfl
   | false =>
    refine ab_ rfl (aa_ (vN_ f z user hi _).1 ?_);show(bif dy_ s user (ak_ s id) d.Xa != 0 then _ else _)=some (bif dy_ s user (ak_ s id) d.Xa != 0 then _ else _);cases dy_ s user (ak_ s id) d.Xa != 0 with
    | true=>rfl
    | false =>
     rw[m3_ _ _ _ z.ul z.um,(gw_ _ hm).1,(gw_ _ h.2.1).1,sy_ _ h.2.1,regroups_eq z];unfold setsS;simp only[qBs,qr];unfold ownsS;cases user==(ak_ s id).Yg<;>cases gM_ s.Yz user (ak_ s id).Yj<;>cases d.Xk != -1<;>cases al_ d.Xk 31==al_ (ak_ s id).Xk 31<;>cases aF_ d.Xk<;>cases d.Xe != -1<;>rfl
theorem j8_{l:List Xq}(p:l.Pairwise λa b=>a.Id_<b.Id_)(m:Xq){x:Int}(h:(ai_ l x).2=true):ai_ (aM_ l m) x=(bif x==m.Id_ then m else(ai_ l x).1,true):=by
 obtain⟨q,j⟩:=aA_ h;have:=ca_ (gx_ p m) (ov_ (n:=m) q);rw[j]at this;cases f:x==m.Id_ with
 | true =>
  rw[f]at this;simp only[qm]at this;rw[show m.Id_=x from(qF.1 f).symm]at this;exact this
 | false =>
  rw[f]at this;simp only[qr]at this;rw[j]at this;exact this
theorem rename_keep{t:Xv}(h:OkT t.Xz t.Xp){id:Int}(hi:(ai_ t.Xz id).2=true)(name uid:Str)(now:Int):Keep t (eT_ t id name uid now).1 id:=by
 rcases sC_ (id:=id) (name:=name) (uid:=uid) (now:=now) h with⟨e,f⟩|⟨p,C,_,_,_,y,f,q⟩
 .rw[f];exact⟨h,hi,rfl⟩
 .obtain⟨D,s⟩:=aA_ hi;have s1:=gx_ h.srt (bO_ (ai_ t.Xz id).1 name);have m:=j8_ h.srt (bO_ (ai_ t.Xz id).1 name) hi;have j:=j8_ s1 (aU_ p uid now) (by rw[m]:(ai_ (aM_ t.Xz (bO_ (ai_ t.Xz id).1 name)) id).2=true);have x:(id==(aU_ p uid now).Id_)=false:=by
   have:(aU_ p uid now).Id_=p.Id_:=rfl;rw[this];simp;omega
  have u:(id==(bO_ (ai_ t.Xz id).1 name).Id_)=true:=by
   have:(bO_ (ai_ t.Xz id).1 name).Id_=(ai_ t.Xz id).1.Id_:=rfl;rw[this,s];simp
  rw[x,m,u]at j;rw[f];exact⟨q,by rw[j],by rw[j];rfl⟩
theorem resize_keep{t:Xv}(h:OkT t.Xz t.Xp){id:Int}(hi:(ai_ t.Xz id).2=true)(size:Int)(uid:Str)(now:Int):Keep t (cN_ t id size uid now).1 id:=by
 rcases sB_ (id:=id) (size:=size) (uid:=uid) (now:=now) h with⟨e,f⟩|⟨s,_,f,_,m⟩
 .rw[f];exact⟨h,hi,rfl⟩
 .obtain⟨u,p⟩:=aA_ hi;have j:=j8_ h.srt (aU_ (putD (ai_ t.Xz id).1 (fitS (ai_ t.Xz id).1.Xl size.toNat)) uid now) hi;have q:(id==(aU_ (putD (ai_ t.Xz id).1 (fitS (ai_ t.Xz id).1.Xl size.toNat)) uid now).Id_)=true:=by
   have:(aU_ (putD (ai_ t.Xz id).1 (fitS (ai_ t.Xz id).1.Xl size.toNat)) uid now).Id_=(ai_ t.Xz id).1.Id_:=rfl;rw[this,p];simp
  rw[q]at j;rw[f];exact⟨m,by rw[j],by rw[j];rfl⟩
theorem Keep.refl{t:Xv}(h:OkT t.Xz t.Xp){id:Int}(hi:(ai_ t.Xz id).2=true):Keep t t id:=⟨h,hi,rfl⟩
def bP_(t:Xv)(user:Str)(id:Int)(n:Xq)(d:Yf)(now:Int):Xv:=bif !(d.Xg==[]) && !(d.Xg==n.Xg)then(eT_ t id d.Xg user (ax_ now)).1 else t
def cc_(t:Xv)(user:Str)(id:Int)(n:Xq)(d:Yf)(now:Int):Xv:=bif d.Xa != -1&&d.Xa != (n.Xl.length:Int)then(cN_ t id d.Xa user (ax_ now)).1 else t
def f6_(n:Xq)(d:Yf):Str:=bif d.Yj==n.Yj then[]else d.Yj
def cw_(t:Xv)(id:Int)(n:Xq)(d:Yf):Xv:=bif(d.Xk != -1||d.Xe != -1) || !(f6_ n d==[])then(hQ_ t id d.Xk (f6_ n d) d.Xe).1 else t
def hS_(l:List Int)(id:Int)(d:Yf):List Int:=bif d.Xk != -1 && !(al_ d.Xk 29)then cM_ l id else l
def hT_(s:Xj)(user:Str)(id:Int)(d:Yf)(now:Int):Xj×Int:=bif dz_ s user id d != 0 then(s,dz_ s user id d)else(putTE s (cw_ (cc_ (bP_ s.Xy user id (ak_ s id) d now) user id (ak_ s id) d now) id (ak_ s id) d) (hS_ s.Xt id d),0)
theorem stepA_keep{t:Xv}(h:OkT t.Xz t.Xp){id:Int}(hi:(ai_ t.Xz id).2=true)(user:Str)(n:Xq)(d:Yf)(now:Int):Keep t (bP_ t user id n d now) id:=by
 unfold bP_;cases !(d.Xg==[]) && !(d.Xg==n.Xg)with
 | true=>exact rename_keep h hi _ _ _
 | false=>exact Keep.refl h hi
theorem stepB_keep{t:Xv}(h:OkT t.Xz t.Xp){id:Int}(hi:(ai_ t.Xz id).2=true)(user:Str)(n:Xq)(d:Yf)(now:Int):Keep t (cc_ t user id n d now) id:=by
 unfold cc_;cases d.Xa != -1&&d.Xa != (n.Xl.length:Int)with
 | true=>exact resize_keep h hi _ _ _
 | false=>exact Keep.refl h hi
theorem rx_{s:Xj}{user:Str}{id:Int}{d:Yf}(h:(dz_ s user id d != 0)=false):(bR_ s user id != 0)=false/\f5_ d=0/\dx_ s user (ak_ s id) d.Xg=0/\dy_ s user (ak_ s id) d.Xa=0/\setsS s user (ak_ s id) d=0:=by
 have f:dz_ s user id d=0:=by simpa using h
 unfold dz_ at f;cases q:bR_ s user id != 0 with
 | true=>rw[q]at f;rw[show bR_ s user id=0 from f]at q;cases q
 | false =>
  rw[q]at f
  replace f:jQ_ s user (ak_ s id) d=0:=f;unfold jQ_ at f;cases p:f5_ d != 0 with
  | true=>rw[p]at f;rw[show f5_ d=0 from f]at p;cases p
  | false =>
   rw[p]at f;cases u:mM_ d with
   | true=>rw[u]at f;cases f
   | false =>
    rw[u]at f;cases m:dx_ s user (ak_ s id) d.Xg != 0 with
    | true=>rw[m]at f;rw[show dx_ s user (ak_ s id) d.Xg=0 from f]at m;cases m
    | false =>
     rw[m]at f;cases j:dy_ s user (ak_ s id) d.Xa != 0 with
     | true=>rw[j]at f;rw[show dy_ s user (ak_ s id) d.Xa=0 from f]at j;cases j
     | false =>
      rw[j]at f;exact⟨rfl,by simpa using p,by simpa using m,by simpa using j,f⟩
theorem setsS_mode{s:Xj}{user:Str}{n:Xq}{d:Yf}(h:setsS s user n d=0)(hm:(d.Xk != -1)=true):aF_ d.Xk=true/\al_ d.Xk 31=al_ n.Xk 31:=by
 unfold setsS at h;rw[hm]at h;cases j:ownsS s user n with
 | false=>rw[j]at h;cases h
 | true =>
  rw[j]at h;cases f:al_ d.Xk 31==al_ n.Xk 31 with
  | false=>rw[f]at h;cases h
  | true =>
   rw[f]at h;cases m:aF_ d.Xk with
   | false=>rw[m]at h;cases h
   | true=>exact⟨rfl,by simpa using f⟩
theorem checkR_mtime{d:Yf}(h:f5_ d=0):d.Xe = -1\/0<=d.Xe/\d.Xe<=1099511627776:=by
 unfold f5_ at h;cases f:mL_ d with
 | false=>rw[f]at h;cases h
 | true =>
  unfold mL_ okIn at f;simp only[qAn,qT,qF,qDe]at f;exact f.1.2
theorem stepC_mode{t:Xv}(h:OkT t.Xz t.Xp){id:Int}(hi:(ai_ t.Xz id).2=true){n:Xq}{d:Yf}(p:n.Xk=(ai_ t.Xz id).1.Xk)(j:(d.Xk != -1)=true->aF_ d.Xk=true/\al_ d.Xk 31=al_ n.Xk 31)(f:d.Xe = -1\/0<=d.Xe/\d.Xe<=1099511627776) :
  OkT (cw_ t id n d).Xz (cw_ t id n d).Xp/\(ai_ (cw_ t id n d).Xz id).2=true/\(ai_ (cw_ t id n d).Xz id).1.Xk=bif d.Xk != -1 then d.Xk else n.Xk:=by
 obtain⟨s,y⟩:=aA_ hi;unfold cw_;cases q:(d.Xk != -1||d.Xe != -1) || !(f6_ n d==[])with
 | false =>
  simp only[qP]at q;rw[q.1.1];exact⟨h,hi,p.symm⟩
 | true =>
  have u:hQ_ t id d.Xk (f6_ n d) d.Xe=(Xv.mk t.Xp (aM_ t.Xz (e4_ (ai_ t.Xz id).1 d.Xk (f6_ n d) d.Xe)),0):=by
   unfold hQ_;rw[hi];have G:((d.Xk != -1)&&(!(aF_ d.Xk) || !(al_ d.Xk 31==al_ (ai_ t.Xz id).1.Xk 31)))=false:=by
    cases hm:d.Xk != -1 with
    | false=>rfl
    | true =>
     obtain⟨a,b⟩:=j hm;rw[p]at b;rw[a,b];simp
   have F:((d.Xe != -1)&&(decide (d.Xe<0)||decide (d.Xe>1099511627776)))=false:=by
    rcases f with e|⟨D,m⟩
    .rw[e];rfl
    .rw[show decide (d.Xe<0)=false by simpa using D,show decide (d.Xe>1099511627776)=false by simpa using m];simp
   rw[G,F];rfl
  have x:OkT (aM_ t.Xz (e4_ (ai_ t.Xz id).1 d.Xk (f6_ n d) d.Xe)) t.Xp:=by
   obtain⟨a,b⟩:=attrN_ok (h.flds _ s) (mode:=d.Xk) (gid:=f6_ n d) (mtime:=d.Xe) (by
    cases hm:d.Xk != -1 with
    | false=>exact .inl (by simpa using hm)
    | true=>obtain⟨a,b⟩:=j hm;exact .inr ⟨a,by rw[b,p]⟩) f
   exact h.upd s rfl rfl a b (.inl rfl)
  rw[qm,u];have m:=j8_ h.srt (e4_ (ai_ t.Xz id).1 d.Xk (f6_ n d) d.Xe) hi;have C:(id==(e4_ (ai_ t.Xz id).1 d.Xk (f6_ n d) d.Xe).Id_)=true:=by
   have:(e4_ (ai_ t.Xz id).1 d.Xk (f6_ n d) d.Xe).Id_=(ai_ t.Xz id).1.Id_:=rfl;rw[this,y];simp
  rw[C]at m;refine⟨x,by rw[m],?_⟩;rw[m];show(bif d.Xk != -1 then d.Xk else(ai_ t.Xz id).1.Xk)=_;rw[←p]
theorem pB_{s:Xj}(f:FileOK s){user:Str}{id:Int}{d:Yf}(now:Int)(h:(dz_ s user id d != 0)=false) :
  isS s id=true/\Keep s.Xy (bP_ s.Xy user id (ak_ s id) d now) id/\Keep s.Xy (cc_ (bP_ s.Xy user id (ak_ s id) d now) user id (ak_ s id) d now) id /\
  OkT (cw_ (cc_ (bP_ s.Xy user id (ak_ s id) d now) user id (ak_ s id) d now) id (ak_ s id) d).Xz (cw_ (cc_ (bP_ s.Xy user id (ak_ s id) d now) user id (ak_ s id) d now) id (ak_ s id) d).Xp /\
  (ai_ (cw_ (cc_ (bP_ s.Xy user id (ak_ s id) d now) user id (ak_ s id) d now) id (ak_ s id) d).Xz id).2=true /\
  (ai_ (cw_ (cc_ (bP_ s.Xy user id (ak_ s id) d now) user id (ak_ s id) d now) id (ak_ s id) d).Xz id).1.Xk=bif d.Xk != -1 then d.Xk else(ak_ s id).Xk:=by
 obtain⟨p,m,u,q,j⟩:=rx_ h;obtain⟨_,_,hi⟩:=gy_ p;have kA:=stepA_keep f.tr hi user (ak_ s id) d now;have kB:=kA.trans (stepB_keep kA.ok kA.is user (ak_ s id) d now);exact⟨hi,kA,kB,stepC_mode kB.ok kB.is kB.mode.symm (λhm=>setsS_mode j hm) (checkR_mtime m)⟩
theorem wstat_eq{s:Xj}(f:FileOK s)(z:SizeOK s)(user:Str)(id:Int)(d:Yf)(now:Int)(q:user.length<=9223372036854775807)(h:DirB d):jq_ s user id d now=some (hT_ s user id d now):=by
 obtain⟨n,x,p⟩:=qc_ z user id q;unfold jq_ hT_;refine aa_ (lI_ s z) (aa_ x (aa_ (a:=dz_ s user id d) ?_ ?_))
 .unfold dz_ bne;cases u:bR_ s user id==0 with
  | false=>rfl
  | true =>
   have m:bR_ s user id=0:=by simpa using u
   obtain rfl:=p m;exact ae_ rfl (aa_ (changes_eq f z user (gy_ (by rw[m];rfl)).2.2 d h) rfl)
 .cases j:dz_ s user id d != 0 with
  | true=>rfl
  | false =>
   obtain⟨hi,kA,kB,kC,_⟩:=pB_ f now j;obtain rfl:=p (gy_ (rx_ j).1).1;refine ab_ rfl (aa_ (a:=((bP_ s.Xy user id (ak_ s id) d now).Xp,s.Yz,s.Yx,(bP_ s.Xy user id (ak_ s id) d now).Xz,s.Xt)) ?_ (aa_ (a:=((cc_ (bP_ s.Xy user id (ak_ s id) d now) user id (ak_ s id) d now).Xp,s.Yz,s.Yx,(cc_ (bP_ s.Xy user id (ak_ s id) d now) user id (ak_ s id) d now).Xz,s.Xt)) ?_ (aa_ (a:=f6_ (ak_ s id) d) ?_ (aa_ (a:=((cw_ (cc_ (bP_ s.Xy user id (ak_ s id) d now) user id (ak_ s id) d now) id (ak_ s id) d).Xp,s.Yz,s.Yx,(cw_ (cc_ (bP_ s.Xy user id (ak_ s id) d now) user id (ak_ s id) d now) id (ak_ s id) d).Xz,s.Xt)) ?_ (aa_ (a:=(s.Yz,s.Yx,(cw_ (cc_ (bP_ s.Xy user id (ak_ s id) d now) user id (ak_ s id) d now) id (ak_ s id) d).Xp,(cw_ (cc_ (bP_ s.Xy user id (ak_ s id) d now) user id (ak_ s id) d now) id (ak_ s id) d).Xz,hS_ s.Xt id d)) ?_ rfl)))))
   .unfold bP_;cases !(d.Xg==[]) && !(d.Xg==(ak_ s id).Xg)with
    | true=>exact ae_ rfl (aa_ rfl (aa_ (w1_ s.Xy id d.Xg user (ax_ now) f.tr h.2.2) rfl))
    | false=>rfl
   .refine aa_ (a:=d.Xa != -1&&d.Xa != ((ak_ s id).Xl.length:Int)) ?_ ?_
    .rw[lenD_eq (f.tr.flds _ (um_ hi)) (ch_ f id)];cases d.Xa != -1<;>rfl
    .generalize D:bP_ s.Xy user id (ak_ s id) d now=tA at kA;unfold cc_;cases d.Xa != -1&&d.Xa != ((ak_ s id).Xl.length:Int)with
     | true=>exact ae_ rfl (aa_ rfl (aa_ (qd_ tA id d.Xa user (ax_ now) kA.ok) rfl))
     | false=>rfl
   .unfold f6_;cases d.Yj==(ak_ s id).Yj<;>rfl
   .generalize C:cc_ (bP_ s.Xy user id (ak_ s id) d now) user id (ak_ s id) d now=tB at kB;unfold cw_;cases(d.Xk != -1||d.Xe != -1) || !(f6_ (ak_ s id) d==[])with
    | true=>exact ae_ rfl (aa_ (yG_ tB id d.Xk _ d.Xe kB.ok h.2.1) rfl)
    | false=>rfl
   .generalize y:cw_ (cc_ (bP_ s.Xy user id (ak_ s id) d now) user id (ak_ s id) d now) id (ak_ s id) d=tC;unfold hS_;rw[(gw_ _ h.2.1).2.2.1];refine aa_ (a:=d.Xk != -1 && !(al_ d.Xk 29)) (by cases d.Xk != -1<;>rfl) ?_;cases d.Xk != -1 && !(al_ d.Xk 29)with
    | true=>exact ae_ rfl (aa_ (sz_ _ id f.srt (by have:=z.el;show s.Xt.length<=1000;omega)) rfl)
    | false=>rfl
theorem Sm.refl(l:List Xq):Sm l l:=λ_ h=>⟨h,rfl⟩
theorem Sm.upd{l:List Xq}(h:l.Pairwise λa b=>a.Id_<b.Id_){m:Xq}(hm:m.Xk=(ai_ l m.Id_).1.Xk):Sm l (aM_ l m):=λx f=>by
 rw[j8_ h m f];refine⟨rfl,?_⟩;cases j:x==m.Id_ with
 | true=>rw[qF.1 j];exact hm
 | false=>rfl
theorem Sm.touch{l:List Xq}(f:l.Pairwise λa b=>a.Id_<b.Id_){p:Xq}(h:p∈l)(uid:Str)(now:Int):Sm l (aM_ l (aU_ p uid now)) :=
 Sm.upd f (by show p.Xk=(ai_ l p.Id_).1.Xk;rw[ca_ f h])
theorem Sm.app{l h:List Xq}:Sm l (l++h):=λx f=>by
 have:ai_ (l++h) x=ai_ l x:=by
  unfold ai_ at f ⊢;rw[List.find?_append];cases j:l.find? (eI_ x)with
  | none=>rw[j]at f;cases f
  | some y=>rfl
 rw[this];exact⟨f,rfl⟩
theorem out_find{l:List Xq}(m:l.Pairwise λa b=>a.Id_<b.Id_){id x:Int}(h:(ai_ l x).2=true)(f:x≠id):ai_ (l.filter λn=>n.Id_ != id) x=ai_ l x:=by
 obtain⟨p,j⟩:=aA_ h;have hm:(ai_ l x).1∈l.filter λn=>n.Id_ != id:=zR.2 ⟨p,by rw[j];simpa using f⟩
 have:=ca_ (m.filter _) hm;rw[j]at this;rw[this];exact Prod.ext rfl h.symm
theorem resize_sm{t:Xv}(h:OkT t.Xz t.Xp)(id size:Int)(uid:Str)(now:Int):OkT (cN_ t id size uid now).1.Xz (cN_ t id size uid now).1.Xp/\Sm t.Xz (cN_ t id size uid now).1.Xz/\(cN_ t id size uid now).1.Xz.length=t.Xz.length:=by
 rcases sB_ (id:=id) (size:=size) (uid:=uid) (now:=now) h with⟨e,f⟩|⟨m,_,f,_,j⟩
 .rw[f];exact⟨h,Sm.refl _,rfl⟩
 .rw[f];refine⟨j,Sm.upd h.srt ?_,c6_ _ _⟩;show(ai_ t.Xz id).1.Xk=(ai_ t.Xz (ai_ t.Xz id).1.Id_).1.Xk;rw[ca_ h.srt (aA_ m).1]
theorem rename_sm{t:Xv}(h:OkT t.Xz t.Xp)(id:Int)(name uid:Str)(now:Int):OkT (eT_ t id name uid now).1.Xz (eT_ t id name uid now).1.Xp/\Sm t.Xz (eT_ t id name uid now).1.Xz/\(eT_ t id name uid now).1.Xz.length=t.Xz.length:=by
 rcases sC_ (id:=id) (name:=name) (uid:=uid) (now:=now) h with⟨e,j⟩|⟨p,s,_,m,_,u,j,q⟩
 .rw[j];exact⟨h,Sm.refl _,rfl⟩
 .rw[j];have s1:Sm t.Xz (aM_ t.Xz (bO_ (ai_ t.Xz id).1 name)):=Sm.upd h.srt (by
   show(ai_ t.Xz id).1.Xk=(ai_ t.Xz (ai_ t.Xz id).1.Id_).1.Xk;rw[ca_ h.srt (aA_ s).1])
  refine⟨q,s1.trans (Sm.upd (gx_ h.srt _) ?_),by simp only[c6_]⟩;show p.Xk=(ai_ (aM_ t.Xz (bO_ (ai_ t.Xz id).1 name)) p.Id_).1.Xk;have f:(ai_ t.Xz p.Id_).2=true:=by rw[ca_ h.srt m]
  rw[(s1 p.Id_ f).2,ca_ h.srt m]
theorem attrs_len{t:Xv}(h:OkT t.Xz t.Xp)(id mode:Int)(gid:Str)(mtime:Int):(hQ_ t id mode gid mtime).1.Xz.length=t.Xz.length:=by
 rcases tI_ (id:=id) (mode:=mode) (gid:=gid) (mtime:=mtime) h with⟨e,f⟩|⟨_,f,_⟩
 .rw[f]
 .rw[f];exact c6_ _ _
theorem stepC_sm{t:Xv}(h:OkT t.Xz t.Xp)(id:Int)(n:Xq)(d:Yf):(cw_ t id n d).Xz.length=t.Xz.length/\∀x,x≠id->(ai_ t.Xz x).2=true->(ai_ (cw_ t id n d).Xz x).2=true/\(ai_ (cw_ t id n d).Xz x).1=(ai_ t.Xz x).1:=by
 unfold cw_;cases(d.Xk != -1||d.Xe != -1) || !(f6_ n d==[])with
 | false=>exact⟨rfl,λx _ f=>⟨f,rfl⟩⟩
 | true =>
  refine⟨attrs_len h _ _ _ _,λx j f => ?_⟩;simp only[qm];rcases tI_ (id:=id) (mode:=d.Xk) (gid:=f6_ n d) (mtime:=d.Xe) h with⟨e,m⟩|⟨hi,m,_⟩
  .rw[m];exact⟨f,rfl⟩
  .rw[m];show(ai_ (aM_ t.Xz _) x).2=true/\(ai_ (aM_ t.Xz _) x).1=_;rw[j8_ h.srt _ f];have:(x==(e4_ (ai_ t.Xz id).1 d.Xk (f6_ n d) d.Xe).Id_)=false:=by
    have e:(e4_ (ai_ t.Xz id).1 d.Xk (f6_ n d) d.Xe).Id_=(ai_ t.Xz id).1.Id_:=rfl;rw[e,(aA_ hi).2];simpa using j
   rw[this];exact⟨rfl,rfl⟩
theorem stepA_sm{t:Xv}(h:OkT t.Xz t.Xp)(user:Str)(id:Int)(n:Xq)(d:Yf)(now:Int):OkT (bP_ t user id n d now).Xz (bP_ t user id n d now).Xp/\Sm t.Xz (bP_ t user id n d now).Xz/\(bP_ t user id n d now).Xz.length=t.Xz.length:=by
 unfold bP_;cases !(d.Xg==[]) && !(d.Xg==n.Xg)with
 | true=>exact rename_sm h _ _ _ _
 | false=>exact⟨h,Sm.refl _,rfl⟩
theorem stepB_sm{t:Xv}(h:OkT t.Xz t.Xp)(user:Str)(id:Int)(n:Xq)(d:Yf)(now:Int):OkT (cc_ t user id n d now).Xz (cc_ t user id n d now).Xp/\Sm t.Xz (cc_ t user id n d now).Xz/\(cc_ t user id n d now).Xz.length=t.Xz.length:=by
 unfold cc_;cases d.Xa != -1&&d.Xa != (n.Xl.length:Int)with
 | true=>exact resize_sm h _ _ _ _
 | false=>exact⟨h,Sm.refl _,rfl⟩
theorem After.refl{s:Xj}(f:FileOK s):After s s:=⟨rfl,rfl,f.tr,f.srt,f.exc,jf _,jf _⟩
theorem ox_{s:Xj}(f:FileOK s){l:List Xq}(h:Sm s.Xy.Xz l){x:Int}(j:x∈s.Xt):(ai_ l x).2=true/\al_ (ai_ l x).1.Xk 29=true:=by
 obtain⟨p,m⟩:=f.exc x j;obtain⟨u,q⟩:=h x p;exact⟨u,by rw[q];exact m⟩
theorem open_after{s:Xj}(f:FileOK s)(user:Str)(id mode now:Int):After s (k3_ s user id mode now).1:=by
 unfold k3_;cases p:fo_ s user id mode != 0 with
 | true=>exact After.refl f
 | false =>
  obtain⟨u,_⟩:=pA_ p;obtain⟨_,_,hi⟩:=gy_ u;have q:∃t,(bif al_ mode 4 && !(al_ (ak_ s id).Xk 30)then(cN_ s.Xy id 0 user (ax_ now)).1 else s.Xy)=t/\OkT t.Xz t.Xp/\Sm s.Xy.Xz t.Xz/\t.Xz.length=s.Xy.Xz.length:=by
   cases al_ mode 4 && !(al_ (ak_ s id).Xk 30)with
   | true=>exact⟨_,rfl,resize_sm f.tr _ _ _ _⟩
   | false=>exact⟨_,rfl,f.tr,Sm.refl _,rfl⟩
  obtain⟨t,e,m,t2,t3⟩:=q;simp only[qr,e];cases j:al_ (ak_ s id).Xk 29 with
  | true =>
   refine⟨rfl,rfl,m,tG_ f.srt,λx h => ?_,by show t.Xz.length<=_;omega,putX_len _ _⟩;rcases mem_putX.1 h with rfl|⟨h,_⟩
   .obtain⟨C,y⟩:=t2 x hi;exact⟨C,by show al_ (ai_ t.Xz x).1.Xk 29=true;rw[y];exact j⟩
   .exact ox_ f t2 h
  | false=>exact⟨rfl,rfl,m,f.srt,λx h=>ox_ f t2 h,by show t.Xz.length<=_;omega,jf _⟩
theorem create_after{s:Xj}(f:FileOK s)(user:Str)(id:Int)(name:Str)(perm mode now:Int):After s (lJ_ s user id name perm mode now).1:=by
 unfold lJ_;cases D:ew_ s user id name perm mode != 0 with
 | true=>exact After.refl f
 | false =>
  simp only[qr];rcases create_cases (dir:=id) (name:=name) (mode:=e0_ (ak_ s id).Xk perm) (uid:=user) (gid:=(ak_ s id).Yj) (now:=ax_ now) f.tr with⟨e,y,h⟩|⟨h,C,_,_,q⟩
  .rw[h];have:(e != 0)=true:=by simpa using y
   simp only[this,qm];exact After.refl f
  .rw[h];have F:=gx_ f.tr.srt (aU_ (ak_ s id) user (ax_ now));have p:Sm s.Xy.Xz (aM_ s.Xy.Xz (aU_ (ak_ s id) user (ax_ now))++[newN s.Xy id name (e0_ (ak_ s id).Xk perm) user (ak_ s id).Yj (ax_ now)]):=(Sm.touch f.tr.srt (aA_ C).1 _ _).trans Sm.app;have j:(aM_ s.Xy.Xz (aU_ (ak_ s id) user (ax_ now))++[newN s.Xy id name (e0_ (ak_ s id).Xk perm) user (ak_ s id).Yj (ax_ now)]).length<=s.Xy.Xz.length+1:=by
    rw[qLa,c6_];exact qA _
   show After s (putTE s _ (bif al_ (e0_ (ak_ s id).Xk perm) 29 then eZ_ s.Xt s.Xy.Xp else s.Xt));cases u:al_ (e0_ (ak_ s id).Xk perm) 29 with
   | true =>
    refine⟨rfl,rfl,q,tG_ f.srt,λx m => ?_,j,putX_len _ _⟩;rcases mem_putX.1 m with rfl|⟨m,_⟩
    .have:=ca_ q.srt (List.mem_append_right _ (List.mem_singleton_self (newN s.Xy id name (e0_ (ak_ s id).Xk perm) user (ak_ s id).Yj (ax_ now))));show(ai_ (aM_ s.Xy.Xz (aU_ (ak_ s id) user (ax_ now))++[newN s.Xy id name (e0_ (ak_ s id).Xk perm) user (ak_ s id).Yj (ax_ now)]) s.Xy.Xp).2=true/\al_ (ai_ (aM_ s.Xy.Xz (aU_ (ak_ s id) user (ax_ now))++[newN s.Xy id name (e0_ (ak_ s id).Xk perm) user (ak_ s id).Yj (ax_ now)]) s.Xy.Xp).1.Xk 29=true;have e:(newN s.Xy id name (e0_ (ak_ s id).Xk perm) user (ak_ s id).Yj (ax_ now)).Id_=s.Xy.Xp:=rfl;rw[e]at this;rw[this];exact⟨rfl,u⟩
    .exact ox_ f p m
   | false=>exact⟨rfl,rfl,q,f.srt,λx m=>ox_ f p m,j,jf _⟩
theorem write_after {s:Xj} (f:FileOK s) (user:Str) (id offset:Int) (data:Str) (now:Int):After s (ow_ s user id offset data now).1:=by
 unfold ow_;cases bR_ s user id != 0 with
 | true=>exact After.refl f
 | false =>
  cases al_ (ak_ s id).Xk 31 with
  | true=>exact After.refl f
  | false =>
   cases decide (offset<0)with
   | true=>exact After.refl f
   | false =>
    cases data==[]with
    | true=>exact After.refl f
    | false =>
     simp only[qr];generalize(bif al_ (ak_ s id).Xk 30 then((ak_ s id).Xl.length:Int)else offset)=o;cases decide (o>65536)||decide ((data.length:Int)>w64 (65536-o))with
     | true=>exact After.refl f
     | false =>
      cases hR_ s (ak_ s id) (w64 (o+(data.length:Int)))with
      | false=>exact After.refl f
      | true =>
       show After s (putTr s (hP_ s.Xy id o data user (ax_ now)).1);rcases write_cases (id:=id) (offset:=o) (data:=data) (uid:=user) (now:=ax_ now) f.tr with⟨e,j⟩|⟨k,q,_,_,_,_,j,p⟩
       .rw[j];exact After.refl f
       .rw[j];have h:Sm s.Xy.Xz (aM_ s.Xy.Xz (aU_ (putD (ak_ s id) (wrS (ak_ s id).Xl k data)) user (ax_ now))):=Sm.upd f.tr.srt (by
         show(ak_ s id).Xk=(ai_ s.Xy.Xz (ak_ s id).Id_).1.Xk;rw[ca_ f.tr.srt (aA_ q).1])
        exact⟨rfl,rfl,p,f.srt,λx m=>ox_ f h m,by show(aM_ _ _).length<=_;rw[c6_];omega,jf _⟩
theorem sE_{s:Xj}(f:FileOK s)(user:Str)(id now:Int):After s (dT_ s user id now).1:=by
 unfold dT_;cases bR_ s user id != 0 with
 | true=>exact After.refl f
 | false =>
  cases ec_ s user (ak_ s id)with
  | false=>exact After.refl f
  | true =>
   simp only[jC,qr];rcases remove_cases (id:=id) (uid:=user) (now:=ax_ now) f.tr with⟨e,C,h⟩|⟨p,y,_,_,_,_,h,D⟩
   .rw[h];have:(e != 0)=true:=by simpa using C
    simp only[this,qm];exact After.refl f
   .rw[h];refine⟨rfl,rfl,D,ml_ f.srt,λx u => ?_,?_,Nat.le_succ_of_le (ou_ _ _)⟩
    .obtain⟨q,m⟩:=mem_outX.1 u;obtain⟨j,F⟩:=ox_ f (Sm.touch f.tr.srt y user (ax_ now)) q;show(ai_ (List.filter (λn=>n.Id_ != id) (aM_ s.Xy.Xz (aU_ p user (ax_ now)))) x).2=true/\al_ (ai_ (List.filter (λn=>n.Id_ != id) (aM_ s.Xy.Xz (aU_ p user (ax_ now)))) x).1.Xk 29=true;rw[out_find (gx_ f.tr.srt _) j m];exact⟨j,F⟩
    .show(List.filter _ (aM_ _ _)).length<=_;have:=jk (λn=>n.Id_ != id) (aM_ s.Xy.Xz (aU_ p user (ax_ now)));rw[c6_]at this;omega
theorem close_after{s:Xj}(f:FileOK s)(user:Str)(id mode now:Int):After s (mK_ s user id mode now):=by
 have m:After s (setX s (cM_ s.Xt id)):=⟨rfl,rfl,f.tr,ml_ f.srt,λy j=>f.exc y (mem_outX.1 j).1,jf _,Nat.le_succ_of_le (ou_ _ _)⟩;unfold mK_;cases al_ mode 6 with
 | false=>exact m
 | true =>
  have h:=sE_ (out_ok f id) user id now;have p:(setX s (cM_ s.Xt id)).Xt.length<=s.Xt.length:=ou_ _ _;exact⟨h.users,h.quotas,h.tr,h.srt,h.exc,h.nl,qt h.el (by omega)⟩
theorem wstat_after{s:Xj}(f:FileOK s)(user:Str)(id:Int)(d:Yf)(now:Int):After s (hT_ s user id d now).1:=by
 unfold hT_;cases C:dz_ s user id d != 0 with
 | true=>exact After.refl f
 | false =>
  obtain⟨hi,kA,kB,kC,iC,mC⟩:=pB_ f now C;obtain⟨Y,a2,a3⟩:=stepA_sm f.tr user id (ak_ s id) d now;obtain⟨V,U,O⟩:=stepB_sm Y user id (ak_ s id) d now;obtain⟨M,J⟩:=stepC_sm V id (ak_ s id) d;have D:=a2.trans U;have key:∀x∈s.Xt,x≠id->(ai_ (cw_ (cc_ (bP_ s.Xy user id (ak_ s id) d now) user id (ak_ s id) d now) id (ak_ s id) d).Xz x).2=true/\al_ (ai_ (cw_ (cc_ (bP_ s.Xy user id (ak_ s id) d now) user id (ak_ s id) d now) id (ak_ s id) d).Xz x).1.Xk 29=true:=λx h j=>by
   obtain⟨G,F⟩:=ox_ f D h;obtain⟨y,u⟩:=J x j G;exact⟨y,by rw[u];exact F⟩
  refine⟨rfl,rfl,kC,?_,λx h => ?_,?_,?_⟩
  .show cb_ (hS_ s.Xt id d);unfold hS_;cases d.Xk != -1 && !(al_ d.Xk 29)with
   | true=>exact ml_ f.srt
   | false=>exact f.srt
  .replace h:x∈hS_ s.Xt id d:=h;unfold hS_ at h;cases m:d.Xk != -1 && !(al_ d.Xk 29)with
   | true =>
    rw[m]at h;obtain⟨q,p⟩:=mem_outX.1 h;exact key x q p
   | false =>
    rw[m]at h
    replace h:x∈s.Xt:=h;by_cases j:x=id
    .subst j;refine⟨iC,?_⟩;show al_ (ai_ (cw_ (cc_ (bP_ s.Xy user x (ak_ s x) d now) user x (ak_ s x) d now) x (ak_ s x) d).Xz x).1.Xk 29=true;rw[mC];cases hm:d.Xk != -1 with
     | true =>
      rw[hm,zY]at m;simpa using m
     | false=>exact(f.exc x h).2
    .exact key x h j
  .show(cw_ _ id (ak_ s id) d).Xz.length<=_;rw[M,O,a3];omega
  .show(hS_ s.Xt id d).length<=_;unfold hS_;cases d.Xk != -1 && !(al_ d.Xk 29)with
   | true=>exact Nat.le_succ_of_le (ou_ _ _)
   | false=>exact jf _
theorem qf_(l:List Xc)(user group:Str)(h:l.length<=1000)(hm:smallM l):gW_ l user group=some (gM_ l user group):=by
 unfold gW_ gM_;refine aa_ (rt_ l group h) ?_;cases f:(d5_ l group).1.Yr==[]with
 | true=>exact aa_ (kY_ l user group h hm) rfl
 | false=>rfl
theorem fmade_eq(x:Int)(q:x<=9223372036854775807):kH_ x=some (aF_ x):=by
 unfold kH_;have p:=cF_ x 27 (by omega) q;have m:=cF_ x 28 (by omega) q;have f:=cF_ x 31 (by omega) q;have h:=cF_ x 30 (by omega) q;have j:=cF_ x 29 (by omega) q;simp only[Nat.reducePow,zz]at p m f h j;rw[p,m,f,h,j];by_cases u:0<=x
 .obtain⟨n,rfl⟩:∃n:Nat,x=(n:Int):=⟨x.toNat,by omega⟩;simp only[hO_];have et:(n:Int).tmod 134217728=((n%134217728:Nat):Int):=rfl;rw[et];have ek:aF_ (n:Int)=((!(decide ((n:Int)<0)||decide ((n:Int)>=4294967296)||decide (((n%134217728:Nat):Int)>511)) && !(n.testBit 27)) && !(n.testBit 28)&&(!(n.testBit 31)||(!(n.testBit 30) && !(n.testBit 29)))):=by
   unfold aF_ topI;rw[←tbit,←tbit,←tbit,←tbit,←tbit,qK];simp only[qAn,qT,qH,qP,qDe,qDf,qF,zZ];omega
  rw[ek];cases(decide ((n:Int)<0)||decide ((n:Int)>=4294967296)||decide (((n%134217728:Nat):Int)>511))<;>cases n.testBit 27<;>cases n.testBit 28<;>cases n.testBit 31<;>cases n.testBit 30<;>cases n.testBit 29<;>rfl
 .have s:decide (x<0)=true:=by simp;omega
  have:aF_ x=false:=by
   unfold aF_;have:decide (0<=x)=false:=by simp;omega
   rw[this];rfl
  rw[s,this];rfl
theorem cJ_(m:Int)(hm:I64 m):gs_ m=some (bS_ m):=by
 by_cases h:0<=m/\m<128
 .rw[←cq_ m hm];obtain⟨n,rfl⟩:∃n:Nat,m=(n:Int):=⟨m.toNat,by omega⟩;have:=qh.1 vG_ n (List.mem_range.2 (by omega));rw[qAn,qF]at this;exact this.1.symm
 .unfold bS_;rw[qX h];unfold gs_;by_cases j:m=m.tmod 1000
  .have hr : -999<=m/\m<=999:=by
    have s : -1000<m.tmod 1000:=Int.lt_tmod_of_pos m (by omega);have q:m.tmod 1000<1000:=Int.tmod_lt_of_pos m (by omega);omega
   refine aa_ (a:=(0,false,false)) ?_ rfl;rw[←j];unfold kE_;refine aa_ (a := .fall ()) ?_ rfl;have body:∀i:Nat,i<=3->c1_ m (i:Int)=some (.next ((i+1:Nat):Int)):=λi hi=>by
    unfold c1_;rw[ao_ (n:=m-(i:Int)) ⟨by omega,by omega⟩,as_ (by omega)];refine ae_ (by simp;omega) (ab_ ?_ (ab_ ?_ rfl))
    .rw[qP,zZ,zZ];omega
    .rw[qP,zZ,zZ];omega
   rw[uj_];exact bj_ (body 0 (by omega)) (bj_ (body 1 (by omega)) (bj_ (body 2 (by omega)) (bj_ (body 3 (by omega)) (aR_ rfl))))
  .have:∃r,kE_ (m.tmod 1000)=some r:=by
    unfold kE_;have:∃r,am_ (c1_ (m.tmod 1000)) BIG 0=some r:=by
     rw[uj_];have step:∀(i:Nat) (n:Nat),i<=3->(∃r,am_ (c1_ (m.tmod 1000)) n ((i+1:Nat):Int)=some r)->∃r,am_ (c1_ (m.tmod 1000)) (n+1) (i:Int)=some r:=λi n hi ⟨r,hr⟩=>by
      cases f:((w64 (m.tmod 1000-(i:Int)))==0)||((w64 (m.tmod 1000-(i:Int)))==64)with
      | true=>exact⟨_,aR_ (by unfold c1_;exact ae_ (by simp;omega) (ae_ f rfl))⟩
      | false =>
       cases p:((w64 (m.tmod 1000-(i:Int)))==16)||((w64 (m.tmod 1000-(i:Int)))==80)with
       | true=>exact⟨_,aR_ (by unfold c1_;exact ae_ (by simp;omega) (ab_ f (ae_ p rfl)))⟩
       | false=>exact⟨r,bj_ (by unfold c1_;rw[as_ (by omega)];exact ae_ (by simp;omega) (ab_ f (ab_ p rfl))) hr⟩
     exact step 0 _ (by omega) (step 1 _ (by omega) (step 2 _ (by omega) (step 3 _ (by omega) ⟨_,aR_ rfl⟩)))
    obtain⟨r,hr⟩:=this;rw[hr];cases r with
    | ret x=>exact⟨_,rfl⟩
    | fall x=>exact⟨_,rfl⟩
   obtain⟨r,hr⟩:=this;refine aa_ hr (ae_ ?_ rfl);rw[qT];exact .inr (by simpa using j)
theorem ra_(l:List Int)(x:Int)(m:l.length<=1000):et_ l x=some (cM_ l x):=by
 unfold et_;refine aa_ (a:=cM_ l x) ?_ rfl;have key:∀(q:List Int) (i:Nat) (acc:List Int),bG_ (λ(s:List Int) _ y=>if y != x then s++[y]else s) acc i q=acc++cM_ q x:=by
  intro q
  induction q with
  | nil=>intro i acc;simp[bG_,cM_]
  | cons a q h =>
   intro i acc;simp only[bG_];rw[h];unfold cM_;rw[zJ];split
   .simp
   .rfl
 have f:=key l 0 [];rw[zG]at f;rw[←f];refine d4_ (τ:=Int×List Int) l _ (λi s=>((i:Int),s)) (λi s=>s.length<=i) (λs=>s) [] (bu_ (by omega)) (qA _) (λi s hi j=>⟨?_,?_⟩) (λs j => ?_)
 .unfold jL_;simp only;rw[aT_ hi,ap_ hi,as_ (by omega)];refine ae_ rfl ?_;simp only[qBs];cases l[i] != x with
  | true =>
   refine aa_ (a:=s++[l[i]]) (aa_ (bm_ ?_ ?_) rfl) rfl
   .simp;omega
   .simp;omega
  | false=>rfl
 .show(if(l[i] != x)=true then s++[l[i]]else s).length<=i+1;split
  .simp;omega
  .omega
 .unfold jL_;simp only;rw[be_];rfl
def fp_(x:Int)(s:Bool×List Int)(_:Nat)(y:Int):Bool×List Int:=((!s.1&&decide (y>=x))||s.1,bif y != x then(bif !s.1&&decide (y>=x)then s.2++[x]else s.2)++[y]else bif !s.1&&decide (y>=x)then s.2++[x]else s.2)
def withE(x:Int)(s:Bool×List Int):List Int:=bif s.1 then s.2 else s.2++[x]
theorem with_late(x:Int):∀(q:List Int) (i:Nat) (acc:List Int),bG_ (fp_ x) (true,acc) i q=(true,acc++cM_ q x)
 | [],i,acc=>by simp[bG_,cM_]
 | a::q,i,acc=>by
  have e:fp_ x (true,acc) i a=(true,bif a != x then acc++[a]else acc):=rfl;simp only[bG_];rw[e,with_late x q];unfold cM_;rw[zJ];cases a != x with
  | true=>simp
  | false=>rfl
theorem with_key(x:Int):∀(q:List Int) (i:Nat) (acc:List Int),cb_ q->withE x (bG_ (fp_ x) (false,acc) i q)=acc++eZ_ q x
 | [],i,acc,_=>by simp[bG_,eZ_,withE]
 | a::q,i,acc,D=>by
  obtain⟨J,u⟩:=ze.1 D;simp only[bG_];by_cases G:a<x
  .have p:decide (a>=x)=false:=by simp;omega
   have m:(a != x)=true:=by rw[zM];omega
   have e:fp_ x (false,acc) i a=(false,acc++[a]):=by
    unfold fp_;rw[p,m];rfl
   rw[e,with_key x q (i+1) (acc++[a]) u];unfold eZ_;rw[zJ,zJ];have j:decide (a<x)=true:=by simpa using G
   have h:decide (x<a)=false:=by simp;omega
   rw[j,h];simp
  .have p:decide (a>=x)=true:=by simp;omega
   have e:fp_ x (false,acc) i a=(true,bif a != x then acc++[x]++[a]else acc++[x]):=by
    unfold fp_;rw[p];rfl
   rw[e,with_late];have s:q.filter (λy=>decide (y<x))=[]:=by
    rw[jI];intro y C;have:=J y C;simp;omega
   have F:cM_ q x=q.filter (λy=>decide (x<y)):=by
    rw[outX_cut u,s];rfl
   unfold eZ_ withE;rw[zJ,zJ,s,F];have m:decide (a<x)=false:=by simp;omega
   rw[m];by_cases f:a=x
   .subst f;simp
   .have j:(a != x)=true:=by rw[zM];exact f
    have h:decide (x<a)=true:=by simp;omega
    rw[j,h];simp
theorem withF_len(x:Int)(s:Bool×List Int)(i:Nat)(a:Int):(fp_ x s i a).2.length<=s.2.length+2:=by
 unfold fp_;cases a != x<;>cases !s.1&&decide (a>=x)<;>simp
theorem with_len(x:Int):∀(q:List Int) (i:Nat) (s:Bool×List Int),(bG_ (fp_ x) s i q).2.length<=s.2.length+2*q.length
 | [],i,s=>by simp[bG_]
 | a::q,i,s=>by
  simp only[bG_,qLc];have h:=with_len x q (i+1) (fp_ x s i a);have f:=withF_len x s i a;omega
theorem fwith_eq(l:List Int)(x:Int)(m:cb_ l)(y:l.length<=1000):kG_ l x=some (eZ_ l x):=by
 have h:=with_key x l 0 [] m;rw[zG]at h;unfold kG_;refine aa_ (a:=bG_ (fp_ x) (false,[]) 0 l) ?_ ?_
 .refine d4_ (τ:=Bool×Int×List Int) l (fp_ x) (λi s=>(s.1,(i:Int),s.2)) (λi s=>s.2.length<=2*i) (λs=>(s.1,s.2)) (false,[]) (bu_ (by omega)) (qA _) (λi s hi q=>⟨?_,?_⟩) (λs q => ?_)
  .unfold mV_;simp only;rw[aT_ hi,ap_ hi,as_ (by omega)];refine ae_ rfl ?_;simp only[qBs];refine aa_ (a:=fp_ x s i l[i]) ?_ rfl;refine aa_ (a:=((!s.1&&decide (l[i]>=x))||s.1,bif !s.1&&decide (l[i]>=x)then s.2++[x]else s.2)) ?_ ?_
   .cases u:s.1 with
    | true=>rfl
    | false =>
     simp only[Bool.not_false,qm,qBs,zY,Bool.or_false];cases decide (l[i]>=x)with
     | true =>
      refine aa_ (bm_ ?_ ?_) rfl
      .simp;omega
      .simp;omega
     | false=>rfl
   .have f:(bif !s.1&&decide (l[i]>=x)then s.2++[x]else s.2).length<=s.2.length+1:=by
     cases !s.1&&decide (l[i]>=x)<;>simp
    unfold fp_;generalize(bif !s.1&&decide (l[i]>=x)then s.2++[x]else s.2)=z at f;cases p:l[i] != x with
    | true =>
     refine ae_ rfl (aa_ (bm_ ?_ ?_) rfl)
     .simp;omega
     .simp;omega
    | false=>rfl
  .have:=withF_len x s i l[i];omega
  .unfold mV_;simp only;rw[be_];rfl
 .have j:=with_len x l 0 (false,[]);rw[←h];unfold withE;cases u:(bG_ (fp_ x) (false,[]) 0 l).1 with
  | true=>rfl
  | false =>
   refine aa_ (a:=(bG_ (fp_ x) (false,[]) 0 l).2++[x]) (aa_ (bm_ ?_ ?_) rfl) rfl
   .simp at j ⊢;omega
   .simp at j ⊢;omega
theorem ref13_in_eq(l:List Int)(x:Int)(p:l.length<=1000):qU_ l x=some (decide (x∈l)):=by
 have e:decide (x∈l)=((l.find? λy=>y==x).map λ_=>true).getD false:=by
  rw[qK,qDe];cases f:l.find? λy=>y==x with
  | none =>
   rw[zr]at f;exact⟨λh=>absurd (jX x) (f x h),λh=>nomatch h⟩
  | some y =>
   have m:=zH f;have j:(y==x)=true:=by simpa using jW f
   rw[qF]at j;exact⟨λ_=>rfl,λ_=>j▸m⟩
 rw[e,←hM_ _ _ 0];unfold qU_;refine bk_ (bg_ l _ (bu_ (by omega)) (λi hi => ?_) ?_) (λ_=>rfl) rfl
 .unfold pv_;rw[ap_ hi,aT_ hi,as_ (by omega)];simp only[qm,qBs];cases l[i]==x<;>rfl
 .unfold pv_;rw[be_];rfl
theorem vO_{α:Type}(f:α->α):∀(q:List α) (i:Nat) (acc:List α),bG_ (λ(s:List α) _ x=>s++[f x]) acc i q=acc++q.map f
 | [],i,acc=>by simp[bG_]
 | x::q,i,acc=>by simp only[bG_];rw[vO_ f q];simp
theorem gN_(t:Xv)(n:Xq)(h:t.Xz.length<=2000):fm_ t n=some (Xv.mk t.Xp (aM_ t.Xz n)):=by
 have f:=vO_ (λm:Xq=>bif m.Id_==n.Id_ then n else m) t.Xz 0 [];rw[zG]at f;unfold fm_;refine aa_ (a:=(t.Xp,aM_ t.Xz n)) ?_ rfl;unfold aM_;rw[←f];refine d4_ (τ:=Int×Int×List Xq) t.Xz _ (λi s=>((i:Int),t.Xp,s)) (λi s=>s.length=i) (λs=>(t.Xp,s)) [] (bu_ (by omega)) rfl (λi s hi j=>⟨?_,by simp[j]⟩) (λs j => ?_)
 .unfold mU_;simp only;rw[aT_ hi,ap_ hi,as_ (by omega)];refine ae_ rfl ?_;simp only[qBs];cases t.Xz[i].Id_==n.Id_ with
  | true=>exact aa_ (a:=(t.Xp,s++[n])) (aa_ (bm_ (by simp;omega) (by simp;omega)) rfl) rfl
  | false=>exact aa_ (a:=(t.Xp,s++[t.Xz[i]])) (aa_ (bm_ (by simp;omega) (by simp;omega)) rfl) rfl
 .unfold mU_;simp only;rw[be_];rfl
theorem f7_(s:Str):eN_ s=some (cO_ s):=by unfold eN_ cO_;cases decide ((s.length:Int)>64)<;>rfl
theorem jR_(n:Xq)(uid:Str)(now:Int):fa_ n uid now=some (aU_ n uid now):=by
 unfold fa_;exact aa_ rfl (aa_ (f7_ uid) rfl)
theorem uq_(t:Xv)(id:Int)(uid:Str)(now:Int)(h:t.Xz.length<=2000):gV_ t id uid now=some (Xv.mk t.Xp (aM_ t.Xz (aU_ (ai_ t.Xz id).1 uid now))):=by
 unfold gV_;exact aa_ (aK_ t id h) (aa_ (jR_ _ uid now) (aa_ (gN_ t _ h) rfl))
theorem vP_(t:Xv)(dir:Int)(name:Str)(mode:Int)(uid gid:Str)(now:Int)(h:OkT t.Xz t.Xp)(hm:mode<=9223372036854775807)(p:name.length<=9223372036854775807):kJ_ t dir name mode uid gid now=some (f3_ t dir name mode uid gid now):=by
 have u:=h.len;unfold kJ_ f3_;refine aa_ (aK_ t dir (by omega)) ?_;cases m:(ai_ t.Xz dir).2 with
 | false=>rfl
 | true =>
  refine ab_ rfl (aa_ (ta_ h (aA_ m).1) ?_);cases s:al_ (ai_ t.Xz dir).1.Xk 31 with
  | false=>rfl
  | true =>
   refine ab_ rfl (aa_ (gY_ name p) ?_);cases j:bv_ name with
   | false=>rfl
   | true =>
    refine ab_ rfl (aa_ (m0_ mode hm) ?_);cases aF_ mode with
    | false=>rfl
    | true =>
     refine ab_ rfl (aa_ (jA_ t dir name h) ?_);have f:(name==[46,46])=false:=by
      unfold bv_ at j;simp only[qAn,zM]at j;rw[zZ];exact j.1.2
     have q:((gv_ t.Xz dir name).2==0)=(t.Xz.find? (cf_ dir name)).isSome:=by
      unfold gv_;rw[m,s,f];cases t.Xz.find? (cf_ dir name)<;>rfl
     rw[q];cases(t.Xz.find? (cf_ dir name)).isSome with
     | true=>rfl
     | false =>
      refine ab_ rfl ?_;cases decide ((t.Xz.length:Int)>=1024)||decide (t.Xp>1048575)with
      | true=>rfl
      | false =>
       refine ab_ rfl (aa_ (f7_ uid) (aa_ (f7_ gid) (aa_ (f7_ uid) (aa_ rfl (aa_ rfl (aa_ (uq_ t dir uid now (by omega)) (aa_ (bm_ ?_ ?_) rfl)))))))
       .simp[c6_];omega
       .simp[c6_];omega
theorem vQ_(t:Xv)(id:Int)(uid:Str)(now:Int)(h:OkT t.Xz t.Xp):kN_ t id uid now=some (en_ t id uid now):=by
 have V:=h.len;unfold kN_ en_;refine aa_ (aK_ t id (by omega)) ?_;cases U:(ai_ t.Xz id).2 with
 | false=>rfl
 | true =>
  refine ab_ rfl ?_;cases O:id==1 with
  | true=>rfl
  | false =>
   refine ab_ rfl (aa_ (iI_ t id h) ?_);cases decide (((aQ_ t.Xz id).length:Int)>0)with
   | true=>rfl
   | false =>
    have D:=mi_ (λn:Xq=>n.Id_ != id) (λn=>n) t.Xz 0 [];rw[zG,List.map_id']at D;refine ab_ rfl (aa_ (a:=(t.Xp,t.Xz.filter λn=>n.Id_ != id)) ?_ ?_)
    .rw[←D];refine d4_ (τ:=Int×Int×List Xq) t.Xz _ (λi s=>((i:Int),t.Xp,s)) (λi s=>s.length<=i) (λs=>(t.Xp,s)) [] (bu_ (by omega)) (qA _) (λi s hi F=>⟨?_,ue_ _ _ _ _ F⟩) (λs F => ?_)
     .unfold kM_;simp only;rw[aT_ hi,ap_ hi,as_ (by omega)];refine ae_ rfl ?_;simp only[qBs];cases t.Xz[i].Id_ != id with
      | true=>exact aa_ (a:=(t.Xp,s++[t.Xz[i]])) (aa_ (bm_ (by simp;omega) (by simp;omega)) rfl) rfl
      | false=>rfl
     .unfold kM_;simp only;rw[be_];rfl
    .obtain⟨hm,C⟩:=aA_ U;have y:(ai_ t.Xz id).1.Id_≠1:=by rw[C];simpa using O
     obtain⟨p,q,m,J,G⟩:=h.par _ hm y;have j:=ca_ h.srt q;rw[m]at j;have u:(t.Xz.filter λn=>n.Id_ != id).Pairwise λa b=>a.Id_<b.Id_:=h.srt.filter _
     have x:p∈t.Xz.filter λn=>n.Id_ != id:=zR.2 ⟨q,by rw[zM];omega⟩
     have f:=ca_ u x;rw[m]at f;refine aa_ (uq_ _ _ uid now (by have:=jk (λn:Xq=>n.Id_ != id) t.Xz;simp only;omega)) ?_;simp only;rw[f,j]
     congr 3
     unfold aM_;rw[List.filter_map]
     congr 1
     apply List.filter_congr;intro n _;show(n.Id_ != id)=((bif n.Id_==p.Id_ then aU_ p uid now else n).Id_ != id);cases M:n.Id_==p.Id_ with
     | true=>rw[qF.1 M];rfl
     | false=>rfl
theorem ry_(t:Xv)(id:Int)(h:OkT t.Xz t.Xp):kF_ t id=some ((ai_ t.Xz id).1,e3_ t.Xz id):=by
 have j:=h.len;unfold kF_ e3_;refine aa_ (aK_ t id (by omega)) ?_;cases f:(ai_ t.Xz id).2 with
 | false=>rfl
 | true =>
  refine ab_ rfl (aa_ (ta_ h (aA_ f).1) ?_);cases al_ (ai_ t.Xz id).1.Xk 31<;>rfl
theorem zeros_eq(x:Int)(h:x<=65536):i1_ x=some (List.replicate x.toNat 0):=by
 unfold i1_;have e:ci_ x 0=(x.toNat:Int):=by unfold ci_;split<;>omega
 rw[e];refine aa_ (uc_ (by omega) (by omega) (by omega)) ?_;rw[qTn];simp[bytesS]
theorem pa_(t:Xv)(id size:Int)(uid:Str)(now:Int)(h:OkT t.Xz t.Xp):hG_ t id size uid now=some (cN_ t id size uid now):=by
 have s:=h.len;unfold hG_ cN_;refine aa_ (ry_ t id h) ?_;cases p:e3_ t.Xz id != 0 with
 | true=>rfl
 | false =>
  obtain⟨f1,f2⟩:=nH_ p;have hm:=(aA_ f1).1;have q:=i4_ (h.flds _ hm);refine ab_ rfl ?_;by_cases f:size<0
  .rw[show decide (size<0)=true by simpa using f];rfl
  .by_cases m:size>65536
   .rw[show decide (size<0)=false by simpa using f,show decide (size>65536)=true by simpa using m];rfl
   .rw[show decide (size<0)=false by simpa using f,show decide (size>65536)=false by simpa using m];refine ab_ rfl (ab_ rfl ?_);cases size==((ai_ t.Xz id).1.Xl.length:Int)with
    | true=>rfl
    | false =>
     refine ab_ rfl ?_;obtain⟨n,rfl⟩:∃n:Nat,size=(n:Int):=⟨size.toNat,by omega⟩;simp only;generalize hN:(ai_ t.Xz id).1=N at q;rw[q6_ _ _ (by omega),qTn];refine aa_ (bV_ (by omega) (by omega) (by omega)) ?_;rw[ao_ ⟨by omega,by omega⟩,qTn,Int.toNat_zero,zo];refine aa_ (zeros_eq _ (by omega)) ?_;have e:N.Xl.take (min n N.Xl.length)++List.replicate ((n:Int)-(N.Xl.length:Int)).toNat 0=fitS N.Xl n:=by
      unfold fitS;rw[show((n:Int)-(N.Xl.length:Int)).toNat=n-N.Xl.length by omega]
      congr 1
      rcases qN n N.Xl.length with j|j
      .rw[zk (by omega)]
      .rw[jR j,qf j,qf (qA _)]
     refine aa_ (bI_ (by simp;omega)) ?_;rw[e];refine aa_ (jR_ _ uid now) (aa_ (gN_ t _ (by omega)) rfl)
theorem w4_ (t:Xv) (id offset:Int) (data uid:Str) (now:Int) (h:OkT t.Xz t.Xp) (M:offset<=9223372036854775807) (F:data.length<=9223372036854775807):l9_ t id offset data uid now=some (hP_ t id offset data uid now):=by
 have O:=h.len;unfold l9_ hP_;refine aa_ (ry_ t id h) ?_;cases D:e3_ t.Xz id != 0 with
 | true=>rfl
 | false =>
  obtain⟨f1,f2⟩:=nH_ D;have hm:=(aA_ f1).1;have G:=i4_ (h.flds _ hm);have j:=h.mode hm;refine ab_ rfl ?_;by_cases y:offset<0
  .rw[show decide (offset<0)=true by simpa using y];rfl
  .rw [show decide (offset<0)=false by simpa using y];refine ab_ rfl ?_;cases data==[]with
   | true=>rfl
   | false =>
    refine ab_ rfl ?_;have q:=has_lit (ai_ t.Xz id).1.Xk 30 (by omega) (by omega);have m:decide ((ai_ t.Xz id).1.Xk>=0)=true:=by simp;omega
    simp only[Nat.reducePow,zz,m,zY]at q;simp only;generalize hN:(ai_ t.Xz id).1=N at G q;generalize x:(bif al_ N.Xk 30 then(N.Xl.length:Int)else offset)=o;have C:0<=o/\o<=9223372036854775807:=by
     subst x;cases al_ N.Xk 30
     .simp;omega
     .simp;omega
    refine aa_ (a:=o) ?_ ?_
    .rw[q,←x];cases al_ N.Xk 30<;>rfl
    .simp only[qr];by_cases f:o+(data.length:Int)>65536
     .have u:decide (o+(data.length:Int)>65536)=true:=by simpa using f
      rw[u];refine ae_ ?_ rfl;rw[qT,qDe,qDe];by_cases J:(data.length:Int)>65536
      .exact .inl J
      .rw[ao_ ⟨by omega,by omega⟩];exact .inr (by omega)
     .have u:decide (o+(data.length:Int)>65536)=false:=by simpa using f
      rw[u];refine ab_ ?_ ?_
      .rw[ao_ ⟨by omega,by omega⟩];simp;omega
      .obtain⟨p,rfl⟩:∃p:Nat,o=(p:Int):=⟨o.toNat,by omega⟩;rw[q6_ _ _ (by omega),qTn];refine aa_ (bV_ (by omega) (by omega) (by omega)) ?_;rw[ao_ (n:=(p:Int)+(data.length:Int)) ⟨by omega,by omega⟩,show(p:Int)+(data.length:Int)=((p+data.length:Nat):Int)by omega,q6_ _ _ (by omega),qTn];refine aa_ (bV_ (by omega) (by omega) (by omega)) ?_;rw[qTn,qTn,qTn,jo,drop_min,Int.toNat_zero,zo,ao_ ⟨by omega,by omega⟩];refine aa_ (zeros_eq _ (by omega)) ?_;have e:N.Xl.take (min p N.Xl.length)++List.replicate ((p:Int)-(N.Xl.length:Int)).toNat 0=fitS N.Xl p:=by
        unfold fitS;rw[show((p:Int)-(N.Xl.length:Int)).toNat=p-N.Xl.length by omega]
        congr 1
        rcases qN p N.Xl.length with s|s
        .rw[zk (by omega)]
        .rw[jR s,qf s,qf (qA _)]
       refine aa_ (bI_ (by simp;omega)) ?_;rw[e];refine aa_ (bI_ (by rw[lH_];omega)) (aa_ (bI_ (by simp[lH_];omega)) ?_);refine aa_ (jR_ _ uid now) (aa_ (gN_ t _ (by omega)) ?_);simp only[qr];rfl
theorem okName_dd{name:Str}(h:bv_ name=true):(name==[46,46])=false:=by
 unfold bv_ at h;simp only[qAn,zM]at h;rw[zZ];exact h.1.2
theorem vR_(t:Xv)(id:Int)(name uid:Str)(now:Int)(h:OkT t.Xz t.Xp)(y:name.length<=9223372036854775807):kP_ t id name uid now=some (eT_ t id name uid now):=by
 have J:=h.len;unfold kP_ eT_;refine aa_ (aK_ t id (by omega)) ?_;cases G:(ai_ t.Xz id).2 with
 | false=>rfl
 | true =>
  refine ab_ rfl ?_;cases F:id==1 with
  | true=>rfl
  | false =>
   refine ab_ rfl (aa_ (gY_ name y) ?_);cases D:bv_ name with
   | false=>rfl
   | true =>
    refine ab_ rfl ?_;cases(ai_ t.Xz id).1.Xg==name with
    | true=>rfl
    | false =>
     refine ab_ rfl (aa_ (jA_ t _ name h) ?_);obtain⟨hm,u⟩:=aA_ G;have s:(ai_ t.Xz id).1.Id_≠1:=by rw[u];simpa using F
     obtain⟨p,q,m,x,j⟩:=h.par _ hm s;have f:=ca_ h.srt q;rw[m]at f;have C:((gv_ t.Xz (ai_ t.Xz id).1.Xh name).2==0)=(t.Xz.find? (cf_ (ai_ t.Xz id).1.Xh name)).isSome:=by
      unfold gv_;rw[f,okName_dd D];simp only[jC,qr,j];cases t.Xz.find? (cf_ (ai_ t.Xz id).1.Xh name)<;>rfl
     rw[C];cases(t.Xz.find? (cf_ (ai_ t.Xz id).1.Xh name)).isSome with
     | true=>rfl
     | false =>
      refine ab_ rfl (aa_ (gN_ t _ (by omega)) (aa_ (uq_ _ _ uid now (by simp only[c6_];omega)) rfl))
theorem w5_(t:Xv)(id mode:Int)(gid:Str)(mtime:Int)(h:OkT t.Xz t.Xp)(m:mode<=9223372036854775807):mf_ t id mode gid mtime=some (hQ_ t id mode gid mtime):=by
 have q:=h.len;unfold mf_ hQ_;refine aa_ (aK_ t id (by omega)) ?_;cases p:(ai_ t.Xz id).2 with
 | false=>rfl
 | true =>
  have f:=ta_ h (aA_ p).1;generalize hN:(ai_ t.Xz id).1=N at f;refine ab_ rfl (aa_ (a:=(mode != -1)&&(!(aF_ mode) || !(al_ mode 31==al_ N.Xk 31))) ?_ ?_)
  .cases mode != -1 with
   | false=>rfl
   | true =>
    refine ae_ rfl (aa_ (m0_ mode m) ?_);cases j:aF_ mode with
    | false=>rfl
    | true =>
     refine aa_ (a := !(al_ mode 31==al_ N.Xk 31)) ?_ rfl;refine ab_ rfl (aa_ (a:=al_ mode 31) ?_ (aa_ f rfl));unfold bh_;rw[eY_ j]
  .cases(mode != -1)&&(!(aF_ mode) || !(al_ mode 31==al_ N.Xk 31))with
   | true=>rfl
   | false =>
    refine ab_ rfl ?_;cases(mtime != -1)&&(decide (mtime<0)||decide (mtime>1099511627776))with
    | true=>rfl
    | false =>
     refine ab_ rfl ?_;refine aa_ (a:=Xq.mk N.Id_ N.Xh N.Xo N.Xg (bif mode != -1 then mode else N.Xk) N.Yg N.Yj N.Ym N.Yw N.Xe N.Xl) (by cases mode != -1<;>rfl) ?_;refine aa_ (a:=Xq.mk N.Id_ N.Xh N.Xo N.Xg (bif mode != -1 then mode else N.Xk) N.Yg (bif !(cO_ gid==[])then gid else N.Yj) N.Ym N.Yw N.Xe N.Xl) (aa_ (f7_ gid) (by cases cO_ gid==[]<;>rfl)) ?_;refine aa_ (a:=e4_ N mode gid mtime) ?_ (aa_ (gN_ t _ (by omega)) rfl);unfold e4_;cases mtime != -1<;>rfl
theorem ref_above{s:Xj}(f:FileOK s)(z:SizeOK s)(user:Str){id:Int}(h:isS s id=true):(Option.bind (bif(id==1)then some true else Option.bind (eM_ s user (ak_ s id).Xh 2) λ(m:Bool)=>some (!m)) λ(j:Bool)=>some j)=some (!(ec_ s user (ak_ s id))):=by
 rw[k0_ f z];unfold ec_;rw[td_ h];unfold bne;cases id==1 with
 | true=>simp
 | false=>simp
theorem ref_opens_eq {s:Xj} (z:SizeOK s) (f:FileOK s) (user:Str) (id mode:Int) (j:user.length<=9223372036854775807) (hm:I64 mode):l8_ s user id mode=some (fo_ s user id mode):=by
 unfold l8_ fo_ bR_;refine aa_ (aK_ _ _ (nl2 z)) (aa_ (eP_ _ j) ?_);cases vU user with
 | false=>rfl
 | true =>
  refine ab_ rfl ?_;cases hi:(ai_ s.Xy.Xz id).2 with
  | false=>unfold isS;rw[hi];rfl
  | true =>
   have h:isS s id=true:=hi;rw[h];refine ab_ rfl (aa_ (cJ_ mode hm) ?_);show _=some (i6_ s user (ak_ s id) mode);unfold i6_;cases m:(bS_ mode).2 != 0 with
   | true=>rfl
   | false =>
    obtain⟨q,p⟩:=o8_ m;refine ab_ rfl (aa_ (fH_ _ (ch_ f id)).1 ?_);show(bif al_ (ak_ s id).Xk 31&&mode != 0 then _ else _)=_;cases al_ (ak_ s id).Xk 31&&mode != 0 with
    | true=>rfl
    | false =>
     refine ab_ rfl (aa_ (k0_ f z user id _) ?_);rw[h,zY];cases mayS s user (ak_ s id) (bS_ mode).1 with
     | false=>rfl
     | true =>
      refine ab_ rfl (aa_ (fH_ _ (by omega)).2.2.2.1 (aa_ (a:=al_ mode 6 && !(ec_ s user (ak_ s id))) ?_ ?_))
      .cases al_ mode 6 with
       | false=>rfl
       | true =>
        refine ae_ rfl ?_;rw[zY];exact ref_above f z user h
      .cases al_ mode 6 && !(ec_ s user (ak_ s id))with
       | true=>rfl
       | false =>
        refine ab_ rfl (aa_ (fH_ _ (ch_ f id)).2.2.1 ?_);rw[ref13_in_eq _ _ (by have:=z.el;omega)];refine aa_ (a:=al_ (ak_ s id).Xk 29&&decide ((ak_ s id).Id_∈s.Xt)) ?_ ?_
        .rw[td_ h];cases al_ (ak_ s id).Xk 29<;>rfl
        .cases al_ (ak_ s id).Xk 29&&decide ((ak_ s id).Id_∈s.Xt)<;>rfl
theorem ref_open_eq{s:Xj}(f:FileOK s)(z:SizeOK s)(user:Str)(id mode now:Int)(j:user.length<=9223372036854775807)(hm:I64 mode):ny_ s user id mode now=some (k3_ s user id mode now):=by
 unfold ny_ k3_;refine aa_ (ref_opens_eq z f user id mode j hm) ?_;cases h:fo_ s user id mode != 0 with
 | true=>rfl
 | false =>
  obtain⟨_,_,p,m⟩:=pA_ h;refine ab_ rfl (aa_ (aK_ _ _ (nl2 z)) (aa_ (a:=putTr s (bif al_ mode 4 && !(al_ (ak_ s id).Xk 30)then(cN_ s.Xy id 0 user (ax_ now)).1 else s.Xy)) ?_ (aa_ (a:=let t:=(bif al_ mode 4 && !(al_ (ak_ s id).Xk 30)then(cN_ s.Xy id 0 user (ax_ now)).1 else s.Xy);(s.Yz,s.Yx,t.Xp,t.Xz,bif al_ (ak_ s id).Xk 29 then eZ_ s.Xt id else s.Xt)) ?_ rfl)))
  .rw[(fH_ _ (ch_ f id)).2.1];refine aa_ (fH_ mode (by omega)).2.2.2.2 (aa_ (a:=al_ mode 4 && !(al_ (ak_ s id).Xk 30)) (by cases al_ mode 4<;>rfl) ?_);cases al_ mode 4 && !(al_ (ak_ s id).Xk 30)with
   | true=>exact ae_ rfl (aa_ rfl (aa_ (pa_ s.Xy id 0 user (ax_ now) f.tr) rfl))
   | false=>rfl
  .refine aa_ (fH_ _ (ch_ f id)).2.2.1 ?_;cases al_ (ak_ s id).Xk 29 with
   | true=>exact ae_ rfl (aa_ (fwith_eq _ id f.srt (by have:=z.el;show s.Xt.length<=1000;omega)) rfl)
   | false=>rfl
theorem w6_ {s:Xj} (z:SizeOK s) (f:FileOK s) (user:Str) (id:Int) (name:Str) (perm mode:Int) (m:user.length<=9223372036854775807) (hm:I64 mode) (j:perm<=9223372036854775807) (p:name.length<=9223372036854775807):jr_ s user id name perm mode=some (ew_ s user id name perm mode):=by
 unfold jr_ ew_ dirC;refine aa_ (aK_ _ _ (nl2 z)) (aa_ (eP_ _ m) ?_);cases vU user with
 | false=>rfl
 | true =>
  refine ab_ rfl ?_;cases hi:(ai_ s.Xy.Xz id).2 with
  | false=>unfold isS;rw[hi];rfl
  | true =>
   have h:isS s id=true:=hi;rw[h];refine ab_ rfl (aa_ (fH_ _ (ch_ f id)).1 ?_);cases al_ (ak_ s id).Xk 31 with
   | false=>rfl
   | true =>
    show _=some (mJ_ s user (ak_ s id) name perm mode);unfold mJ_;rw[td_ h];refine ab_ rfl (aa_ (gY_ _ p) ?_);cases bv_ name with
    | false=>rfl
    | true =>
     refine ab_ rfl (aa_ (fmade_eq _ j) ?_);cases aF_ perm with
     | false=>rfl
     | true =>
      refine ab_ rfl (aa_ (cJ_ mode hm) ?_);cases(bS_ mode).2 != 0 with
      | true=>rfl
      | false =>
       refine ab_ rfl (aa_ (jA_ _ _ _ f.tr) (aa_ (fH_ _ j).1 ?_));cases al_ perm 31&&mode != 0 with
       | true=>rfl
       | false =>
        refine ab_ rfl (aa_ (k0_ f z user id 2) ?_);rw[h,zY];cases mayS s user (ak_ s id) 2 with
        | false=>rfl
        | true =>
         refine ab_ rfl ?_;cases(gv_ s.Xy.Xz id name).2==0 with
         | true=>rfl
         | false =>
          refine ab_ rfl (aa_ (rv_ _ _ _ _ _ z.ql (nl2 z)) ?_);cases mk_ s.Yx s.Xy user 1 0<;>rfl
theorem yI_{s:Xj}(f:FileOK s)(z:SizeOK s)(user:Str)(id:Int)(name:Str)(perm mode now:Int)(u:user.length<=9223372036854775807)(hm:I64 mode)(x:perm<=9223372036854775807)(j:name.length<=9223372036854775807):kK_ s user id name perm mode now=some (lJ_ s user id name perm mode now):=by
 unfold kK_ lJ_;refine aa_ (w6_ z f user id name perm mode u hm x j) ?_;cases p:ew_ s user id name perm mode != 0 with
 | true=>rfl
 | false =>
  obtain⟨C,y⟩:=rw_ p;obtain⟨F,_,hi,_⟩:=sw_ C;obtain⟨_,h,_,_⟩:=tJ_ y;obtain⟨q,_,D,_,m,_⟩:=inhI_kind f hi h;refine ab_ rfl (aa_ (aK_ _ _ (nl2 z)) (aa_ D (aa_ (rfl:hF_ now=some (ax_ now)) (aa_ (vP_ s.Xy id name _ user _ (ax_ now) f.tr m j) ?_))));show _=some (bif(f3_ s.Xy id name (e0_ (ak_ s id).Xk perm) user (ak_ s id).Yj (ax_ now)).2.2 != 0 then _ else _);generalize f3_ s.Xy id name (e0_ (ak_ s id).Xk perm) user (ak_ s id).Yj (ax_ now)=c;cases c.2.2 != 0 with
  | true=>rfl
  | false =>
   refine ab_ rfl (aa_ (a:=(s.Yz,s.Yx,c.1.Xp,c.1.Xz,bif al_ (e0_ (ak_ s id).Xk perm) 29 then eZ_ s.Xt c.2.1 else s.Xt)) (aa_ (fH_ _ m).2.2.1 ?_) rfl);cases al_ (e0_ (ak_ s id).Xk perm) 29 with
   | true=>exact ae_ rfl (aa_ (fwith_eq _ _ f.srt (by have:=z.el;omega)) rfl)
   | false=>rfl
theorem ref_write_eq {s:Xj} (f:FileOK s) (z:SizeOK s) (user:Str) (id offset:Int) (data:Str) (now:Int) (p:user.length<=9223372036854775807) (m:data.length<=9223372036854775807):ma_ s user id offset data now=some (ow_ s user id offset data now):=by
 unfold ma_ ow_ bR_;refine aa_ (aK_ _ _ (nl2 z)) (aa_ (eP_ _ p) ?_);cases vU user with
 | false=>rfl
 | true =>
  refine ab_ rfl ?_;cases hi:(ai_ s.Xy.Xz id).2 with
  | false=>unfold isS;rw[hi];rfl
  | true =>
   have h:isS s id=true:=hi;rw[h];refine ab_ rfl (aa_ (fH_ _ (ch_ f id)).1 ?_);cases x:al_ (ak_ s id).Xk 31 with
   | true=>rfl
   | false =>
    refine ab_ rfl ?_;cases q:decide (offset<0)with
    | true=>rfl
    | false =>
     refine ab_ rfl ?_;cases j:data==[]with
     | true=>rfl
     | false =>
      refine ab_ rfl (aa_ (a:=bif al_ (ak_ s id).Xk 30 then((ak_ s id).Xl.length:Int)else offset) (aa_ (fH_ _ (ch_ f id)).2.1 (by cases al_ (ak_ s id).Xk 30<;>rfl)) ?_);show _=some (bif _||_ then(s,0,4)else bif !(hR_ s (ak_ s id) (w64 (_+(data.length:Int))))then(s,0,21)else _);generalize y:(bif al_ (ak_ s id).Xk 30 then((ak_ s id).Xl.length:Int)else offset)=o;cases u:decide (o>65536)||decide ((data.length:Int)>w64 (65536-o))with
      | true=>rfl
      | false =>
       refine ab_ rfl (aa_ (sD_ z _ _) ?_);cases G:hR_ s (ak_ s id) (w64 (o+(data.length:Int)))with
       | false=>rfl
       | true =>
        obtain⟨F,D,C⟩:=write_ok (now:=ax_ now) (user:=user) hi x (by simpa using q) j y.symm u;exact ab_ rfl (aa_ rfl (aa_ (w4_ s.Xy id o data user (ax_ now) f.tr (by omega) m) rfl))
theorem rz_{s:Xj}(f:FileOK s)(z:SizeOK s)(user:Str)(id now:Int)(j:user.length<=9223372036854775807):hH_ s user id now=some (dT_ s user id now):=by
 unfold hH_ dT_ bR_;refine aa_ (aK_ _ _ (nl2 z)) (aa_ (eP_ _ j) ?_);cases vU user with
 | false=>rfl
 | true =>
  refine ab_ rfl ?_;cases hi:(ai_ s.Xy.Xz id).2 with
  | false=>unfold isS;rw[hi];rfl
  | true =>
   have h:isS s id=true:=hi;rw[h];refine ab_ rfl (aa_ (a := !(ec_ s user (ak_ s id))) ?_ ?_)
   .have:=ref_above f z user h;simpa only[Option.bind_fun_some]using this
   .cases ec_ s user (ak_ s id)with
    | false=>rfl
    | true =>
     refine ab_ rfl (aa_ rfl (aa_ (vQ_ s.Xy id user (ax_ now) f.tr) ?_));show _=some (bif(en_ s.Xy id user (ax_ now)).2 != 0 then _ else _);cases(en_ s.Xy id user (ax_ now)).2 != 0 with
     | true=>rfl
     | false=>exact ab_ rfl (aa_ (ra_ _ id (by have:=z.el;show s.Xt.length<=1000;omega)) rfl)
theorem sF_{s:Xj}(f:FileOK s)(z:SizeOK s)(user:Str)(id mode now:Int)(h:user.length<=9223372036854775807)(hm:mode<=9223372036854775807):mc_ s user id mode now=some (mK_ s user id mode now):=by
 unfold mc_ mK_;refine aa_ (ra_ _ id (by have:=z.el;omega)) ?_;rw[(fH_ _ hm).2.2.2.1];simp only[qBs];cases al_ mode 6 with
 | false=>rfl
 | true =>
  have:=rz_ (out_ok f id) (out_size z id) user id now h;unfold setX at this;rw[this];rfl
theorem refnums_eq(x:Yf):js_ x=some (mL_ x):=by
 unfold js_ o1_ gu_ mL_ okIn f4_;simp only[qBs];generalize((x.Ys == -1)||(decide (x.Ys>=0)&&decide (x.Ys<=65534)))=m;generalize((x.Zy == -1)||(decide (x.Zy>=0)&&decide (x.Zy<=4294967294)))=a2;generalize((x.Yo.Ys == -1)||(decide (x.Yo.Ys>=0)&&(bL_ .i64 x.Yo.Ys 232==x.Yo.Ys)))=a3;generalize((x.Yo.Xo == -1)||(decide (x.Yo.Xo>=0)&&decide (x.Yo.Xo<=2147483647)))=a4;generalize((x.Yo.Zj == -1)||(decide (x.Yo.Zj>=0)&&decide (x.Yo.Zj<=1099511627776)))=a5;generalize((x.Xk == -1)||(decide (x.Xk>=0)&&(bL_ .i64 x.Xk 3892314623==x.Xk)))=j;generalize((x.Yw == -1)||(decide (x.Yw>=0)&&decide (x.Yw<=1099511627776)))=h;generalize((x.Xe == -1)||(decide (x.Xe>=0)&&decide (x.Xe<=1099511627776)))=f
 generalize((x.Xa == -1)||(decide (x.Xa>=0)&&decide (x.Xa<=9007199254740991)))=a9;cases m<;>cases a2<;>cases a3<;>cases a4<;>cases a5<;>cases j<;>cases h<;>cases f<;>cases a9<;>rfl
theorem w7_(x:Yf)(f:x.Xg.length<=9223372036854775807):me_ x=some (f5_ x):=by
 unfold me_ f5_;rw[refnums_eq,gY_ _ f];simp only[qBs];have em:∀n:Nat,decide ((n:Int)>64) = !decide (n<=64):=λn=>by
  rw[qK];simp only[qH,qDe,qDf];omega
 rw[em,em,em];unfold okTexts;cases mL_ x<;>cases(x.Xg==[])<;>cases(x.Xg==[47])<;>cases bv_ x.Xg<;>cases decide (x.Yg.length<=64)<;>cases decide (x.Yj.length<=64)<;>cases decide (x.Ym.length<=64)<;>simp
theorem sets_eq{s:Xj}(z:SizeOK s)(user:Str)(n:Xq)(d:Yf)(h:n.Xk<=9223372036854775807)(f:d.Xk<=9223372036854775807):nB_ s user n d=some (setsS s user n d):=by
 unfold nB_ qW_ setsS o9_ ownsS;rw[qf_ _ _ _ z.ul z.um,qf_ _ _ _ z.ul z.um,kY_ _ _ _ z.ul z.um,(fH_ _ h).1,(fH_ _ f).1,fmade_eq _ f];simp only[qBs];cases user==n.Yg<;>cases gM_ s.Yz user n.Yj<;>cases d.Xk != -1<;>cases al_ d.Xk 31==al_ n.Xk 31<;>cases aF_ d.Xk<;>cases d.Xe != -1<;>cases d.Yj==[]<;>cases d.Yj==n.Yj<;>cases dS_ s.Yz user d.Yj<;>cases gM_ s.Yz user d.Yj<;>rfl
theorem w8_{s:Xj}(f:FileOK s)(z:SizeOK s)(user:Str)(id:Int)(m:user.length<=9223372036854775807)(d:Yf)(j:DirB d):jv_ s user id d=some (dz_ s user id d):=by
 unfold jv_ dz_ bR_;refine aa_ (aK_ _ _ (nl2 z)) (aa_ (eP_ _ m) ?_);cases vU user with
 | false=>rfl
 | true =>
  refine ab_ rfl ?_;cases hi:(ai_ s.Xy.Xz id).2 with
  | false=>unfold isS;rw[hi];rfl
  | true =>
   have h:isS s id=true:=hi;rw[h];show _=some (jQ_ s user (ak_ s id) d);unfold jQ_;refine ab_ rfl (aa_ (w7_ d j.2.2) ?_);cases f5_ d != 0 with
   | true=>rfl
   | false =>
    refine ab_ rfl (aa_ (a:=(d.Ys != -1||d.Zy != -1) || !decide (d.Yo=Zm.mk (-1) (-1) (-1))) (by cases d.Ys != -1||d.Zy != -1<;>rfl) ?_);show(bif mM_ d then _ else _)=some (bif mM_ d then _ else _);cases mM_ d with
    | true=>rfl
    | false =>
     refine ab_ rfl (aa_ (vM_ f z user _ _ j.2.2).2 ?_);show(bif dx_ s user (ak_ s id) d.Xg != 0 then _ else _)=some (bif dx_ s user (ak_ s id) d.Xg != 0 then _ else _);cases dx_ s user (ak_ s id) d.Xg != 0 with
     | true=>rfl
     | false =>
      refine ab_ rfl (aa_ (vN_ f z user h _).2 ?_);show(bif dy_ s user (ak_ s id) d.Xa != 0 then _ else _)=some (bif dy_ s user (ak_ s id) d.Xa != 0 then _ else _);cases dy_ s user (ak_ s id) d.Xa != 0 with
      | true=>rfl
      | false=>exact ab_ rfl (aa_ (sets_eq z user _ d (ch_ f id) j.2.1) rfl)
theorem outX_not{l:List Int}{x:Int}(h:x∉l):cM_ l x=l:=by
 unfold cM_;rw[jU];intro y f;have:y≠x:=λe=>h (e▸f)
 simpa using this
theorem ref_wstat_eq{s:Xj}(f:FileOK s)(z:SizeOK s)(user:Str)(id:Int)(d:Yf)(now:Int)(u:user.length<=9223372036854775807)(j:DirB d):mg_ s user id d now=some (hT_ s user id d now):=by
 unfold mg_ hT_;refine aa_ (w8_ f z user id u d j) ?_;cases q:dz_ s user id d != 0 with
 | true=>rfl
 | false =>
  obtain⟨hi,kA,kB,kC,iC,mC⟩:=pB_ f now q;refine ab_ rfl (aa_ (aK_ _ _ (nl2 z)) (aa_ (a:=putTr s (bP_ s.Xy user id (ak_ s id) d now)) ?_ (aa_ (a:=putTr s (cc_ (bP_ s.Xy user id (ak_ s id) d now) user id (ak_ s id) d now)) ?_ (aa_ (a:=f6_ (ak_ s id) d) ?_ (aa_ (a:=putTr s (cw_ (cc_ (bP_ s.Xy user id (ak_ s id) d now) user id (ak_ s id) d now) id (ak_ s id) d)) ?_ (aa_ (a:=(s.Yz,s.Yx,(cw_ (cc_ (bP_ s.Xy user id (ak_ s id) d now) user id (ak_ s id) d now) id (ak_ s id) d).Xp,(cw_ (cc_ (bP_ s.Xy user id (ak_ s id) d now) user id (ak_ s id) d now) id (ak_ s id) d).Xz,hS_ s.Xt id d)) ?_ rfl))))))
  .unfold bP_;show(bif !(d.Xg==[]) && !(d.Xg==(ak_ s id).Xg)then _ else _)=_;cases !(d.Xg==[]) && !(d.Xg==(ak_ s id).Xg)with
   | true=>exact ae_ rfl (aa_ rfl (aa_ (vR_ s.Xy id d.Xg user (ax_ now) f.tr j.2.2) rfl))
   | false=>rfl
  .generalize C:bP_ s.Xy user id (ak_ s id) d now=tA at kA;unfold cc_;show(bif d.Xa != -1&&d.Xa != ((ak_ s id).Xl.length:Int)then _ else _)=_;cases d.Xa != -1&&d.Xa != ((ak_ s id).Xl.length:Int)with
   | true=>exact ae_ rfl (aa_ rfl (aa_ (pa_ tA id d.Xa user (ax_ now) kA.ok) rfl))
   | false=>rfl
  .unfold f6_;show(bif d.Yj==(ak_ s id).Yj then _ else _)=_;cases d.Yj==(ak_ s id).Yj<;>rfl
  .generalize y:cc_ (bP_ s.Xy user id (ak_ s id) d now) user id (ak_ s id) d now=tB at kB;unfold cw_;cases(d.Xk != -1||d.Xe != -1) || !(f6_ (ak_ s id) d==[])with
   | true=>exact ae_ rfl (aa_ (w5_ tB id d.Xk _ d.Xe kB.ok j.2.1) rfl)
   | false=>rfl
  .generalize x:cw_ (cc_ (bP_ s.Xy user id (ak_ s id) d now) user id (ak_ s id) d now) id (ak_ s id) d=tC at kC iC mC;refine aa_ (aK_ _ _ (by have:=kC.len;show tC.Xz.length<=2000;omega)) (aa_ (fH_ _ (iq_ kC id)).2.2.1 ?_);show(bif !(al_ (ai_ tC.Xz id).1.Xk 29)then _ else _)=_;rw[mC];have p:et_ s.Xt id=some (cM_ s.Xt id):=ra_ _ id (by have:=z.el;omega);unfold hS_;cases hm:d.Xk != -1 with
   | true =>
    simp only[qm,zY];cases al_ d.Xk 29 with
    | true=>rfl
    | false=>exact ae_ rfl (aa_ p rfl)
   | false =>
    simp only[qr,Bool.false_and];cases m:al_ (ak_ s id).Xk 29 with
    | true=>rfl
    | false =>
     refine ae_ rfl (aa_ p ?_);rw[outX_not (λh=>by rw[(f.exc id h).2]at m;cases m)];rfl
open Go.Sort
theorem lL_{α:Type}{R:α->α->Prop}:∀{f l2:List α},f.Perm l2->f.Pairwise R->l2.Pairwise R->(∀a,a∈f->∀b,b∈f->R a b->R b a->a=b)->f=l2
 | [],l2,j,_,_,_=>j.nil_eq
 | a::f,[],j,_,_,_=>absurd j.length_eq (by simp)
 | a::f,b::l2,j,O,M,D=>by
  have p:=ze.1 O;have m:=ze.1 M;have s:a=b:=by
   by_cases e:a=b
   .exact e
   have J:a∈b::l2:=j.subset qE;have C:b∈a::f:=j.symm.subset qE;rcases qW.1 J with h|u
   .exact h
   rcases qW.1 C with h|q
   .exact h.symm
   exact D a qE b C (p.1 b q) (m.1 a u)
  subst s;rw[lL_ j.cons_inv p.2 m.2 λx G y F=>D x (qC _ G) y (qC _ F)]
def leK{α:Type}(key:α->Int)(x y:α):Bool:=decide (key x<=key y)
theorem key_inj{α:Type}{key:α->Int}:∀{l:List α},(l.map key).Nodup->∀a,a∈l->∀b,b∈l->key a=key b->a=b
 | [],_,a,m,_,_,_=>by cases m
 | x::l,h,a,m,b,q,e=>by
  rw[zB]at h;obtain⟨p,s⟩:=List.nodup_cons.1 h;rcases qW.1 m with j|j<;>rcases qW.1 q with f|f
  .rw[j,f]
  .rw[j]at e;exact absurd (qz.2 ⟨b,f,e.symm⟩) p
  .rw[f]at e;exact absurd (qz.2 ⟨a,j,e⟩) p
  .exact key_inj s a j b f e
theorem pC_{α:Type}[Inhabited α]{key:α->Int}{xs p:List α}(h:gF_ key xs=some p):p.Perm xs/\p.Pairwise λa b=>leK key a b=true:=by
 unfold gF_ at h;split at h
 .obtain rfl:=qSj h;have C:=pdq_sorts (λ(x y:α)=>decide (key x<key y)) ⟨λx=>by simp,λx y z u m=>by simp at *;omega,λx y z u m=>by simp at *;omega⟩ xs.toArray 0 xs.length (Lib.bitLen xs.length) true true (zV _) (by simp) (Or.inl rfl);generalize Sort.pdq (λ(x y:α)=>decide (key x<key y)) xs.toArray 0 xs.length (Lib.bitLen xs.length) true true=d at C;obtain⟨⟨u,_,m⟩,F⟩:=C;have f:d.size=xs.length:=by simpa using u
  have J:d.extract 0 xs.length=d:=by rw[←f];simp
  have G:xs.toArray.extract 0 xs.length=xs.toArray:=by
   have:xs.length=xs.toArray.size:=by simp
   rw[this];simp
  rw[J,G]at m;refine⟨by simpa using m,qq.2 λi j hi D s => ?_⟩;have q:j<xs.length:=by simpa[f]using D
  have:=F i j (zV _) s q;rw[getElem!_pos d j (by omega),getElem!_pos d i (by omega)]at this;unfold leK;simp only[qDe,qDf]at *
  simpa using this
 .cases h
end Go.Proofs.YtebokaoegomboaaGreatDoor
namespace Go.Proofs.YtebokaoegomboaaGreatDoor
open Go.Rt Go.RowKit
theorem awake_eq:l4_=some true:=by kernel_rfl
theorem put_loop(n:Int)(w:Nat)(m:w<=8):am_ (hB_ (List.replicate w (0:Int)) n) BIG (0,List.replicate w (0:Int))=some (leL n w):=by
 have p:BIG=18446744073709551616:=rfl;have h:=bf_ (body:=hB_ (List.replicate w (0:Int)) n) (λi=>((i:Int),leL n i++List.replicate (w-i) (0:Int))) w (by omega) (b:=leL n w) (λi hi => ?_) ?_
 .simpa[leL]using h
 .unfold hB_;have f:decide ((i:Int)<((List.replicate w (0:Int)).length:Int))=true:=by simp;omega
  simp only[f,qm];rw[ud_ n i (by omega)];simp only[qBs];have q:(leL n i++List.replicate (w-i) (0:Int)).length=w:=by simp[leL_len];omega
  rw[ap_ (by omega:i<(leL n i++List.replicate (w-i) (0:Int)).length)];simp only[qBs,qTn];rw[ao_ (n:=(i:Int)+1) ⟨by omega,by omega⟩,wu8];have j:=set_mid (leL n i) (w-(i+1)) (0:Int) (kV_ n i);rw[leL_len,show w-(i+1)+1=w-i by omega]at j;rw[leL_succ];show some (Step.next ((i:Int)+1,(leL n i++List.replicate (w-i) (0:Int)).set i (kV_ n i)))=_;rw[j];rfl
 .unfold hB_;have f:decide ((w:Int)<((List.replicate w (0:Int)).length:Int))=false:=by simp
  simp only[f,qr];simp
def fitsW(n:Int)(w:Nat):Bool:=decide (0<=n)&&(decide (8<=w)||decide (n<2^(8*w)))
theorem yJ_(n:Int)(w:Nat)(x:1<=w)(s:w<=8):gd_ n (w:Int)=some (if fitsW n w then(leB n w,0)else([],5)):=by
 unfold gd_;refine ab_ (by rw[qP];exact⟨by simp;omega,by simp;omega⟩) ?_;refine aa_ (a := !(fitsW n w)) ?_ ?_
 .unfold fitsW;by_cases p:n<0
  .refine ae_ (by simpa using p) ?_;have:decide (0<=n)=false:=by simp;omega
   rw[this];rfl
  .refine ab_ (by simpa using p) ?_;have j:decide (0<=n)=true:=by simp;omega
   rw[j];by_cases h:w<8
   .have m:decide (8<=w)=false:=by simp;omega
    rw[m];refine aa_ (a := !decide (n<2^(8*w))) (ae_ (by simp;omega) (aa_ (ud_ n w h) ?_)) (by simp);have q:(0:Int)<2^(8*w):=Int.pow_pos (by omega);rw[Int.fdiv_eq_ediv_of_nonneg _ (by omega)]
    congr 1
    by_cases f:n<2^(8*w)
    .rw[Int.ediv_eq_zero_of_lt (by omega) f];simp[f]
    .have:1<=n/2^(8*w):=by
      rw[Int.le_ediv_iff_mul_le q];omega
     simp[f];omega
   .have m:decide (8<=w)=true:=by simp;omega
    rw[m];exact aa_ (a:=false) (ab_ (by simp;omega) rfl) rfl
 .cases u:fitsW n w with
  | false=>exact ae_ rfl rfl
  | true =>
   refine ab_ rfl ?_;refine aa_ (uc_ (by omega) (by omega) (by omega)) ?_;rw[qTn];exact aa_ (put_loop n w s) rfl
theorem k4_(n:Int)(w:Nat)(m:1<=w)(j:w<=8)(p:0<=n)(f:w<8->n<2^(8*w)):gd_ n (w:Int)=some (leB n w,0):=by
 rw[yJ_ n w m j,qV];unfold fitsW;rw[qAn,qT];refine⟨by simpa using p,?_⟩;rcases qN w 8 with h|h
 .exact .inr (by simpa using f h)
 .exact .inl (by simpa using h)
def b1_(s:Str):Str:=leB (s.length:Int) 2++s
theorem b2_(s:Str):(b1_ s).length=2+s.length:=by simp[b1_,aL_]
theorem text_put(s:Str)(h:s.length<=65535):gJ_ s=some (b1_ s,0):=by
 unfold gJ_;have c:decide ((s.length:Int)>65535)=false:=by simp;omega
 rw[c];simp only[qr];have f:=k4_ (s.length:Int) 2 (by omega) (by omega) (by omega) (λ_=>by show(s.length:Int)<2^16;omega);rw[show((2:Nat):Int)=2 from rfl]at f;rw[f];simp only[qBs];rw[bI_ (by rw[aL_];omega)];rfl
def leV:Str->Nat | []=>0|b::r=>b.toNat+256*leV r
theorem leV_lt:∀(s:Str),leV s<2^(8*s.length)
 | []=>by simp[leV]
 | b::r=>by
  have h:=leV_lt r;have f:=b.toNat_lt;simp only[leV,qLc];rw[show 8*(r.length+1)=8*r.length+8 by omega,Nat.pow_add];omega
def win(s:Str)(at_ w:Nat):Str:=(s.drop at_).take w
theorem j9_{s:Str}{at_ w:Nat}(h:at_+w<=s.length):(win s at_ w).length=w:=by simp[win];omega
theorem rb_{s:Str}{at_ w j:Nat}(h:at_+w<=s.length)(m:j<w):(win s at_ w).drop (w-(j+1))=s[at_+(w-1-j)]'(by omega)::(win s at_ w).drop (w-j):=by
 have f:=j9_ h;rw[qw (by omega:w-(j+1)<(win s at_ w).length)]
 congr 1
 .simp only[win,List.getElem_take,List.getElem_drop]
  congr 1
  omega
 .congr 1
  omega
theorem or_byte(a b:Nat)(f:b<256):(a*256)|||b=a*256+b:=by
 have:=Nat.shiftLeft_add_eq_or_of_lt (i:=8) (b:=b) (by omega) a;rw[Nat.shiftLeft_eq]at this;exact this.symm
theorem get_loop(s:Str)(at_ w:Nat)(J:1<=w)(G:w<=8)(h:at_+w<=s.length)(D:s.length<=9223372036854775807):am_ (hz_ s (at_:Int)) BIG (0,w64 ((w:Int)-1))=some (leV (win s at_ w):Int):=by
 have F:BIG=18446744073709551616:=rfl;have p:=bf_ (body:=hz_ s (at_:Int)) (λj=>(((leV ((win s at_ w).drop (w-j)):Nat):Int),(w:Int)-1-(j:Int))) w (by omega) (b:=(leV (win s at_ w):Int)) (λj u => ?_) ?_
 .have e:(win s at_ w).drop (w-0)=[]:=jM (by rw[j9_ h];omega);simp only[e,leV]at p;rw[ao_ ⟨by omega,by omega⟩];simpa using p
 .unfold hz_;have f:=leV_lt ((win s at_ w).drop (w-j));have m:((win s at_ w).drop (w-j)).length=j:=by rw[qc,j9_ h];omega
  rw[m]at f;have q:2^(8*j)<=2^56:=zI (by omega) (by omega);refine ae_ (by simp;omega) ?_;have ei:w64 ((at_:Int)+((w:Int)-1-(j:Int)))=((at_+(w-1-j):Nat):Int):=by
   rw[ao_ ⟨by omega,by omega⟩];omega
  show Option.bind (cu_ s (w64 ((at_:Int)+((w:Int)-1-(j:Int))))) _=_;rw[ei];refine aa_ (lD_ (by omega)) ?_;rw[rb_ h u];simp only[leV];generalize s[at_+(w-1-j)]'(by omega)=b;have x:=b.toNat_lt;generalize leV ((win s at_ w).drop (w-j))=v at f ⊢;show some (Step.next (orI .u64 (IntKind.u64.wrap ((v:Int)*2^8)) (IntKind.u64.wrap (b.toNat:Int)),w64 ((w:Int)-1-(j:Int)-1)))=_;have C:IntKind.u64.wrap ((v:Int)*2^8)=((v*256:Nat):Int):=by rw[wu64];omega
  have y:IntKind.u64.wrap (b.toNat:Int)=(b.toNat:Int):=by rw[wu64];omega
  rw[C,y,orI_u64 (by omega) (by omega),or_byte _ _ x,ao_ ⟨by omega,by omega⟩]
  congr 3
  .omega
  .omega
 .unfold hz_;refine ab_ (by simp;omega) ?_;simp
theorem get_eq(s:Str)(at_ w:Nat)(q:1<=w)(p:w<=8)(h:at_<=s.length)(m:s.length<=9223372036854775807) :
  mA_ s (at_:Int) (w:Int)=some (if s.length-at_<w then(0,0,3)else if leV (win s at_ w)>9223372036854775807 then(0,0,5)else((leV (win s at_ w):Int),((at_+w:Nat):Int),0)):=by
 unfold mA_;refine ab_ (by simp;omega) ?_;have el:w64 ((s.length:Int)-(at_:Int))=((s.length-at_:Nat):Int):=by rw[ao_ ⟨by omega,by omega⟩];omega
 rw[el];by_cases f:s.length-at_<w
 .rw[qV f];exact ae_ (by simp;omega) rfl
 .rw[qX f];refine ab_ (by simp;omega) ?_;refine aa_ (get_loop s at_ w q p (by omega) m) ?_;by_cases j:leV (win s at_ w)>9223372036854775807
  .rw[qV j];exact ae_ (by simp;omega) rfl
  .rw[qX j];refine ab_ (by simp;omega) ?_;rw[ao_ (n:=(leV (win s at_ w):Int)) ⟨by omega,by omega⟩,ao_ (n:=(at_:Int)+(w:Int)) ⟨by omega,by omega⟩];rfl
theorem win_sub(s:Str)(at_ w:Nat)(h:at_+w<=s.length)(f:s.length<=9223372036854775807):bF_ s (at_:Int) (w64 ((at_:Int)+(w:Int)))=some (win s at_ w):=by
 rw[ao_ ⟨by omega,by omega⟩,bV_ (by omega) (by omega) (by omega)]
 congr 1
 simp only[win,qTn];rw[show((at_:Int)+(w:Int)).toNat=at_+w by omega,jF,show at_+w-at_=w by omega]
def takeT(s:Str)(a:Nat):Option (Str×Nat):=if s.length<a+2 then none else if s.length<a+2+leV (win s a 2)then none else some (win s (a+2) (leV (win s a 2)),a+2+leV (win s a 2))
theorem oy_{s t:Str}{a p:Nat}(h:takeT s a=some (t,p)):p<=s.length/\t.length<=s.length/\a+2<=p:=by
 unfold takeT at h;split at h
 .cases h
 .split at h
  .cases h
  .rename_i j f;simp only[qOi,qG]at h;obtain⟨rfl,rfl⟩:=h;refine⟨by omega,?_,by omega⟩;rw[j9_ (by omega)];omega
theorem leV_two(s:Str)(a:Nat)(h:a+2<=s.length):leV (win s a 2)<65536:=by
 have:=leV_lt (win s a 2);rw[j9_ h]at this;exact this
theorem gettext_eq(s:Str)(a:Nat)(h:a<=s.length)(u:s.length<=2000000):jg_ s (a:Int)=some (match takeT s a with|none=>([],0,3)|some (t,p)=>(t,(p:Int),0)):=by
 unfold jg_;have f:=get_eq s a 2 (by omega) (by omega) h (by omega);rw[show((2:Nat):Int)=2 from rfl]at f;unfold takeT;by_cases m:s.length<a+2
 .rw[qV (by omega)]at f;rw[qV m];refine aa_ f ?_;exact ae_ rfl rfl
 .have q:=leV_two s a (by omega);rw[qX (by omega),qX (by omega)]at f;rw[qX m];refine aa_ f ?_;refine ab_ rfl ?_;have ew:w64 ((s.length:Int)-((a+2:Nat):Int))=((s.length-(a+2):Nat):Int):=by rw[ao_ ⟨by omega,by omega⟩];omega
  have ex:w64 (((a+2:Nat):Int)+(leV (win s a 2):Int))=((a+2+leV (win s a 2):Nat):Int):=by rw[ao_ ⟨by omega,by omega⟩];omega
  by_cases j:s.length<a+2+leV (win s a 2)
  .rw[qV j];refine ae_ ?_ rfl;show decide (w64 ((s.length:Int)-((a+2:Nat):Int))<(leV (win s a 2):Int))=true;rw[ew];simp only[qDe];omega
  .rw[qX j];refine ab_ ?_ ?_
   .show decide (w64 ((s.length:Int)-((a+2:Nat):Int))<(leV (win s a 2):Int))=false;rw[ew];simp only[qDf];omega
   refine aa_ (win_sub s (a+2) (leV (win s a 2)) (by omega) (by omega)) ?_;show some (_,w64 (((a+2:Nat):Int)+(leV (win s a 2):Int)),(0:Int))=_;rw[ex]
theorem leV_leL:∀(w:Nat) (n:Nat),n<2^(8*w)->leV (leB (n:Int) w)=n:=by
 have key:∀(l:Str) (b:UInt8),leV (l++[b])=leV l+2^(8*l.length)*b.toNat:=by
  intro l
  induction l with
  | nil=>intro b;simp[leV]
  | cons a l f =>
   intro b;simp only[qa,leV,f,qLc];rw[show 8*(l.length+1)=8*l.length+8 by omega,Nat.pow_add,Nat.mul_add];have:256*(2^(8*l.length)*b.toNat)=2^(8*l.length)*2^8*b.toNat:=by
    rw[show(2:Nat)^8=256 from rfl,jQ (2^(8*l.length)) 256,Nat.mul_assoc]
   omega
 have gen:∀(w n:Nat),leV (leB (n:Int) w)=n%2^(8*w):=by
  intro w
  induction w with
  | zero=>intro n;simp[leB,leL,bytesS,leV,Nat.mod_one]
  | succ w f =>
   intro n;have m:(kV_ (n:Int) w).toNat=n/2^(8*w)%256:=by
    unfold kV_;have h:((2:Int)^(8*w))=((2^(8*w):Nat):Int):=by simp
    rw[h,Int.fdiv_eq_ediv_of_nonneg _ (Int.natCast_nonneg _)];have:((n:Int)/((2^(8*w):Nat):Int))=((n/2^(8*w):Nat):Int):=rfl;rw[this];generalize n/2^(8*w)=q;omega
   rw[leB_succ,show bytesS [kV_ (n:Int) w]=[UInt8.ofNat (kV_ (n:Int) w).toNat]from rfl,key,f,aL_,m];have p:(UInt8.ofNat (n/2^(8*w)%256)).toNat=n/2^(8*w)%256:=by simp
   rw[p,show 8*(w+1)=8*w+8 by omega,Nat.pow_add,Nat.mod_mul]
 intro w n j;rw[gen,Nat.mod_eq_of_lt j]
theorem orI_comm(k:IntKind)(a b:Int):orI k a b=orI k b a:=by
 unfold orI;rw[BitVec.or_comm]
def rot(x:Int)(n:Nat):Int:=orI .u32 (IntKind.u32.wrap (x*2^(32-n))) (x.fdiv (2^n))
theorem right2(x:Int):bz_ x 2=some (rot x 2):=by kernel_rfl
theorem right6(x:Int):bz_ x 6=some (rot x 6):=by kernel_rfl
theorem right7(x:Int):bz_ x 7=some (rot x 7):=by kernel_rfl
theorem right11(x:Int):bz_ x 11=some (rot x 11):=by kernel_rfl
theorem right13(x:Int):bz_ x 13=some (rot x 13):=by kernel_rfl
theorem right17(x:Int):bz_ x 17=some (rot x 17):=by kernel_rfl
theorem right18(x:Int):bz_ x 18=some (rot x 18):=by kernel_rfl
theorem right19(x:Int):bz_ x 19=some (rot x 19):=by kernel_rfl
theorem right22(x:Int):bz_ x 22=some (rot x 22):=by kernel_rfl
theorem right25(x:Int):bz_ x 25=some (rot x 25):=by kernel_rfl
theorem fB_(x:Int)(n:Int)(m:Nat)(h:bi_ x n=some (orI .u32 (x.fdiv (2^m)) (IntKind.u32.wrap (x*2^(32-m))))):bi_ x n=some (rot x m):=by
 rw[h,orI_comm];rfl
theorem rotr2(x:Int):bi_ x 2=some (rot x 2):=fB_ x 2 2 (by kernel_rfl)
theorem rotr6(x:Int):bi_ x 6=some (rot x 6):=fB_ x 6 6 (by kernel_rfl)
theorem rotr7(x:Int):bi_ x 7=some (rot x 7):=fB_ x 7 7 (by kernel_rfl)
theorem rotr11(x:Int):bi_ x 11=some (rot x 11):=fB_ x 11 11 (by kernel_rfl)
theorem rotr13(x:Int):bi_ x 13=some (rot x 13):=fB_ x 13 13 (by kernel_rfl)
theorem rotr17(x:Int):bi_ x 17=some (rot x 17):=fB_ x 17 17 (by kernel_rfl)
theorem rotr18(x:Int):bi_ x 18=some (rot x 18):=fB_ x 18 18 (by kernel_rfl)
theorem rotr19(x:Int):bi_ x 19=some (rot x 19):=fB_ x 19 19 (by kernel_rfl)
theorem rotr22(x:Int):bi_ x 22=some (rot x 22):=fB_ x 22 22 (by kernel_rfl)
theorem rotr25(x:Int):bi_ x 25=some (rot x 25):=fB_ x 25 25 (by kernel_rfl)
theorem map_nthI(y:List Int):(List.range y.length).map (az_ y)=y:=by
 apply zL;intro i;rw[qi];by_cases hi:i<y.length
 .rw[List.getElem?_range hi,qQ hi];simp[az_,hi]
 .rw[qR (by simpa using hi),qR (by omega)];rfl
theorem l_of64{y:List Int}(h:y.length=64):(Yi.of y).l=y:=by
 have f:(Yi.of y).l=(List.range 64).map (az_ y):=rfl;rw[f,←h,map_nthI]
theorem lM_{y:List Int}{i:Nat}(h:i<y.length):an_ y (i:Int)=some (az_ y i):=by
 rw[ap_ h];simp[az_,h]
def mn_(b:Str)(i:Nat):Int:=((b.getD i 0).toNat:Int)
theorem pD_{b:Str}{i:Nat}(h:i<b.length):cu_ b (i:Int)=some (mn_ b i):=by
 rw[lD_ h];simp[mn_,h]
def wordN(b:Str)(i:Nat):Int:=orI .u32 (orI .u32 (orI .u32 (IntKind.u32.wrap ((IntKind.u32.wrap (mn_ b (4*i)))*2^24)) (IntKind.u32.wrap ((IntKind.u32.wrap (mn_ b (4*i+1)))*2^16))) (IntKind.u32.wrap ((IntKind.u32.wrap (mn_ b (4*i+2)))*2^8))) (IntKind.u32.wrap (mn_ b (4*i+3)))
def wdHi(i:Nat)(l:List Int):Int:=(IntKind.u32.wrap ((IntKind.u32.wrap ((IntKind.u32.wrap (az_ l (i-16)+(bW_ .u32 (bW_ .u32 (rot (az_ l (i-15)) 7) (rot (az_ l (i-15)) 18)) ((az_ l (i-15)).fdiv (2^3)))))+az_ l (i-7)))+(bW_ .u32 (bW_ .u32 (rot (az_ l (i-2)) 17) (rot (az_ l (i-2)) 19)) ((az_ l (i-2)).fdiv (2^10)))))
def wd(b:Str)(i:Nat)(l:List Int):Int:=if i<16 then wordN b i else wdHi i l
theorem wd_hi{b:Str}{i:Nat}{l:List Int}(h:¬i<16):wd b i l=wdHi i l:=qX h
def bU_(b:Str):Nat->List Int | 0=>[]|i+1=>bU_ b i++[wd b i (bU_ b i)]
theorem df_(b:Str):∀i,(bU_ b i).length=i
 | 0=>rfl
 | i+1=>by simp[bU_,df_ b i]
def eB_(b:Str)(i:Nat):List Int:=bU_ b i++List.replicate (64-i) 0
theorem rc_(b:Str){i:Nat}(h:i<=64):(eB_ b i).length=64:=by
 simp[eB_,df_];omega
theorem schedA_nth(b:Str){i j:Nat}(h:j<i):az_ (eB_ b i) j=az_ (bU_ b i) j:=by
 have:j<(bU_ b i).length:=by rw[df_];exact h
 simp only[az_,eB_,za];rw[zP this]
theorem schedA_set(b:Str){i:Nat}(h:i<64):(eB_ b i).set i (wd b i (bU_ b i))=eB_ b (i+1):=by
 unfold eB_;have e:64-i=(64-(i+1))+1:=by omega
 rw[List.set_append_right _ _ (by rw[df_];exact qA _),df_,Nat.sub_self,e,List.replicate_succ,List.set_cons_zero,bU_,qe];rfl
theorem word_eq{b:Str}{i:Nat}(m:b.length=64)(hi:i<16):oY_ ((b.take 64).drop (4*i))=some (wordN b i):=by
 have h:b.take 64=b:=by rw[←m];exact jo
 rw[h];unfold oY_;have f:∀j:Nat,j<4->cu_ (b.drop (4*i)) (j:Int)=some (mn_ b (4*i+j)):=λj x=>by
  rw[pD_ (by rw[qc];omega)]
  congr 1
  simp only[mn_,za,zA]
 have u:=f 0 (by omega);have s:=f 1 (by omega);have q:=f 2 (by omega);have p:=f 3 (by omega);refine aa_ u (aa_ s (aa_ q (aa_ p rfl)))
theorem oz_{n i:Nat}(h:i<n):do_ n (i:Int)=some ():=by
 unfold do_;simp[h]
set_option maxRecDepth 100000 in
theorem schedule_eq{b:Str}(q:b.length=64):jf_ b=some (Yi.of (bU_ b 64)):=by
 unfold jf_;refine aa_ (a:=Yi.of (bU_ b 64)) ?_ rfl;have m:eB_ b 64=bU_ b 64:=by simp[eB_]
 rw[←m];refine bf_ (T:=λi=>((i:Int),Yi.of (eB_ b i))) 64 (by decide) (λi hi => ?_) ?_
 .unfold jJ_;have p:=l_of64 (rc_ b (jS hi));have f:setI (Yi.of (eB_ b i)).l (i:Int) (wd b i (bU_ b i))=some (eB_ b (i+1)):=by
   rw[p];unfold setI;rw[qV ⟨by omega,by rw[rc_ b (jS hi)];omega⟩,qTn,schedA_set b hi]
  refine ae_ (by simp;omega) ?_;refine aa_ (a:=Yi.of (eB_ b (i+1))) ?_ (by rw[as_ (by omega)]);by_cases h:i<16
  .refine ae_ (by simp;omega) ?_;have u:w64 (4*(i:Int))=((4*i:Nat):Int):=by rw[ao_ ⟨by omega,by omega⟩];omega
   refine aa_ (a:=(b.take 64).drop (4*i)) ?_ (aa_ (word_eq q h) (aa_ (oz_ hi) (aa_ (a:=eB_ b (i+1)) ?_ rfl)))
   .rw[u,bV_ (by omega) (by omega) (by omega),qTn,qTn,q]
   .have:wd b i (bU_ b i)=wordN b i:=by unfold wd;rw[qV h]
    rw[←this];exact f
  .refine ab_ (by simp;omega) ?_;have ek:∀k:Nat,k<=16->w64 ((i:Int)-(k:Int))=((i-k:Nat):Int):=λk j=>by rw[ao_ ⟨by omega,by omega⟩];omega
   have eg:∀k:Nat,0<k->k<=16->an_ (Yi.of (eB_ b i)).l (w64 ((i:Int)-(k:Int)))=some (az_ (bU_ b i) (i-k)):=λk s j=>by
    rw[ek k j,p,lM_ (by rw[rc_ b (jS hi)];omega),schedA_nth b (by omega)]
   have eb:∀k:Nat,0<k->k<=16->do_ 64 (w64 ((i:Int)-(k:Int)))=some ():=λk s j=>by
    rw[ek k j];exact oz_ (by omega)
   refine aa_ (eb 15 (by omega) (by omega)) (aa_ (eg 15 (by omega) (by omega)) (aa_ (eb 2 (by omega) (by omega)) (aa_ (eg 2 (by omega) (by omega)) (aa_ (right7 _) (aa_ (right18 _) (aa_ (right17 _) (aa_ (right19 _) (aa_ (eb 16 (by omega) (by omega)) (aa_ (eg 16 (by omega) (by omega)) (aa_ (eb 7 (by omega) (by omega)) (aa_ (eg 7 (by omega) (by omega)) (aa_ (oz_ hi) (aa_ (a:=eB_ b (i+1)) ?_ rfl)))))))))))));rw[wd_hi h]at f;exact f
 .unfold jJ_;exact ab_ (by simp) rfl
theorem room1{α:Type}{n:Nat}{xs f:List α}(h:(xs.length+f.length)*n<=140737488355328)(j:xs.length+f.length<=140737488355328):room n xs f=some (xs++f):=bm_ (by omega) h
theorem vU_{b:Str}(q:b.length=64):ib_ b=some (bU_ b 64):=by
 unfold ib_;refine aa_ (a:=bU_ b 16) ?_ (aa_ (a:=bU_ b 64) ?_ rfl)
 .refine bf_ (T:=λi=>((i:Int),bU_ b i)) 16 (by decide) (λi hi => ?_) ?_
  .unfold iz_;refine ae_ (by simp;omega) ?_;have m:w64 (4*(i:Int))=((4*i:Nat):Int):=by rw[ao_ ⟨by omega,by omega⟩];omega
   have ej:∀j:Nat,j<4->w64 (w64 (4*(i:Int))+(j:Int))=((4*i+j:Nat):Int):=λj f=>by rw[m,ao_ ⟨by omega,by omega⟩];omega
   have h:cu_ b (w64 (4*(i:Int)))=some (mn_ b (4*i)):=by rw[m];exact pD_ (by omega)
   have f:∀j:Nat,j<4->cu_ b (w64 (w64 (4*(i:Int))+(j:Int)))=some (mn_ b (4*i+j)):=λj f=>by rw[ej j f];exact pD_ (by omega)
   refine aa_ h (aa_ (f 1 (by omega)) (aa_ (f 2 (by omega)) (aa_ (f 3 (by omega)) (aa_ (a:=bU_ b (i+1)) ?_ (by rw[as_ (by omega)])))));rw[room1 (by simp[df_];omega) (by simp[df_];omega),bU_];have:wd b i (bU_ b i)=wordN b i:=by unfold wd;rw[qV hi]
   rw[this];rfl
  .unfold iz_;exact ab_ (by simp) rfl
 .refine bf_ (T:=λk=>(((16+k:Nat):Int),bU_ b (16+k))) 48 (by decide) (λk p => ?_) ?_
  .unfold iA_;refine ae_ (by simp;omega) ?_;have ek:∀j:Nat,j<=16->w64 (((16+k:Nat):Int)-(j:Int))=((16+k-j:Nat):Int):=λj f=>by rw[ao_ ⟨by omega,by omega⟩];omega
   have eg:∀j:Nat,0<j->j<=16->an_ (bU_ b (16+k)) (w64 (((16+k:Nat):Int)-(j:Int)))=some (az_ (bU_ b (16+k)) (16+k-j)):=λj h f=>by
    rw[ek j f,lM_ (by rw[df_];omega)]
   refine aa_ (eg 15 (by omega) (by omega)) (aa_ (eg 2 (by omega) (by omega)) (aa_ (rotr7 _) (aa_ (rotr18 _) (aa_ (rotr17 _) (aa_ (rotr19 _) (aa_ (eg 16 (by omega) (by omega)) (aa_ (eg 7 (by omega) (by omega)) (aa_ (a:=bU_ b (16+(k+1))) ?_ ?_))))))))
   .rw[room1 (by simp[df_];omega) (by simp[df_];omega),←zO,bU_];rw[wd_hi (by omega)];rfl
   .show some (Step.next (w64 (((16+k:Nat):Int)+1),_))=_;rw[as_ (by omega)];rfl
  .unfold iA_;exact ab_ (by simp) rfl
end Go.Proofs.YtebokaoegomboaaGreatDoor
