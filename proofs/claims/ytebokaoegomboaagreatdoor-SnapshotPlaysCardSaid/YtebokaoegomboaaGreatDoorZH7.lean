/-
 What the statements of this seat hang on,part 7: Num Fa0 Ht Ua.
-/
import Derived.Test.YtebokaoegomboaaGreatDoorZH6
import Derived.Laws.BitsLemmas
import Derived.KernelRfl
namespace Go
namespace Rt
theorem aq_{n:Int}(h:I64 n):w64 n=n:=by
 unfold w64;rw[IntKind.wrap_i64];omega
theorem dA_{n:Int}(h:I64 n):IntKind.i64.wrap n=n:=aq_ h
theorem wu8(n:Int):IntKind.u8.wrap n=n%256:=IntKind.wrap_u8 n
theorem wu64(n:Int):IntKind.u64.wrap n=n%18446744073709551616:=by simp[IntKind.wrap,IntKind.bits,IntKind.signed]
theorem gi_{a:Nat}(f:a<2^64):(BitVec.ofInt 64 (a:Int)).toNat=a:=by
 rw[BitVec.toNat_ofInt];have:((a:Int)%((2^64:Nat):Int))=((a%2^64:Nat):Int):=by omega
 rw[this];simp;omega
theorem li_{a b:Nat}(h:a<2^63)(f:b<2^63):bF_ .i64 a b=((a&&&b:Nat):Int):=by
 have j:a&&&b<2^63:=Nat.and_lt_two_pow a f;show IntKind.i64.wrap (((BitVec.ofInt 64 (a:Int)&&&BitVec.ofInt 64 (b:Int)).toNat:Nat):Int)=_;rw[BitVec.toNat_and,gi_ (by omega),gi_ (by omega)];exact dA_ ⟨by omega,by omega⟩
theorem orI_u64{a b:Nat}(h:a<2^64)(f:b<2^64):orI .u64 a b=((a|||b:Nat):Int):=by
 have j:a|||b<2^64:=Nat.or_lt_two_pow h f
 show IntKind.u64.wrap (((BitVec.ofInt 64 (a:Int)|||BitVec.ofInt 64 (b:Int)).toNat:Nat):Int)=_;rw[BitVec.toNat_or,gi_ h,gi_ f,wu64];omega
theorem pj_{a b:Nat}(f:a<2^63)(h:b<2^63):dc_ .i64 a b=((a&&&(2^64-1-b):Nat):Int):=by
 have j:a&&&(2^64-1-b)<2^63:=Nat.lt_of_le_of_lt Nat.and_le_left f;show IntKind.i64.wrap (((BitVec.ofInt 64 (a:Int) &&& ~~~(BitVec.ofInt 64 (b:Int))).toNat:Nat):Int)=_;rw[BitVec.toNat_and,BitVec.toNat_not,gi_ (by omega),gi_ (by omega)];exact dA_ ⟨by omega,by omega⟩
theorem tn_{a b:Nat}(j:a<2^63)(p:b<2^63):(dc_ .i64 a b==0)=(bF_ .i64 a b==a):=by
 rw[pj_ j p,li_ j p];rw[qK];simp only[qG];constructor
 .intro h;have m:a&&&(2^64-1-b)=0:=by omega
  have:a&&&b=a:=by
   apply jK;intro i;have hi:=qH (λn=>n.testBit i) m;simp only[jA,Nat.zero_testBit]at hi ⊢;by_cases f:i<64
   .rw[show 2^64-1-b=2^64-(b+1)by omega,Nat.testBit_two_pow_sub_succ (by omega)]at hi;simp only[f,decide_true,zY]at hi;cases s:a.testBit i<;>cases q:b.testBit i<;>simp_all
   .have:a.testBit i=false:=zr (zJ j (zI (by omega) (by omega)));simp[this]
  omega
 .intro h;have m:a&&&b=a:=by omega
  have:a&&&(2^64-1-b)=0:=by
   apply jK;intro i;have hi:=qH (λn=>n.testBit i) m;simp only[jA,Nat.zero_testBit]at hi ⊢;by_cases f:i<64
   .rw[show 2^64-1-b=2^64-(b+1)by omega,Nat.testBit_two_pow_sub_succ (by omega)];simp only[f,decide_true,zY];cases s:a.testBit i<;>cases q:b.testBit i<;>simp_all
   .have:a.testBit i=false:=zr (zJ j (zI (by omega) (by omega)));simp[this]
  omega
theorem and_le{a b:Nat}(h:a&&&b=a):a<=b:=by
 rw[←h];exact Nat.and_le_right
theorem bit_and{a k:Nat}:(a&&&2^k != 0)=(a/2^k%2==1):=by
 have m:a&&&2^k=if a.testBit k then 2^k else 0:=by
  apply jK;intro i;rw[jA,Nat.testBit_two_pow];by_cases f:k=i
  .subst f;cases h:a.testBit k<;>simp
  .cases h:a.testBit k<;>simp[f]
 rw[m];have j:a.testBit k=decide (a/2^k%2=1):=Nat.testBit_eq_decide_div_mod_eq;by_cases h:a/2^k%2=1
 .simp[j,h]
 .simp[j,h]
theorem aa_{α β:Type}{x:Option α}{a:α}{f:α->Option β}{r:Option β}(h:x=some a)(hr:f a=r):x.bind f=r:=by subst h;exact hr
theorem af_{α:Type}{c:Bool}{A B r:α}(f:c=true)(h:A=r):(bif c then A else B)=r:=by subst f;exact h
theorem ab_{α:Type}{c:Bool}{A B r:α}(f:c=false)(h:B=r):(bif c then A else B)=r:=by subst f;exact h
theorem loopF_run{σ β:Type}{body:σ->Option (Step σ β)}(I:Nat->σ->β->Prop)
  (m:∀s b,I 0 s b->body s=some (.done b))
  (h:∀k s b,I (k+1) s b->body s=some (.done b)\/∃s',body s=some (.next s')/\I k s' b):∀{k n:Nat} {s:σ} {b:β},I k s b->k<n->am_ body n s=some b
 | 0,n+1,s,b,j,_=>by simp only[am_,m s b j]
 | k+1,n+1,s,b,j,u=>by
  simp only[am_];rcases h k s b j with q|⟨s',p,f⟩
  .rw[q]
  .rw[p];exact loopF_run I m h f (by omega)
theorem fE_{σ β:Type}{body:σ->Option (Step σ β)}(n:Nat)(p:n<BIG)(J:Nat->σ->β->Prop)(x:∀s b,J n s b->body s=some (.done b))
  (h:∀i s b,i<n->J i s b->body s=some (.done b)\/∃s',body s=some (.next s')/\J (i+1) s' b) {s:σ} {b:β} (u:J 0 s b):am_ body BIG s=some b:=by
 refine loopF_run (λk s b=>k<=n/\J (n-k) s b) (λs b f=>x s b (by simpa using f.2)) (λk s b f => ?_) (k:=n) ⟨qA _,by simpa using u⟩ p;obtain⟨y,f⟩:=f;rcases h _ s b (by omega) f with q|⟨s',m,j⟩
 .exact .inl q
 .exact .inr ⟨s',m,by omega,by rwa [show n-(k+1)+1=n-k by omega]at j⟩
theorem be_{σ β:Type}{body:σ->Option (Step σ β)}(T:Nat->σ)(n:Nat)(m:n<BIG){b:β}(j:∀i,i<n->body (T i)=some (.next (T (i+1))))(p:body (T n)=some (.done b)):am_ body BIG (T 0)=some b:=by
 refine fE_ (J:=λi s h=>s=T i/\h=b) n m (λs h f => ?_) (λi s h hi f => ?_) ⟨rfl,rfl⟩
 .obtain⟨rfl,rfl⟩:=f;exact p
 .obtain⟨rfl,rfl⟩:=f;exact .inr ⟨_,j i hi,rfl,rfl⟩
theorem bx_{α:Type}(xs:List α)(i:Nat):an_ xs (i:Int)=xs[i]? := by
 unfold an_;rw[qV (by omega)];simp
theorem au_{α:Type}{xs:List α}{i:Nat}(h:i<xs.length):an_ xs (i:Int)=some xs[i]:=by
 rw[bx_,qQ h]
theorem lj_{s:Str}{i:Nat}(h:i<s.length):cx_ s (i:Int)=some (s[i].toNat:Int):=by
 unfold cx_;rw[au_ h];rfl
theorem bK_{a b:Str}(h:a.length+b.length<=9223372036854775807):cat a b=some (a++b):=by
 unfold cat;rw[qV h]
theorem bj_{α:Type}{bytes:Nat}{xs f:List α}(j:xs.length+f.length<=9223372036854775807)(h:(xs.length+f.length)*bytes<=140737488355328):room bytes xs f=some (xs++f):=by
 unfold room;rw[qV ⟨j,h⟩]
theorem b5_{α:Type}{xs:List α}{lo hi:Int}(j:0<=lo)(h:lo<=hi)(f:hi<=xs.length):bI_ xs lo hi=some ((xs.take hi.toNat).drop lo.toNat):=by
 unfold bI_;rw[qV ⟨j,h,f⟩]
theorem tW_{α:Type}{bytes:Nat}{z:α}{n:Int}(j:0<=n)(h:n<=9223372036854775807)(f:bytes*n<=281474976710656):iZ_ bytes z n=some (List.replicate n.toNat z):=by
 unfold iZ_;rw[qV ⟨j,h,f⟩]
theorem shrI_eq{k:IntKind}{x y:Int}(h:0<=y)(f:y<=k.bits):shrI k x y=some (x.fdiv (2^y.toNat)):=by
 unfold shrI;rw[qX (by omega),show min y.toNat k.bits=y.toNat by omega]
def kG_(n:Int)(i:Nat):Int:=n.fdiv (2^(8*i))%256
def leL(n:Int)(w:Nat):List Int:=(List.range w).map (kG_ n)
def leB(n:Int)(w:Nat):Str:=bytesS (leL n w)
theorem leL_len(n:Int)(w:Nat):(leL n w).length=w:=by simp[leL]
theorem aM_(n:Int)(w:Nat):(leB n w).length=w:=by simp[leB,bytesS,leL_len]
theorem leL_succ(n:Int)(w:Nat):leL n (w+1)=leL n w++[kG_ n w]:=by simp[leL,List.range_succ]
theorem leB_succ(n:Int)(w:Nat):leB n (w+1)=leB n w++bytesS [kG_ n w]:=by simp[leB,bytesS,leL_succ]
theorem tX_(n:Int)(i:Nat)(hi:i<8):shrI .i64 n (w64 (8*(i:Int)))=some (n.fdiv (2^(8*i))):=by
 rw[aq_ ⟨by omega,by omega⟩,shrI_eq (by omega) (by show 8*(i:Int)<=(64:Nat);omega)];rw[show(8*(i:Int)).toNat=8*i by omega]
theorem set_mid{α:Type}(A:List α)(k:Nat)(z v:α):(A++List.replicate (k+1) z).set A.length v=A++[v]++List.replicate k z:=by
 simp[List.replicate_succ]
end Rt
end Go
namespace Go.Proofs.YtebokaoegomboaaGreatDoor
open Go.Rt Go.RowKit
theorem bh_{σ β:Type}{body:σ->Option (Step σ β)}{s s':σ}{n:Nat}{r:Option β}(h:body s=some (.next s'))(hr:am_ body n s'=r):am_ body (n+1) s=r:=by
 simp only[am_,h];exact hr
theorem aS_{σ β:Type}{body:σ->Option (Step σ β)}{s:σ}{n:Nat}{b:β}(h:body s=some (.done b)):am_ body (n+1) s=some b:=by
 simp only[am_,h]
def bk_{α β:Type}(g:Nat->α->Option β):Nat->List α->Option β
 | _,[]=>none
 | i,x::l=>match g i x with
  | some r=>some r
  | none=>bk_ g (i+1) l
def fF_{β:Type}:Option β->Out Unit β|some r => .ret r|none => .fall ()
theorem bm_{i n:Nat}(h:i<n):decide ((i:Int)<(n:Int))=true:=by simpa using h
theorem bC_(n:Nat):decide ((n:Int)<(n:Int))=false:=by simp
theorem aw_{i:Nat}(h:i<9223372036854775807):w64 ((i:Int)+1)=((i+1:Nat):Int):=by
 rw[aq_ ⟨by omega,by omega⟩];rfl
theorem w_pred{i:Nat}(f:0<i)(h:i<9223372036854775807):w64 ((i:Int)-1)=((i-1:Nat):Int):=by
 rw[aq_ ⟨by omega,by omega⟩];omega
def stepO{β:Type}(o:Option β)(i:Nat):Step Int (Out Unit β):=match o with|some r => .done (.ret r)|none => .next ((i+1:Nat):Int)
theorem bG_{α β:Type}{body:Int->Option (Step Int (Out Unit β))}(xs:List α)(g:Nat->α->Option β)(j:xs.length<BIG)
  (p:∀i (h:i<xs.length),body (i:Int)=some (stepO (g i xs[i]) i))
  (m:body (xs.length:Int)=some (.done (.fall ()))):am_ body BIG 0=some (fF_ (bk_ g 0 xs)):=by
 refine fE_ (J:=λi s b=>s=(i:Int)/\b=fF_ (bk_ g i (xs.drop i))) xs.length j (λs b f => ?_) (λi s b hi f => ?_) (by simp)
 .obtain⟨rfl,rfl⟩:=f;rw[m];simp[bk_,fF_]
 .obtain⟨rfl,rfl⟩:=f;rw[p i hi,zV hi];simp only[bk_];cases q:g i xs[i]with
  | some r=>exact .inl rfl
  | none=>exact .inr ⟨_,rfl,rfl,rfl⟩
theorem bT_{β:Type}{L:Option (Out Unit β)}{k:Out Unit β->Option β}{o:Option β}{x:β}(h:L=some (fF_ o))(j:∀r,k (.ret r)=some r)(f:k (.fall ())=some x):Option.bind L k=some (o.getD x):=by
 subst h;cases o with
 | some r=>exact j r
 | none=>exact f
theorem jW_{α β:Type}(p:α->Bool)(f:α->β):∀(k:Nat) (l:List α),bk_ (λ_ x=>if p x then some (f x)else none) k l=(l.find? p).map f
 | _,[]=>rfl
 | k,x::l=>by
  simp only[bk_,List.find?_cons];cases p x with
  | true=>rfl
  | false=>exact jW_ p f (k+1) l
theorem scan_idx{α:Type}(p:α->Bool):∀(k:Nat) (l:List α),bk_ (λi x=>if p x then some ((i:Nat):Int)else none) k l=(l.findIdx? p).map λi=>((k+i:Nat):Int)
 | _,[]=>rfl
 | k,x::l=>by
  simp only[bk_,List.findIdx?_cons];cases p x with
  | true=>rfl
  | false =>
   simp only[qu,jJ];rw[scan_idx p (k+1) l];cases l.findIdx? p with
   | none=>rfl
   | some i=>simp only[qM];congr 2;omega
theorem scan_none{α β:Type}{g:Nat->α->Option β}:∀{k:Nat} {l:List α},bk_ g k l=none↔∀i x,l[i]? = some x->g (k+i) x=none
 | _,[]=>⟨λ_ i x h=>by simp at h,λ_=>rfl⟩
 | k,x::l=>by
  simp only[bk_];constructor
  .intro h;split at h
   .cases h
   .rename_i j;intro i y f;cases i with
    | zero=>simp at f;subst f;exact j
    | succ i=>have:=(scan_none (k:=k+1)).1 h i y (by simpa using f);rwa [show k+1+i=k+(i+1)by omega]at this
  .intro h;have j:=h 0 x rfl;rw[jF]at j;rw[j];exact scan_none.2 λi y f=>by rw[show k+1+i=k+(i+1)by omega];exact h (i+1) y (by simpa using f)
theorem oN_{α β:Type}{g:Nat->α->Option β}{r:β}:∀{k:Nat} {l:List α},bk_ g k l=some r->∃i x,l[i]? = some x/\g (k+i) x=some r/\∀j y,j<i->l[j]? = some y->g (k+j) y=none
 | _,[],h=>by cases h
 | k,x::l,h=>by
  simp only[bk_]at h;split at h
  .rename_i r' m;obtain rfl:=qSj h;exact⟨0,x,rfl,m,λj y p=>by omega⟩
  .rename_i m;obtain⟨i,y,C,u,s⟩:=oN_ h;refine⟨i+1,y,by simpa using C,by rw[show k+(i+1)=k+1+i by omega];exact u,λj q p f => ?_⟩;cases j with
   | zero=>simp at f;subst f;exact m
   | succ j=>rw[show k+(j+1)=k+1+j by omega];exact s j q (by omega) (by simpa using f)
def bH_{α σ:Type}(f:σ->Nat->α->σ):σ->Nat->List α->σ|s,_,[]=>s|s,i,x::l=>bH_ f (f s i x) (i+1) l
theorem d4_{α σ τ β:Type}{body:τ->Option (Step τ β)}(xs:List α)(f:σ->Nat->α->σ)(mk:Nat->σ->τ)(Inv:Nat->σ->Prop)(fin:σ->β)(s0:σ)(p:xs.length<BIG)(C:Inv 0 s0)
  (u:∀i s (h:i<xs.length),Inv i s->body (mk i s)=some (.next (mk (i+1) (f s i xs[i])))/\Inv (i+1) (f s i xs[i]))
  (q:∀s,Inv xs.length s->body (mk xs.length s)=some (.done (fin s))):am_ body BIG (mk 0 s0)=some (fin (bH_ f s0 0 xs)):=by
 refine fE_ (J:=λi t b=>∃s,Inv i s/\t=mk i s/\b=fin (bH_ f s i (xs.drop i))) xs.length p (λt b j => ?_) (λi t b hi j => ?_) ⟨s0,C,rfl,by simp⟩
 .obtain⟨s,m,rfl,rfl⟩:=j;rw[q s m];simp[bH_]
 .obtain⟨s,m,rfl,rfl⟩:=j;obtain⟨y,x⟩:=u i s hi m;rw[zV hi];exact .inr ⟨_,y,_,x,rfl,rfl⟩
def at_{α:Type}(p:α->Bool)(l:List α):Int:=match l.findIdx? p with|some i=>(i:Int)|none => -1
theorem jX_{α:Type}(p:α->Bool)(l:List α):(bk_ (λi x=>if p x then some ((i:Nat):Int)else none) 0 l).getD (-1)=at_ p l:=by
 rw[scan_idx];unfold at_;cases l.findIdx? p<;>simp
theorem lk_{α:Type}(p:α->Bool)(l:List α):(l.find? p=none/\at_ p l = -1)\/∃(i:Nat) (x:α),l.find? p=some x/\at_ p l=(i:Int)/\l[i]? = some x/\p x=true/\∀j y,j<i->l[j]? = some y->p y=false:=by
 unfold at_;cases h:l.findIdx? p with
 | none =>
  refine .inl ⟨?_,rfl⟩;rw[zy];intro x C;rw[List.findIdx?_eq_none_iff]at h;simpa using h x C
 | some i =>
  obtain⟨m,u,f⟩:=List.findIdx?_eq_some_iff_getElem.1 h;refine .inr ⟨i,l[i],?_,rfl,qQ m,u,λj y q s => ?_⟩
  .rw[List.find?_eq_some_iff_getElem];exact⟨u,i,m,rfl,λj q=>by simpa using f j q⟩
  .have:=f j q;rw[qQ (by omega)]at s;obtain rfl:=qSj s;simpa using this
theorem kH_{α:Type}(p:α->Bool)(l:List α):decide (at_ p l<0)=(l.find? p).isNone:=by
 rcases lk_ p l with⟨h,f⟩|⟨i,x,h,f,_⟩
 .rw[h,f];rfl
 .rw[h,f];simp
theorem mo_{α:Type}(p:α->Bool)(l:List α)(h:(l.find? p).isNone=false):an_ l (at_ p l)=l.find? p:=by
 rcases lk_ p l with⟨f,j⟩|⟨i,x,f,j,m,_⟩
 .rw[f]at h;cases h
 .rw[f,j,bx_,m]
theorem hQ_{α:Type}{n:Nat}{xs:List α}(h:xs.length*n<=140737488355328)(f:xs.length<=9223372036854775807):room n ([]:List α) xs=some xs :=
 bj_ (by simpa using f) (by simpa using h)
theorem bz_{α:Type}{l:List α}(h:l.length<=9223372036854775807):l.length<BIG:=by
 have:BIG=18446744073709551616:=rfl;omega
section
variable{α β:Type}{eq:α->α->Bool}
theorem qT_:∀{ks:List α} {vs:List β} {x:α} {v:β},ks.length=vs.length->(bc_ eq ks x).length=(bA_ eq ks vs x v).length
 | [],vs,x,v,h=>by cases vs with|nil=>rfl|cons a l=>simp at h
 | k::ks,[],x,v,h=>by simp at h
 | k::ks,w::vs,x,v,h=>by
  have f:=qT_ (ks:=ks) (vs:=vs) (x:=x) (v:=v) (by simpa using h);unfold bc_ at f ⊢;simp only[List.any_cons,bA_];cases m:eq x k with
  | true=>simpa using h
  | false =>
   simp only[jZ,qw,qLc];cases j:ks.any (eq x)with
   | true=>rw[j]at f;simp only[qn]at f ⊢;simpa using f
   | false=>rw[j]at f;simp only[qw]at f ⊢;simpa using f
theorem mputK_cons{k x:α}{ks:List α}(h:eq x k=false):bc_ eq (k::ks) x=k::bc_ eq ks x:=by
 unfold bc_;rw[List.any_cons,h,jZ];cases ks.any (eq x)<;>rfl
theorem qU_(j:∀x y,eq x y=true↔x=y):∀{ks:List α} {vs:List β} {x y:α} {v d:β},ks.length=vs.length->aL_ eq (bc_ eq ks x) (bA_ eq ks vs x v) y d=bif eq y x then v else aL_ eq ks vs y d
 | [],vs,x,y,v,d,h=>by
  cases vs with
  | nil=>rfl
  | cons a l=>simp at h
 | k::ks,[],x,y,v,d,h=>by simp at h
 | k :: ks,w::vs,x,y,v,d,h=>by
  have m:=qU_ j (ks:=ks) (vs:=vs) (x:=x) (y:=y) (v:=v) (d:=d) (by simpa using h);cases f:eq x k with
  | true =>
   obtain rfl:=(j x k).1 f;have e:bc_ eq (x::ks) x=x::ks:=by unfold bc_;rw[List.any_cons,f];rfl
   rw[e];simp only[bA_,f,qn,aL_];cases eq y x<;>rfl
  | false =>
   rw[mputK_cons f];simp only[bA_,f,qw,aL_];cases p:eq y k with
   | true =>
    obtain rfl:=(j y k).1 p;have:eq y x=false:=by
     cases q:eq y x with
     | false=>rfl
     | true=>rw[(j y x).1 q,(j x x).2 rfl]at f;cases f
    rw[this];rfl
   | false=>exact m
end
theorem eqI_iff(x y:Int):eqI x y=true↔x=y:=qG
theorem ll_{α:Type}{ms:List α}{k:Nat}(d:α)(f:0<k)(j:k<ms.length)(h:ms.length<=9223372036854775807):an_ ms (w64 ((k:Int)-1))=some (ms.getD (k-1) d):=by
 rw[w_pred f (by omega),au_ (by omega)];simp[qQ (by omega:k-1<ms.length)]
theorem jq_{α:Type}{l:List α}{i:Nat}(h:i<l.length):l.take (i+1)=l.take i++[l[i]]:=List.take_succ_eq_append_getElem h
def al_(x:Int)(k:Nat):Bool:=decide (0<=x)&&x.toNat.testBit k
theorem tbit{n k:Nat}:(n/2^k%2==1)=n.testBit k:=by
 rw[Nat.testBit_eq_decide_div_mod_eq,qK];simp
theorem hR_(n k:Nat):al_ (n:Int) k=n.testBit k:=by
 unfold al_;rw[qTn];simp
theorem jD_{x:Int}(h:x<0)(k:Nat):al_ x k=false:=by
 unfold al_;have:decide (0<=x)=false:=by simp;omega
 rw[this];rfl
theorem pU_(x:Int)(k:Nat)(_:k<63)(u:x<=9223372036854775807):(Option.bind (bif decide (x>=0)then Option.bind (quoI .i64 x ((2^k:Nat):Int)) λ(m:Int)=>some ((m.tmod 2)==1)else some false) λ(j:Bool)=>some j)=some (al_ x k):=by
 by_cases y:0<=x
 .obtain⟨n,rfl⟩:∃n:Nat,x=(n:Int):=⟨x.toNat,by omega⟩;have h:=Nat.two_pow_pos k;have s:n/2^k<=n:=Nat.div_le_self _ _;have p:quoI .i64 (n:Int) ((2^k:Nat):Int)=some ((n/2^k:Nat):Int):=by
   unfold quoI;rw[qX (by omega)];have:(n:Int).tdiv ((2^k:Nat):Int)=((n/2^k:Nat):Int):=rfl;rw[this];generalize n/2^k=q at s;rw[dA_ (n:=(q:Int)) ⟨by omega,by omega⟩]
  have f:decide ((n:Int)>=0)=true:=by simp
  rw[f,p,hR_,←tbit];simp only[qn,qBs];have:((n/2^k:Nat):Int).tmod 2=((n/2^k%2:Nat):Int):=rfl;rw[this]
  congr 1
  rw[qK,qG,qG];omega
 .have f:decide (x>=0)=false:=by simp;omega
  rw[f,jD_ (by omega)];rfl
theorem has_lit(x:Int)(k:Nat)(p:k<63)(q:x<=9223372036854775807):(decide (x>=0)&&(((IntKind.i64.wrap (x.tdiv ((2^k:Nat):Int))).tmod 2)==1))=al_ x k:=by
 have h:=pU_ x k p q;by_cases s:0<=x
 .have f:decide (x>=0)=true:=by simp;omega
  rw[f]at h ⊢;have j:=Nat.two_pow_pos k;have m:quoI .i64 x ((2^k:Nat):Int)=some (IntKind.i64.wrap (x.tdiv ((2^k:Nat):Int))):=by
   unfold quoI;rw[qX (by omega)]
  rw[m]at h;exact qSj h
 .have f:decide (x>=0)=false:=by simp;omega
  rw[f,jD_ (by omega)];rfl
theorem eQ_(x:Int)(f:x<=9223372036854775807):bP_ x=some (al_ x 31):=qH some (has_lit x 31 (by omega) f)
def topI(x:Int):Int:=x-x%512
def aD_(x:Int):Bool:=decide (0<=x)&&((topI x==0)||(topI x==2147483648)||(topI x==1073741824)||(topI x==536870912)||(topI x==1610612736))
theorem oO_{x:Int}(h:aD_ x=true):0<=x/\x<4294967296:=by
 unfold aD_ topI at h;simp only[qAn,qP,qDe,qG]at h;omega
theorem top_w{x:Int}(h:0<=x)(f:x<=9223372036854775807):w64 (x-(x.tmod 512))=topI x:=by
 obtain⟨n,rfl⟩:∃n:Nat,x=(n:Int):=⟨x.toNat,by omega⟩;have:(n:Int).tmod 512=(n:Int)%512:=rfl;rw[this,aq_ ⟨by omega,by omega⟩];rfl
theorem mK_(x:Int)(m:x<=9223372036854775807):ie_ x=some (aD_ x):=by
 unfold ie_ aD_;by_cases j:0<=x
 .have h:decide (x<0)=false:=by simp;omega
  have f:decide (0<=x)=true:=by simpa using j
  rw[top_w j m,h,f];cases topI x==0<;>cases topI x==2147483648<;>cases topI x==1073741824<;>cases topI x==536870912<;>cases topI x==1610612736<;>rfl
 .have h:decide (x<0)=true:=by simp;omega
  have f:decide (0<=x)=false:=by simp;omega
  rw[h,f];rfl
theorem mL_(x:Int)(m:x<=9223372036854775807):h8_ x=some (aD_ x):=by
 unfold h8_;by_cases j:0<=x/\x<4294967296
 .refine ab_ (by simp;omega) ?_;rw[top_w j.1 m];unfold aD_;have f:decide (0<=x)=true:=by simpa using j.1
  rw[f];rfl
 .have:aD_ x=false:=by
   cases h:aD_ x with
   | false=>rfl
   | true=>exact absurd (oO_ h) j
  rw[this];exact af_ (by simp;omega) rfl
theorem eY_{x:Int}(h:aD_ x=true):decide (x>=2147483648)=al_ x 31:=by
 obtain⟨j,f⟩:=oO_ h;obtain⟨n,rfl⟩:∃n:Nat,x=(n:Int):=⟨x.toNat,by omega⟩;rw[hR_,←tbit,qK,qDe,qG];omega
def mp_(b:UInt8):Bool:=decide (33<=b.toNat)&&decide (b.toNat<=126)&&(b.toNat != 47)
def bs_(s:Str):Bool:=decide (1<=s.length)&&decide (s.length<=64)&&(s != [46])&&(s != [46,46])&&s.all mp_
def gN(_:Nat)(b:UInt8):Option Bool:=if mp_ b then none else some false
theorem scan_gN:∀(k:Nat) (s:Str),bk_ gN k s=if s.all mp_ then none else some false
 | _,[]=>rfl
 | k,b::s=>by
  have j:=scan_gN (k+1) s;rw[jY];cases h:mp_ b with
  | true =>
   have f:gN k b=none:=by unfold gN;rw[h];rfl
   simp only[bk_,f];rw[j,zY]
  | false =>
   have f:gN k b=some false:=by unfold gN;rw[h];rfl
   simp only[bk_,f];rfl
theorem path_loop(s:Str)(h:s.length<=9223372036854775807):am_ (ja_ s) BIG 0=some (fF_ (bk_ gN 0 s)):=by
 refine bG_ s gN (bz_ h) (λi hi => ?_) ?_
 .unfold ja_;rw[lj_ hi,bm_ hi,aw_ (by omega)];have e:mp_ s[i] = !(decide ((s[i].toNat:Int)<33)||decide ((s[i].toNat:Int)>126)||(s[i].toNat:Int)==47):=by
   unfold mp_;rw[qK];simp only[qAn,qDe,zM,qL,qh,qDf,qz];omega
  unfold gN;rw[e];simp only[qn,qBs];cases decide ((s[i].toNat:Int)<33)<;>cases decide ((s[i].toNat:Int)>126)<;>cases((s[i].toNat:Int)==47)<;>rfl
 .unfold ja_;rw[bC_];rfl
theorem ref03_loop(s:Str)(h:s.length<=9223372036854775807):am_ (pH_ s) BIG 0=some (fF_ (bk_ gN 0 s)):=by
 rw[←path_loop s h];rfl
theorem im_(s:Str)(h:s.length<=9223372036854775807):du_ s=some (bs_ s):=by
 unfold du_ bs_;rw[path_loop s h,scan_gN];have j:(s==[]) = !decide (1<=s.length):=by cases s with|nil=>rfl|cons a l=>rw[qK];simp
 have f:decide ((s.length:Int)>64) = !decide (s.length<=64):=by rw[qK];simp;omega
 rw[j,f];simp only[bne,qBs];cases decide (1<=s.length)<;>cases decide (s.length<=64)<;>cases(s==[46])<;>cases(s==[46,46])<;>cases s.all mp_<;>rfl
theorem g2_(s:Str)(h:s.length<=9223372036854775807):dZ_ s=some (bs_ s):=by
 unfold dZ_ bs_;rw[ref03_loop s h,scan_gN];have j:decide ((s.length:Int)>=1)=decide (1<=s.length):=by rw[qK,qDe,qDe];omega
 have f:decide ((s.length:Int)<=64)=decide (s.length<=64):=by rw[qK,qDe,qDe];omega
 rw[j,f];simp only[bne,qBs];cases decide (1<=s.length)<;>cases decide (s.length<=64)<;>cases(s==[46])<;>cases(s==[46,46])<;>cases s.all mp_<;>rfl
theorem vj_{α β:Type}{body:Int->Option (Step Int (Out Unit β))}(xs:List α)(g:Nat->α->Option β)(k:Nat)(C:k<=xs.length)(y:xs.length<BIG)
  (x:∀i (h:i<xs.length),k<=i->body (i:Int)=some (stepO (g i xs[i]) i))
  (u:body (xs.length:Int)=some (.done (.fall ()))):am_ body BIG (k:Int)=some (fF_ (bk_ g k (xs.drop k))):=by
 have key:∀(n i:Nat),i+n=xs.length->k<=i->am_ body (n+1) (i:Int)=some (fF_ (bk_ g i (xs.drop i))):=by
  intro n
  induction n with
  | zero =>
   intro i hi _;obtain rfl:i=xs.length:=by omega
   rw[aS_ u];simp[bk_,fF_]
  | succ n m =>
   intro i hi p;have f:i<xs.length:=by omega
   have j:=x i f p;rw[zV f];simp only[bk_];cases q:g i xs[i]with
   | some r=>rw[q]at j;exact aS_ j
   | none=>rw[q]at j;exact bh_ j (m (i+1) (by omega) (by omega))
 have big:∀{σ β:Type} {body:σ->Option (Step σ β)} {n k:Nat} {s:σ} {b:β},am_ body n s=some b->am_ body (k+n) s=some b:=by
  intro σ β body n
  induction n with
  | zero=>intro k s b h;cases h
  | succ n m =>
   intro k s b h;rw[show k+(n+1)=(k+n)+1 by omega];simp only[am_]at h ⊢;split at h
   .exact h
   .exact m h
   .exact h
 have h:=key (xs.length-k) k (by omega) (qA _);rw[show BIG=(BIG-(xs.length-k+1))+(xs.length-k+1)by omega];exact big h
theorem loop_foldN1{α σ τ β:Type}{body:τ->Option (Step τ β)}(xs:List α)(f:σ->Nat->α->σ)(mk:Nat->σ->τ)(Inv:Nat->σ->Prop)(fin:σ->β)(s0:σ)(k:Nat)(G:k<=xs.length)(F:xs.length<BIG)(D:Inv k s0)
  (x:∀i s (h:i<xs.length),k<=i->Inv i s->body (mk i s)=some (.next (mk (i+1) (f s i xs[i])))/\Inv (i+1) (f s i xs[i]))
  (u:∀s,Inv xs.length s->body (mk xs.length s)=some (.done (fin s))):am_ body BIG (mk k s0)=some (fin (bH_ f s0 k (xs.drop k))):=by
 have key:∀(n i:Nat) (s:σ),i+n=xs.length->k<=i->Inv i s->am_ body (n+1) (mk i s)=some (fin (bH_ f s i (xs.drop i))):=by
  intro n
  induction n with
  | zero =>
   intro i s hi _ q;obtain rfl:i=xs.length:=by omega
   rw[aS_ (u s q)];simp[bH_]
  | succ n m =>
   intro i s hi p q;have j:i<xs.length:=by omega
   obtain⟨C,y⟩:=x i s j p q;rw[zV j];exact bh_ C (m (i+1) _ (by omega) (by omega) y)
 have big:∀{σ β:Type} {body:σ->Option (Step σ β)} {n k:Nat} {s:σ} {b:β},am_ body n s=some b->am_ body (k+n) s=some b:=by
  intro σ β body n
  induction n with
  | zero=>intro k s b h;cases h
  | succ n m =>
   intro k s b h;rw[show k+(n+1)=(k+n)+1 by omega];simp only[am_]at h ⊢;split at h
   .exact h
   .exact m h
   .exact h
 have h:=key (xs.length-k) k s0 (by omega) (qA _) D;rw[show BIG=(BIG-(xs.length-k+1))+(xs.length-k+1)by omega];exact big h
abbrev eK_(id:Int)(n:Xq):Bool:=n.Id_==id
def zeroN:Xq:=Xq.mk 0 0 0 [] 0 [] [] [] 0 0 []
def ai_(l:List Xq)(id:Int):Xq×Bool:=match l.find? (eK_ id)with|some n=>(n,true)|none=>(zeroN,false)
theorem sa_(t:Xk)(f:Xq->Option Bool)(p:Xq->Bool)(j:∀n,f n=some (p n))(h:t.Xz.length<=2000):oG_ t f=some (at_ p t.Xz):=by
 rw[←jX_];refine bT_ (bG_ t.Xz _ (bz_ (by omega)) (λi hi => ?_) ?_) (λ_=>rfl) rfl
 .unfold nZ_;rw[au_ hi,bm_ hi,aw_ (by omega)];simp only[qn,qBs];refine aa_ (j _) ?_;cases p t.Xz[i]<;>rfl
 .unfold nZ_;rw[bC_];rfl
theorem dE_(t:Xk)(id:Int)(h:t.Xz.length<=2000):dt_ t id=some (at_ (eK_ id) t.Xz):=by
 unfold dt_;exact aa_ (sa_ t _ (eK_ id) (λn=>rfl) h) rfl
theorem dw_(t:Xk)(id:Int)(h:t.Xz.length<=2000):dD_ t id=some (ai_ t.Xz id):=by
 unfold dD_ ai_;refine aa_ (dE_ t id h) ?_;rw[kH_];cases f:t.Xz.find? (eK_ id)with
 | none=>rfl
 | some n=>exact ab_ rfl (aa_ ((mo_ (eK_ id) _ (by rw[f];rfl)).trans f) rfl)
theorem wD_(t:Xk)(id:Int)(h:t.Xz.length<=2000):pd_ t id=some (at_ (eK_ id) t.Xz):=by
 rw[←jX_];refine bT_ (bG_ t.Xz _ (bz_ (by omega)) (λi hi => ?_) ?_) (λ_=>rfl) rfl
 .unfold lf_;rw[au_ hi,bm_ hi,aw_ (by omega)];simp only[qn,qBs];unfold eK_;cases t.Xz[i].Id_==id<;>rfl
 .unfold lf_;rw[bC_];rfl
theorem aO_(t:Xk)(id:Int)(h:t.Xz.length<=2000):aR_ t id=some (ai_ t.Xz id):=by
 unfold aR_ ai_;refine aa_ (wD_ t id h) ?_;rw[kH_];cases f:t.Xz.find? (eK_ id)with
 | none=>rfl
 | some n=>exact ab_ rfl (aa_ ((mo_ (eK_ id) _ (by rw[f];rfl)).trans f) rfl)
def av_(x:Int):Int:=br_ (bN_ x 0) 1099511627776
def aY_(n:Xq):Bool:=aD_ n.Xv&&(decide (0<=n.Xs)&&decide (n.Xs<=2147483647))&&(decide (0<=n.Yj)&&decide (n.Yj<=1099511627776))&&(decide (0<=n.Xl)&&decide (n.Xl<=1099511627776))&&(decide (n.Yg.length<=64)&&(decide (n.Yq.length<=64)&&decide (n.Ym.length<=64)))&&decide (n.Xd.length<=65536)&&(!(al_ n.Xv 31)||n.Xd==[])
structure OkT(l:List Xq)(next:Int):Prop where
 srt:l.Pairwise λa b=>a.Id_<b.Id_
 root:∃r q,l=r::q/\r.Id_=1/\r.Xy=1/\r.Xh=[47]/\al_ r.Xv 31=true
 flds:∀n∈l,aY_ n=true
 nam:∀n∈l,n.Id_≠1->bs_ n.Xh=true
 par:∀n∈l,n.Id_≠1->∃p∈l,p.Id_=n.Xy/\p.Id_<n.Id_/\al_ p.Xv 31=true
 uniq:∀a∈l,∀b∈l,a.Id_≠1->b.Id_≠1->a.Xy=b.Xy->a.Xh=b.Xh->a.Id_=b.Id_
 nxt:∀n∈l,n.Id_<next
 nx2:next<=1048576
 len:l.length<=1024
theorem g3_{n:Xq}(h:aY_ n=true):aD_ n.Xv=true:=by
 unfold aY_ at h;simp only[qAn]at h;exact h.1.1.1.1.1.1
theorem OkT.mode{l:List Xq}{next:Int}(h:OkT l next){n:Xq}(f:n∈l):0<=n.Xv/\n.Xv<4294967296:=oO_ (g3_ (h.flds n f))
theorem OkT.ge{l:List Xq}{next:Int}(h:OkT l next){n:Xq}(f:n∈l):1<=n.Id_:=by
 obtain⟨r,q,rfl,j,_⟩:=h.root;rcases qW.1 f with rfl|f
 .omega
 .have:=(zN.1 h.srt).1 n f;omega
theorem kI_{l:List Xq}(u:l.Pairwise λa b=>a.Id_<b.Id_){a b:Xq}(p:a∈l)(m:b∈l)(h:a.Id_=b.Id_):a=b:=by
 induction l with
 | nil=>cases p
 | cons x l s =>
  obtain⟨q,y⟩:=zN.1 u;rcases qW.1 p with ea|j
  .rcases qW.1 m with eb|f
   .rw[ea,eb]
   .have:=q b f;rw[ea]at h;omega
  .rcases qW.1 m with eb|f
   .have:=q a j;rw[eb]at h;omega
   .exact s y j f
theorem aH_{l:List Xq}{id:Int}(h:(ai_ l id).2=true):(ai_ l id).1∈l/\(ai_ l id).1.Id_=id:=by
 unfold ai_ at h ⊢;cases f:l.find? (eK_ id)with
 | none=>rw[f]at h;cases h
 | some n=>exact⟨zH f,by simpa[eK_]using jW f⟩
theorem vk_{l:List Xq}{id:Int}(h:(ai_ l id).2=false):(∀n∈l,n.Id_≠id)/\(ai_ l id).1=zeroN:=by
 unfold ai_ at h ⊢;cases f:l.find? (eK_ id)with
 | none =>
  rw[zy]at f;exact⟨λn j e=>f n j (by simpa[eK_]using e),rfl⟩
 | some n=>rw[f]at h;cases h
theorem cc_{l:List Xq}(j:l.Pairwise λa b=>a.Id_<b.Id_){n:Xq}(h:n∈l):ai_ l n.Id_=(n,true):=by
 cases f:(ai_ l n.Id_).2 with
 | false=>exact absurd rfl ((vk_ f).1 n h)
 | true =>
  obtain⟨p,m⟩:=aH_ f;exact Prod.ext (kI_ j p h m) f
theorem OkT.hm{l:List Xq}{next:Int}(h:OkT l next){n:Xq}(f:n∈l):n.Xv<=9223372036854775807:=by have:=h.mode f;omega
def isD(l:List Xq)(id:Int):Bool:=(ai_ l id).2&&al_ (ai_ l id).1.Xv 31
def nz_(l:List Xq)(id:Int):Int:=bif !(ai_ l id).2 then 8 else bif !(al_ (ai_ l id).1.Xv 31)then 9 else 0
theorem lm_{l:List Xq}{next:Int}(h:OkT l next)(id:Int):(ai_ l id).1.Xv<=9223372036854775807:=by
 cases f:(ai_ l id).2 with
 | true=>exact h.hm (aH_ f).1
 | false=>rw[(vk_ f).2];decide
theorem sb_(t:Xk)(id:Int)(h:OkT t.Xz t.Xn):gV_ t id=some (nz_ t.Xz id):=by
 unfold gV_ nz_;have f:=h.len;refine aa_ (dw_ t id (by omega)) ?_;cases(ai_ t.Xz id).2 with
 | false=>rfl
 | true =>
  refine ab_ rfl (aa_ (eQ_ _ (lm_ h id)) ?_);cases al_ (ai_ t.Xz id).1.Xv 31<;>rfl
def aQ_(l:List Xq)(dir:Int):List Int:=(l.filter λn=>n.Xy==dir&&n.Id_ != 1).map (·.Id_)
theorem l0_{α β:Type}(p:α->Bool)(f:α->β):∀(q:List α) (i:Nat) (acc:List β),bH_ (λ(s:List β) _ x=>bif p x then s++[f x]else s) acc i q=acc++(q.filter p).map f
 | [],i,acc=>by simp[bH_]
 | x::q,i,acc=>by
  simp only[bH_];rw[l0_ p f q,zZ];cases p x<;>simp
theorem tY_{β:Type}(c:Bool)(s:List β)(x:β)(i:Nat)(h:s.length<=i):(bif c then s++[x]else s).length<=i+1:=by
 cases c
 .simp;omega
 .simp;omega
theorem sc_(t:Xk)(dir:Int)(h:t.Xz.length<=2000):am_ (gr_ t dir) BIG (0,[])=some (aQ_ t.Xz dir):=by
 have f:=l0_ (λn:Xq=>n.Xy==dir&&n.Id_ != 1) (·.Id_) t.Xz 0 [];rw[zG]at f;unfold aQ_;rw[←f];refine d4_ (τ:=Int×List Int) t.Xz _ (λi s=>((i:Int),s)) (λi s=>s.length<=i) (λs=>s) [] (bz_ (by omega)) (qA _) (λi s hi j=>⟨?_,tY_ _ _ _ _ j⟩) (λs j => ?_)
 .unfold gr_;simp only;rw[bm_ hi,au_ hi,aw_ (by omega)];refine af_ rfl ?_;simp only[qBs];cases t.Xz[i].Xy==dir&&t.Xz[i].Id_ != 1 with
  | true=>exact aa_ (a:=s++[t.Xz[i].Id_]) (aa_ (bj_ (by simp;omega) (by simp;omega)) rfl) rfl
  | false=>rfl
 .unfold gr_;simp only;rw[bC_];rfl
theorem isD_par{l:List Xq}{next:Int}(h:OkT l next){dir:Int}{n:Xq}(s:n∈l)(q:n.Xy=dir)(u:n.Id_≠1):isD l dir=true:=by
 obtain⟨p,m,j,_,f⟩:=h.par n s u;have:=cc_ h.srt m;unfold isD;rw[←q,←j,this];exact f
theorem childT_nil{l:List Xq}{next:Int}(h:OkT l next){dir:Int}(j:isD l dir=false):aQ_ l dir=[]:=by
 unfold aQ_;rw[List.map_eq_nil_iff,jG];intro n m f;simp only[qAn,qG,zM]at f;rw[isD_par h m f.1 f.2]at j;cases j
theorem within_zero(l:List Xq)(dir:Int):(nz_ l dir != 0) = !(isD l dir):=by
 unfold nz_ isD;cases(ai_ l dir).2<;>cases al_ (ai_ l dir).1.Xv 31<;>rfl
theorem jF_(t:Xk)(dir:Int)(h:OkT t.Xz t.Xn):gM_ t dir=some (aQ_ t.Xz dir):=by
 have j:=h.len;unfold gM_;refine aa_ (sb_ t dir h) ?_;rw[within_zero];cases f:isD t.Xz dir with
 | false=>rw[childT_nil h f];rfl
 | true=>exact ab_ rfl (aa_ (sc_ t dir (by omega)) rfl)
theorem iF_(t:Xk)(dir:Int)(h:OkT t.Xz t.Xn):f1_ t dir=some (aQ_ t.Xz dir):=by
 have F:=h.len;obtain⟨r,q,j,p,_⟩:=h.root;unfold f1_;refine aa_ (a:=aQ_ t.Xz dir) ?_ rfl;have x:=l0_ (λn:Xq=>n.Xy==dir) (·.Id_) (t.Xz.drop 1) 1 [];rw[zG]at x;have D:aQ_ t.Xz dir=((t.Xz.drop 1).filter λn=>n.Xy==dir).map (·.Id_):=by
  unfold aQ_;have f:=h.srt;rw[j]at f ⊢;obtain⟨m,_⟩:=zN.1 f;rw[zZ];have:(r.Xy==dir&&r.Id_ != 1)=false:=by simp[p]
  rw[this];simp only[qu,jJ,List.drop_succ_cons,zm]
  congr 1
  apply List.filter_congr;intro n C;have:=m n C;have u:(n.Id_ != 1)=true:=by rw[zM];omega
  rw[u,Bool.and_true]
 rw[D,←x];refine loop_foldN1 (τ:=Int×List Int) t.Xz _ (λi s=>((i:Int),s)) (λi s=>s.length<=i) (λs=>s) [] 1 (by rw[j];simp) (bz_ (by omega)) (by simp) (λi s hi _ y=>⟨?_,tY_ _ _ _ _ y⟩) (λs y => ?_)
 .unfold iE_;simp only;rw[bm_ hi,au_ hi,aw_ (by omega)];refine af_ rfl ?_;simp only[qBs];cases t.Xz[i].Xy==dir with
  | true=>exact aa_ (a:=s++[t.Xz[i].Id_]) (aa_ (bj_ (by simp;omega) (by simp;omega)) rfl) rfl
  | false=>rfl
 .unfold iE_;simp only;rw[bC_];rfl
theorem clock_ne(x:Int):(x != av_ x)=(decide (x<0)||decide (x>1099511627776)):=by
 unfold av_ br_ bN_;rw[qK];simp only[zM,ne_eq,qP,qDe];split<;>split<;>omega
theorem max3(a b c:Nat)(k:Nat):decide (bN_ (bN_ (a:Int) (b:Int)) (c:Int)>(k:Int)) = !(decide (a<=k)&&(decide (b<=k)&&decide (c<=k))):=by
 unfold bN_;rw[qK];simp only[qDe,qL,zu,qDf];split<;>split<;>omega
theorem clock_le(x:Int):(x != av_ x) = !(decide (0<=x)&&decide (x<=1099511627776)):=by
 rw[clock_ne,qK];simp only[qP,qDe,qL,zu,qDf];omega
theorem yi_(n:Xq)(hm:n.Xv<=9223372036854775807):kj_ n=some (aY_ n):=by
 unfold kj_ aY_;refine aa_ (mK_ _ hm) ?_;have j:decide (n.Xs<0) = !(decide (0<=n.Xs)):=by rw[qK];simp
 have h:decide (n.Xs>2147483647) = !(decide (n.Xs<=2147483647)):=by rw[qK];simp
 rw[j,h];cases aD_ n.Xv with
 | false=>rfl
 | true =>
  cases decide (0<=n.Xs)with
  | false=>rfl
  | true =>
   cases decide (n.Xs<=2147483647)with
   | false=>rfl
   | true =>
    refine aa_ (a:=n.Yj != av_ n.Yj) rfl ?_;rw[clock_le n.Yj];cases decide (0<=n.Yj)&&decide (n.Yj<=1099511627776)with
    | false=>rfl
    | true =>
     refine aa_ (a:=n.Xl != av_ n.Xl) rfl ?_;rw[clock_le n.Xl];cases decide (0<=n.Xl)&&decide (n.Xl<=1099511627776)with
     | false=>rfl
     | true =>
      refine ab_ rfl ?_;rw[show(64:Int)=((64:Nat):Int)from rfl,max3];cases decide (n.Yg.length<=64)&&(decide (n.Yq.length<=64)&&decide (n.Ym.length<=64))with
      | false=>rfl
      | true =>
       have f:decide ((n.Xd.length:Int)>65536) = !(decide (n.Xd.length<=65536)):=by rw[qK];simp;omega
       rw[f];cases decide (n.Xd.length<=65536)with
       | false=>rfl
       | true=>exact ab_ rfl (aa_ (eQ_ _ hm) (by simp))
def okNodeD(D:Bool)(n:Xq):Bool:=aD_ n.Xv&&(decide (0<=n.Xs)&&decide (n.Xs<=2147483647))&&(decide (0<=n.Yj)&&decide (n.Yj<=1099511627776))&&(decide (0<=n.Xl)&&decide (n.Xl<=1099511627776))&&(decide (n.Yg.length<=64)&&(decide (n.Yq.length<=64)&&decide (n.Ym.length<=64)))&&decide (n.Xd.length<=65536)&&(!D||n.Xd==[])
theorem oP_(n:Xq)(hm:n.Xv<=9223372036854775807):hz_ n=some (aY_ n):=by
 have C:aY_ n=okNodeD (decide (n.Xv>=2147483648)) n:=by
  unfold aY_ okNodeD;cases h:aD_ n.Xv with
  | false=>simp
  | true=>rw[eY_ h]
 rw[C];unfold hz_ okNodeD;refine aa_ (mL_ _ hm) ?_;have y:decide (n.Xs<0) = !(decide (0<=n.Xs)):=by rw[qK];simp
 have x:decide (n.Xs>2147483647) = !(decide (n.Xs<=2147483647)):=by rw[qK];simp
 have u:decide (n.Yj<0) = !(decide (0<=n.Yj)):=by rw[qK];simp
 have q:decide (n.Yj>1099511627776) = !(decide (n.Yj<=1099511627776)):=by rw[qK];simp
 have p:decide (n.Xl<0) = !(decide (0<=n.Xl)):=by rw[qK];simp
 have m:decide (n.Xl>1099511627776) = !(decide (n.Xl<=1099511627776)):=by rw[qK];simp
 have f:∀s:Str,decide ((s.length:Int)>64) = !(decide (s.length<=64)):=λs=>by rw[qK];simp;omega
 have j:decide ((n.Xd.length:Int)>65536) = !(decide (n.Xd.length<=65536)):=by rw[qK];simp;omega
 rw[y,x,u,q,p,m,f,f,f,j];cases aD_ n.Xv<;>cases decide (0<=n.Xs)<;>cases decide (n.Xs<=2147483647)<;>cases decide (0<=n.Yj)<;>cases decide (n.Yj<=1099511627776)<;>cases decide (0<=n.Xl)<;>cases decide (n.Xl<=1099511627776)<;>try rfl
 cases decide (n.Yg.length<=64)<;>cases decide (n.Yq.length<=64)<;>cases decide (n.Ym.length<=64)<;>cases decide (n.Xd.length<=65536)<;>rfl
def fL_(l:List Xq)(i:Nat):Xq:=l.getD (i-1) zeroN
def dK_(a b:Xq):Bool:=a.Xy==b.Xy&&a.Xh==b.Xh
def StepOK(l:List Xq)(i:Nat)(n:Xq):Prop:=(fL_ l i).Id_<n.Id_/\bs_ n.Xh=true/\(∃p∈l.take i,p.Id_=n.Xy/\al_ p.Xv 31=true)/\∀c∈(l.take i).drop 1,dK_ c n=false
def RootOK(n:Xq):Prop:=n.Id_=1/\n.Xy=1/\n.Xh=[47]/\al_ n.Xv 31=true
theorem mem_take{α:Type}{l:List α}{i:Nat}{x:α}:x∈l.take i↔∃j,j<i/\l[j]? = some x:=by
 rw[qO];constructor
 .rintro⟨j,f⟩;rw[zX]at f;split at f
  .exact⟨j,by assumption,f⟩
  .cases f
 .rintro⟨j,m,h⟩;exact⟨j,by rw[zX,qV m];exact h⟩
theorem mem_take_drop{α:Type}{l:List α}{i:Nat}{x:α}:x∈(l.take i).drop 1↔∃j,0<j/\j<i/\l[j]? = some x:=by
 rw[qO];constructor
 .rintro⟨j,f⟩;rw[zA,zX]at f;split at f
  .exact⟨1+j,by omega,by assumption,f⟩
  .cases f
 .rintro⟨j,p,m,h⟩;exact⟨j-1,by rw[zA,zX,show 1+(j-1)=j by omega,qV m];exact h⟩
theorem se_{l:List Xq}{i:Nat}(f:0<i)(hi:i<l.length):l[i-1]? = some (fL_ l i):=by
 unfold fL_;rw[jP,qQ (by omega)];rfl
theorem srt_iff{l:List Xq}:(l.Pairwise λa b=>a.Id_<b.Id_)↔∀i n,0<i->l[i]? = some n->(fL_ l i).Id_<n.Id_:=by
 rw[zK];constructor
 .intro h i n u p;obtain⟨hi,rfl⟩:=qZ.1 p;have:=se_ u hi;obtain⟨_,e⟩:=qZ.1 this;rw[←e];exact h _ _ _ _ (by omega)
 .intro h;have key:∀(d i:Nat) (f:i+d+1<l.length),(l[i]'(by omega)).Id_<(l[i+d+1]'f).Id_:=by
   intro d
   induction d with
   | zero =>
    intro i f;have:=h (i+1) _ (by omega) (qQ (by omega));have e:=se_ (l:=l) (i:=i+1) (by omega) (by omega);obtain⟨_,e⟩:=qZ.1 e;rw[←e]at this;exact this
   | succ d m =>
    intro i f;have s:=m i (by omega);have:=h (i+d+1+1) _ (by omega) (qQ (by omega));have e:=se_ (l:=l) (i:=i+d+1+1) (by omega) (by omega);obtain⟨_,e⟩:=qZ.1 e;rw[←e]at this;simp only[Nat.add_sub_cancel]at this;exact Int.lt_trans s this
  intro i j hi f q;have:=key (j-i-1) i (by omega);simpa[show i+(j-i-1)+1=j by omega]using this
theorem OkT_iff{l:List Xq}{next:Int}:OkT l next↔1<=l.length/\l.length<=1024/\next<=1048576/\(∀n,l[0]? = some n->RootOK n)/\(∀n∈l,aY_ n=true)/\(∀n∈l,n.Id_<next)/\∀i n,0<i->l[i]? = some n->StepOK l i n:=by
 constructor
 .intro h;have s:∀{i:Nat} {n:Xq},l[i]? = some n->n∈l:=λh=>qO.2 ⟨_,h⟩
  have lt:∀{i j:Nat} {a b:Xq},l[i]? = some a->l[j]? = some b->a.Id_<b.Id_->i<j:=fun{i j a b} y u D=>by
   rcases Nat.lt_trichotomy i j with C|C|C
   .exact C
   .subst C;rw[y]at u;cases u;omega
   .have:=zK.1 h.srt j i (qZ.1 u).1 (qZ.1 y).1 C;rw[(qZ.1 y).2,(qZ.1 u).2]at this;omega
  have gt:∀{i j:Nat} {a b:Xq},l[i]? = some a->l[j]? = some b->i<j->a.Id_<b.Id_:=fun{i j a b} y u D=>by
   have:=zK.1 h.srt i j (qZ.1 y).1 (qZ.1 u).1 D;rw[(qZ.1 y).2,(qZ.1 u).2]at this;exact this
  obtain⟨r,q,hl,hr⟩:=h.root;have O:l[0]? = some r:=by rw[hl];rfl
  refine⟨by rw[hl];simp,h.len,h.nx2,λn f => ?_,h.flds,h.nxt,λi n hi f => ?_⟩
  .rw[O]at f;cases f;exact hr
  .have C:n.Id_≠1:=by have:=gt O f hi;rw[hr.1]at this;omega
   refine⟨srt_iff.1 h.srt i n hi f,h.nam n (s f) C,?_,λc hc => ?_⟩
   .obtain⟨p,Z,Y,p3,p4⟩:=h.par n (s f) C;obtain⟨j,m⟩:=qO.1 Z;exact⟨p,mem_take.2 ⟨j,lt m f p3,m⟩,Y,p4⟩
   .obtain⟨j,j0,j1,m⟩:=mem_take_drop.1 hc;cases U:dK_ c n with
    | false=>rfl
    | true =>
     unfold dK_ at U;rw[qAn,qG,qG]at U;have c1:c.Id_≠1:=by have:=gt O m j0;rw[hr.1]at this;omega
     have:=h.uniq c (s m) n (s f) c1 C U.1 U.2;have:=gt m f j1;omega
 .rintro⟨C,h2,h3,h4,h5,h6,M⟩;have srt:l.Pairwise λa b=>a.Id_<b.Id_:=srt_iff.2 λi n hi f=>(M i n hi f).1
  have gt:∀{i j:Nat} {a b:Xq},l[i]? = some a->l[j]? = some b->i<j->a.Id_<b.Id_:=fun{i j a b} y u D=>by
   have:=zK.1 srt i j (qZ.1 y).1 (qZ.1 u).1 D;rw[(qZ.1 y).2,(qZ.1 u).2]at this;exact this
  cases l with
  | nil=>exact absurd C (by simp)
  | cons r q =>
   have hr:=h4 r rfl;have pos:∀{i:Nat} {n:Xq},(r::q)[i]? = some n->n.Id_≠1->0<i:=fun{i n} f x=>by
    rcases qt i with rfl|O
    .cases f;exact absurd hr.1 x
    .exact O
   refine⟨srt,⟨r,q,rfl,hr⟩,h5,λn f x => ?_,λn f x => ?_,λa y b u J G V F => ?_,h6,h3,h2⟩
   .obtain⟨i,hi⟩:=qO.1 f;exact(M i n (pos hi x) hi).2.1
   .obtain⟨i,hi⟩:=qO.1 f;obtain⟨p,V,Z,Y⟩:=(M i n (pos hi x) hi).2.2.1;obtain⟨j,m,e⟩:=mem_take.1 V;exact⟨p,qO.2 ⟨_,e⟩,Z,gt e hi m,Y⟩
   .obtain⟨i,hi⟩:=qO.1 y;obtain⟨j,m⟩:=qO.1 u;rcases Nat.lt_trichotomy i j with h|h|h
    .have:=(M j b (pos m G) m).2.2.2 a (mem_take_drop.2 ⟨i,pos hi J,h,hi⟩);unfold dK_ at this;rw[V,F]at this;simp at this
    .subst h;rw[hi]at m;cases m;rfl
    .have:=(M i a (pos hi J) hi).2.2.2 b (mem_take_drop.2 ⟨j,pos m G,h,m⟩);unfold dK_ at this;rw[V,F]at this;simp at this
def CntP{κ α:Type}(eq : κ -> κ -> Bool)(P : κ -> α->Bool)(ks:List κ)(vs:List Int)(l:List α):Prop:=ks.length=vs.length/\∀k,aL_ eq ks vs k 0=((l.countP (P k):Nat):Int)
theorem CntP.nil{κ α:Type}{eq : κ -> κ -> Bool}{P : κ -> α->Bool}:CntP eq P [] [] []:=⟨rfl,λ_=>by simp[aL_]⟩
theorem CntP.put{κ α:Type}{eq : κ -> κ -> Bool}{P : κ -> α->Bool}(f:∀x y,eq x y=true↔x=y){ks:List κ}{vs:List Int}{l:List α}(h:CntP eq P ks vs l){x:α}{key : κ}(j:∀k,P k x=eq k key)(q:l.length<=2000) :
  CntP eq P (bc_ eq ks key) (bA_ eq ks vs key (w64 (aL_ eq ks vs key 0+1))) (l++[x]):=by
 refine⟨qT_ h.1,λn => ?_⟩;have s:=List.countP_le_length (p:=P key) (l:=l);rw[qU_ f h.1,h.2 key,h.2 n,aw_ (by omega),List.countP_append];have e:List.countP (P n) [x]=if eq n key then 1 else 0:=by simp[List.countP_cons,j]
 rw[e];cases m:eq n key with
 | true=>obtain rfl:=(f _ _).1 m;rfl
 | false=>rfl
theorem CntP.skip{κ α:Type}{eq : κ -> κ -> Bool}{P : κ -> α->Bool}{ks:List κ}{vs:List Int}{l:List α}(h:CntP eq P ks vs l){x:α}(f:∀k,P k x=false):CntP eq P ks vs (l++[x]) :=
 ⟨h.1,λk=>by rw[h.2 k,List.countP_append];simp[f]⟩
theorem CntP.put2{κ α:Type}{eq : κ -> κ -> Bool}{P : κ -> α->Bool}(f:∀x y,eq x y=true↔x=y){ks:List κ}{vs:List Int}{l:List α}(h:CntP eq P ks vs l){x:α}{key : κ}(j:∀k,P k x=eq k key)(p:l.length<=2000) :
  CntP eq P (bc_ eq (bc_ eq ks key) key) (bA_ eq (bc_ eq ks key) (bA_ eq ks vs key (aL_ eq ks vs key 0)) key (w64 (aL_ eq ks vs key 0+1))) (l++[x]) /\
  aL_ eq (bc_ eq ks key) (bA_ eq ks vs key (aL_ eq ks vs key 0)) key 0=aL_ eq ks vs key 0:=by
 have e:∀n,aL_ eq (bc_ eq ks key) (bA_ eq ks vs key (aL_ eq ks vs key 0)) n 0=aL_ eq ks vs n 0:=λn=>by
  rw[qU_ f h.1];cases m:eq n key with
  | true=>obtain rfl:=(f _ _).1 m;rfl
  | false=>rfl
 have q:CntP eq P (bc_ eq ks key) (bA_ eq ks vs key (aL_ eq ks vs key 0)) l:=⟨qT_ h.1,λn=>by rw[e];exact h.2 n⟩;refine⟨?_,e key⟩;have:=q.put f j p;rw[e key]at this;exact this
theorem CntP.zero{κ α:Type}{eq : κ -> κ -> Bool}{P : κ -> α->Bool}{ks:List κ}{vs:List Int}{l:List α}(h:CntP eq P ks vs l)(k : κ):(aL_ eq ks vs k 0==0) = !(l.any (P k)):=by
 rw[h.2 k,qK,qG,qL,jO];have:((l.countP (P k):Nat):Int)=0↔l.countP (P k)=0:=by omega
 rw[this,List.countP_eq_zero]
theorem CntP.pos{κ α:Type}{eq : κ -> κ -> Bool}{P : κ -> α->Bool}{ks:List κ}{vs:List Int}{l:List α}(h:CntP eq P ks vs l)(k : κ):decide (aL_ eq ks vs k 0>0)=l.any (P k):=by
 rw[h.2 k,qK,qDe,zf];have:((l.countP (P k):Nat):Int)>0↔0<l.countP (P k):=by omega
 rw[this,List.countP_pos_iff]
def dirP(k:Int)(n:Xq):Bool:=k==n.Id_&&al_ n.Xv 31
abbrev eqPl(a b:Xc):Bool:=decide (a=b)
def plP(k:Xc)(n:Xq):Bool:=eqPl k (Xc.mk n.Xy n.Xh)
theorem plP_same(c n:Xq):plP (Xc.mk n.Xy n.Xh) c=dK_ c n:=by
 unfold plP dK_ eqPl;rw[qK];simp only[qDe,Xc.mk.injEq,qAn,qG];exact⟨λ⟨h,f⟩=>⟨h.symm,f.symm⟩,λ⟨h,f⟩=>⟨h.symm,f.symm⟩⟩
def okAt(l:List Xq)(i:Nat)(n:Xq):Bool:=bif i==0 then n.Id_==1&&(n.Xy==1&&(n.Xh==[47]&&al_ n.Xv 31))else bs_ n.Xh&&((l.take i).any (dirP n.Xy) && !(((l.take i).drop 1).any (plP (Xc.mk n.Xy n.Xh))))
def tB(l:List Xq)(next:Int)(i:Nat)(n:Xq):Bool:=aY_ n&&(decide (n.Id_<next)&&((i==0||decide ((fL_ l i).Id_<n.Id_))&&okAt l i n))
def gT(l:List Xq)(next:Int)(i:Nat)(n:Xq):Option Bool:=if tB l next i n then none else some false
theorem pV_{l:List Xq}{i:Nat}(hi:i<l.length)(f:0<i):(l.take (i+1)).drop 1=(l.take i).drop 1++[l[i]]:=by
 rw[jq_ hi,List.drop_append,qb,show(1-min i l.length)=0 by omega];rfl
theorem vl_(t:Xk)(i:Nat)(hi:i<t.Xz.length)(hl:t.Xz.length<=1024)(hm:∀n∈t.Xz,n.Xv<=9223372036854775807/\n.Xh.length<=9223372036854775807){dk:List Int}{dv:List Int}{pk:List Xc}{pv:List Int}
  (h1:CntP eqI dirP dk dv (t.Xz.take i)) (h2:CntP eqPl plP pk pv ((t.Xz.take i).drop 1)) :
  (tB t.Xz t.Xn i t.Xz[i]=false/\c0_ t ((i:Int),dk,dv,pk,pv)=some (.done (.ret false))) \/
  (tB t.Xz t.Xn i t.Xz[i]=true/\∃dk' dv' pk' pv',c0_ t ((i:Int),dk,dv,pk,pv)=some (.next (((i+1:Nat):Int),dk',dv',pk',pv'))/\CntP eqI dirP dk' dv' (t.Xz.take (i+1))/\CntP eqPl plP pk' pv' ((t.Xz.take (i+1)).drop 1)):=by
 have D:=qr hi;obtain⟨s,ZY⟩:=hm _ D;unfold c0_;simp only;rw[bm_ hi,au_ hi,aw_ (by omega)];simp only[qn,qBs];rw[yi_ _ s];simp only[qBs];have ZZ:decide (t.Xz[i].Id_>=t.Xn) = !(decide (t.Xz[i].Id_<t.Xn)):=by rw[qK];simp
 rw[ZZ];have C:t.Xz.take (i+1)=t.Xz.take i++[t.Xz[i]]:=jq_ hi;have f:∀{A B:Option (Out ((List Int)×(List Int)×(List Xc)×(List Int)) Bool)},(Option.bind (bP_ t.Xz[i].Xv) λ(M:Bool)=>bif M then A else B)=bif al_ t.Xz[i].Xv 31 then A else B:=by
  intro A B;rw[eQ_ _ s];rfl
 -- the directories counted after this node
 have hD:∃dk' dv',(∀(p q:_),(bif al_ t.Xz[i].Xv 31 then some (.fall (bc_ eqI dk t.Xz[i].Id_,bA_ eqI dk dv t.Xz[i].Id_ (w64 (aL_ eqI dk dv t.Xz[i].Id_ 0+1)),p,q))else some (.fall (dk,dv,p,q)):Option (Out ((List Int)×(List Int)×(List Xc)×(List Int)) Bool))=some (.fall (dk',dv',p,q)))/\CntP eqI dirP dk' dv' (t.Xz.take (i+1)):=by
  rw[C];cases hh:al_ t.Xz[i].Xv 31 with
  | true=>exact⟨_,_,λp q=>rfl,h1.put eqI_iff (λk=>by unfold dirP eqI;rw[hh,Bool.and_true]) (by rw[qb];omega)⟩
  | false=>exact⟨dk,dv,λp q=>rfl,h1.skip (λk=>by unfold dirP;rw[hh,Bool.and_false])⟩
 obtain⟨dk',dv',J,G⟩:=hD;cases j:aY_ t.Xz[i]with
 | false=>exact .inl ⟨by unfold tB;rw[j];rfl,rfl⟩
 | true =>
  cases u:decide (t.Xz[i].Id_<t.Xn)with
  | false=>exact .inl ⟨by unfold tB;rw[j,u];rfl,rfl⟩
  | true =>
   simp only[jN,Bool.or_self,qw];rcases qt i with rfl|h0
   .
    have e0:decide (((0:Nat):Int)>0)=false:=rfl;have e1:(((0:Nat):Int)==0)=true:=rfl;rw[e0,e1];simp only[qw,qn,qBs];have h:(Option.bind (bif(((t.Xz[0].Id_ != 1)||(t.Xz[0].Xy != 1))||(!(t.Xz[0].Xh==[47])))then some true else Option.bind (bP_ t.Xz[0].Xv) λ(Z:Bool)=>some (!Z)) λ(Y:Bool)=>(bif Y then some (.ret (false))else some (.fall ())):Option (Out Unit Bool))=bif okAt t.Xz 0 t.Xz[0]then some (.fall ())else some (.ret false):=by
     rw[eQ_ _ s];unfold okAt bne;simp only[qBs];cases t.Xz[0].Id_==1<;>cases t.Xz[0].Xy==1<;>cases t.Xz[0].Xh==[47]<;>cases al_ t.Xz[0].Xv 31<;>rfl
    rw[h];cases F:okAt t.Xz 0 t.Xz[0]with
    | false=>exact .inl ⟨by unfold tB;rw[j,u,F];rfl,rfl⟩
    | true =>
     refine .inr ⟨by unfold tB;rw[j,u,F];rfl,dk',dv',pk,pv,?_,G,?_⟩
     .simp only[qn,qBs];rw[f,J];rfl
     .have e:(t.Xz.take (0+1)).drop 1=(t.Xz.take 0).drop 1:=by rw[C];simp
      rw[e];exact h2
   .have e0:decide ((i:Int)>0)=true:=by simpa using h0
    have e1:((i:Int)==0)=false:=by simp;omega
    have e2:(i==0)=false:=by simp;omega
    have hp:an_ t.Xz (w64 ((i:Int)-1))=some (fL_ t.Xz i):=ll_ zeroN h0 hi (by omega);rw[e0,e1,hp];have ZX:decide (t.Xz[i].Id_<=(fL_ t.Xz i).Id_) = !(decide ((fL_ t.Xz i).Id_<t.Xz[i].Id_)):=by rw[qK];simp
    simp only[qn,qBs];rw[ZX];cases hs:decide ((fL_ t.Xz i).Id_<t.Xz[i].Id_)with
    | false=>exact .inl ⟨by unfold tB;rw[j,u,hs,e2];rfl,rfl⟩
    | true =>
     simp only[jN,qw];have m:(Option.bind (du_ t.Xz[i].Xh) λ(V:Bool)=>Option.bind (bif(!V)then some true else some ((aL_ eqI dk dv t.Xz[i].Xy 0)==0)) λ(U:Bool)=>Option.bind (bif U then some true else some (decide ((aL_ (λ(a b:Xc)=>decide (a=b)) pk pv (Xc.mk t.Xz[i].Xy t.Xz[i].Xh) 0)>0))) λ(O:Bool)=>(bif O then some (.ret (false))else some (.fall ())):Option (Out Unit Bool))=bif okAt t.Xz i t.Xz[i]then some (.fall ())else some (.ret false):=by
      rw[im_ _ ZY];unfold okAt;rw[h1.zero,e2];have:=h2.pos (Xc.mk t.Xz[i].Xy t.Xz[i].Xh);unfold eqPl at this;rw[this];simp only[qBs,qw];cases bs_ t.Xz[i].Xh<;>cases(t.Xz.take i).any (dirP t.Xz[i].Xy)<;>cases((t.Xz.take i).drop 1).any (plP (Xc.mk t.Xz[i].Xy t.Xz[i].Xh))<;>rfl
     rw[m];cases F:okAt t.Xz i t.Xz[i]with
     | false=>exact .inl ⟨by unfold tB;rw[j,u,F];simp,rfl⟩
     | true =>
      obtain⟨c1,c2⟩:=h2.put2 (x:=t.Xz[i]) (key:=Xc.mk t.Xz[i].Xy t.Xz[i].Xh) (λx y=>decide_eq_true_iff) (λk=>rfl) (by rw[qS,qb];omega);refine .inr ⟨by unfold tB;rw[j,u,F,hs];simp,dk',dv',_,_,?_,G,by rw[pV_ hi h0];exact c1⟩;simp only[qn,qBs];rw[c2,bothC_self];simp only[qBs];rw[f,J];rfl
theorem vm_(t:Xk)(p:t.Xz.length<=1024)(hm:∀n∈t.Xz,n.Xv<=9223372036854775807/\n.Xh.length<=9223372036854775807) :
  am_ (c0_ t) BIG (0,([]:List Int),([]:List Int),([]:List Xc),([]:List Int))=some (fF_ (bk_ (gT t.Xz t.Xn) 0 t.Xz)):=by
 refine fE_ (body:=c0_ t) (J:=λi s b=>∃dk dv pk pv,s=((i:Int),dk,dv,pk,pv)/\CntP eqI dirP dk dv (t.Xz.take i)/\CntP eqPl plP pk pv ((t.Xz.take i).drop 1)/\b=fF_ (bk_ (gT t.Xz t.Xn) i (t.Xz.drop i))) t.Xz.length (bz_ (by omega)) (λs b h => ?_) (λi s b hi h => ?_) ⟨[],[],[],[],rfl,CntP.nil,by simp[CntP.nil],by simp⟩
 .obtain⟨dk,dv,pk,pv,rfl,_,_,rfl⟩:=h;unfold c0_;simp only;rw[bC_];simp[bk_,fF_]
 .obtain⟨dk,dv,pk,pv,rfl,u,q,rfl⟩:=h;rw[zV hi];rcases vl_ t i hi p hm u q with⟨f,hr⟩|⟨f,dk',dv',pk',pv',hr,m,j⟩
  .exact .inl (by rw[hr];simp[bk_,gT,f,fF_])
  .exact .inr ⟨_,hr,dk',dv',pk',pv',rfl,m,j,by simp[bk_,gT,f]⟩
theorem scan_all{α:Type}{g:Nat->α->Option Bool}{p:Nat->α->Bool}(s:∀i x,g i x=if p i x then none else some false)(l:List α)(k:Nat):(bk_ g k l).getD true=true↔∀i x,l[i]? = some x->p (k+i) x=true:=by
 cases q:bk_ g k l with
 | none =>
  refine⟨λ_ i x m => ?_,λ_=>rfl⟩;have:=scan_none.1 q i x m;rw[s]at this;cases f:p (k+i) x with
  | true=>rfl
  | false=>rw[f]at this;cases this
 | some r =>
  obtain⟨i,x,m,j,_⟩:=oN_ q;rw[s]at j;cases f:p (k+i) x with
  | true=>rw[f]at j;cases j
  | false =>
   rw[f]at j;obtain rfl:false=r:=by cases j;rfl
   refine⟨λh=>(nomatch h),λh => ?_⟩;rw[h i x m]at f;cases f
theorem ln_(t:Xk)(G:t.Xz.length<=1024)(hm:∀n∈t.Xz,n.Xv<=9223372036854775807/\n.Xh.length<=9223372036854775807):∃b,eJ_ t=some b/\(b=true↔OkT t.Xz t.Xn):=by
 unfold eJ_;cases C:(decide ((t.Xz.length:Int)<1)||decide ((t.Xz.length:Int)>1024))||(decide (t.Xn>1048576))with
 | true =>
  refine⟨false,af_ rfl rfl,λh=>(nomatch h),λh => ?_⟩;obtain⟨q,O,m,_⟩:=OkT_iff.1 h;simp only[qP,qDe]at C;omega
 | false =>
  simp only[qh,qDf]at C;refine⟨(bk_ (gT t.Xz t.Xn) 0 t.Xz).getD true,ab_ rfl (bT_ (vm_ t G hm) (λ_=>rfl) rfl),?_⟩;rw[scan_all (g:=gT t.Xz t.Xn) (p:=tB t.Xz t.Xn) (λ_ _=>rfl),OkT_iff];simp only[qo];have tk:∀i (n:Xq),tB t.Xz t.Xn i n=true↔aY_ n=true/\n.Id_<t.Xn/\(i=0\/(fL_ t.Xz i).Id_<n.Id_)/\okAt t.Xz i n=true:=λi n=>by
   unfold tB;simp only[qAn,qP,qDe,qG]
  have j:∀n,okAt t.Xz 0 n=true↔RootOK n:=λn=>by
   unfold okAt RootOK;simp only[jX,qn,qAn,qG]
  have okS:∀i n,0<i->(okAt t.Xz i n=true↔bs_ n.Xh=true/\(∃p∈t.Xz.take i,p.Id_=n.Xy/\al_ p.Xv 31=true)/\∀c∈(t.Xz.take i).drop 1,dK_ c n=false):=λi n s=>by
   unfold okAt;rw[show(i==0)=false by simp;omega];simp only[qw,qAn,qL,zf,jO,plP_same,dirP,qG,Bool.not_eq_true];constructor
   .rintro⟨q,⟨p,y,x,u⟩,m⟩;exact⟨q,⟨p,y,x.symm,u⟩,m⟩
   .rintro⟨q,⟨p,y,x,u⟩,m⟩;exact⟨q,⟨p,y,x.symm,u⟩,m⟩
  constructor
  .intro h;refine⟨by omega,by omega,by omega,λn f=>(j n).1 ((tk 0 n).1 (h 0 n f)).2.2.2,λn f => ?_,λn f => ?_,λi n s f => ?_⟩
   .obtain⟨i,hi⟩:=qO.1 f;exact((tk i n).1 (h i n hi)).1
   .obtain⟨i,hi⟩:=qO.1 f;exact((tk i n).1 (h i n hi)).2.1
   .obtain⟨a,b,c,d⟩:=(tk i n).1 (h i n f);exact⟨c.resolve_left (by omega),(okS i n s).1 d⟩
  .rintro⟨q,O,m,M,F,D,J⟩ i n f;have hm:=qO.2 ⟨_,f⟩;rcases qt i with rfl|s
   .exact(tk 0 n).2 ⟨F n hm,D n hm,.inl rfl,(j n).2 (M n f)⟩
   .obtain⟨a,b⟩:=J i n s f;exact(tk i n).2 ⟨F n hm,D n hm,.inr a,(okS i n s).2 b⟩
def dirD(n c:Xq):Bool:=c.Id_==n.Xy&&decide (c.Xv>=2147483648)
theorem ref10_inner(t:Xk)(i:Nat)(hi:i<t.Xz.length)(F:t.Xz.length<=1024) :
  am_ (eR_ (i:Int) t) BIG (false,0)=some (bif((t.Xz.take i).drop 1).any (λc=>dK_ c t.Xz[i])then .ret false else .fall ((t.Xz.take i).any (dirD t.Xz[i]))):=by
 refine fE_ (body:=eR_ (i:Int) t) (J:=λj s b=>j<=i/\s=((t.Xz.take j).any (dirD t.Xz[i]),(j:Int))/\((t.Xz.take j).drop 1).any (λc=>dK_ c t.Xz[i])=false/\b=bif((t.Xz.take i).drop 1).any (λc=>dK_ c t.Xz[i])then .ret false else .fall ((t.Xz.take i).any (dirD t.Xz[i]))) i (by show i<18446744073709551616;omega) (λs b u => ?_) (λj s b y u => ?_) ⟨qq _,rfl,by simp,rfl⟩
 .obtain⟨_,rfl,x,rfl⟩:=u;rw[x];unfold eR_;simp only;rw[bC_];rfl
 .obtain⟨_,rfl,x,rfl⟩:=u;have h:j<t.Xz.length:=by omega
  have p:t.Xz.take (j+1)=t.Xz.take j++[t.Xz[j]]:=jq_ h;have q:(t.Xz.take (j+1)).any (dirD t.Xz[i])=((t.Xz.take j).any (dirD t.Xz[i])||dirD t.Xz[i] t.Xz[j]):=by rw[p,List.any_append];simp
  have f:eR_ (i:Int) t ((t.Xz.take j).any (dirD t.Xz[i]),(j:Int))=bif(decide (0<j)&&dK_ t.Xz[j] t.Xz[i])then some (.done (.ret false))else some (.next ((t.Xz.take (j+1)).any (dirD t.Xz[i]),((j+1:Nat):Int))):=by
   unfold eR_;simp only;rw[bm_ y,au_ h,au_ hi,aw_ (by omega),q];have D:decide ((j:Int)>0)=decide (0<j):=by rw[qK];simp
   rw[D];unfold dirD dK_ bf_;simp only[qn,qBs];cases(t.Xz.take j).any λc=>c.Id_==t.Xz[i].Xy&&decide (c.Xv>=2147483648)<;>cases t.Xz[j].Id_==t.Xz[i].Xy<;>cases decide (t.Xz[j].Xv>=2147483648)<;>cases decide (0<j)<;>cases t.Xz[j].Xy==t.Xz[i].Xy<;>cases t.Xz[j].Xh==t.Xz[i].Xh<;>rfl
  cases m:decide (0<j)&&dK_ t.Xz[j] t.Xz[i]with
  | true =>
   rw[m]at f;refine .inl ?_;rw[f];rw[qAn,qDe]at m;have:((t.Xz.take i).drop 1).any (λc=>dK_ c t.Xz[i])=true:=zf.2 ⟨_,mem_take_drop.2 ⟨j,m.1,y,qQ h⟩,m.2⟩;rw[this];rfl
  | false =>
   rw[m]at f;refine .inr ⟨_,f,by omega,rfl,?_,rfl⟩;rcases qt j with rfl|C
   .rw[p];simp
   .rw[pV_ h C,List.any_append,x];rw[show decide (0<j)=true by simpa using C,zY]at m;simpa using m
def rB(l:List Xq)(i:Nat)(n:Xq):Bool:=decide ((fL_ l i).Id_<n.Id_)&&(decide (n.Xy<n.Id_)&&(bs_ n.Xh&&(aY_ n&&(!(((l.take i).drop 1).any λc=>dK_ c n)&&(l.take i).any (dirD n)))))
def gR(l:List Xq)(i:Nat)(n:Xq):Option Bool:=if rB l i n then none else some false
theorem tZ_(t:Xk)(p:t.Xz.length<=1024)(q:1<=t.Xz.length)(hm:∀n∈t.Xz,n.Xv<=9223372036854775807/\n.Xh.length<=9223372036854775807) :
  am_ (fS_ t) BIG 1=some (fF_ (bk_ (gR t.Xz) 1 (t.Xz.drop 1))):=by
 refine vj_ t.Xz (gR t.Xz) 1 q (bz_ (by omega)) (λi hi s => ?_) ?_
 .have f:=qr hi;obtain⟨j,h⟩:=hm _ f;unfold fS_;have m:an_ t.Xz (w64 ((i:Int)-1))=some (fL_ t.Xz i):=ll_ zeroN s hi (by omega);rw[bm_ hi,au_ hi,m,aw_ (by omega)];simp only[qn,qBs];rw[g2_ _ h,oP_ _ j];simp only[qBs];rw[ref10_inner t i hi p];have x:decide (t.Xz[i].Id_<=(fL_ t.Xz i).Id_) = !(decide ((fL_ t.Xz i).Id_<t.Xz[i].Id_)):=by rw[qK];simp
  have u:decide (t.Xz[i].Xy>=t.Xz[i].Id_) = !(decide (t.Xz[i].Xy<t.Xz[i].Id_)):=by rw[qK];simp
  rw[x,u];unfold gR rB;cases decide ((fL_ t.Xz i).Id_<t.Xz[i].Id_)<;>cases decide (t.Xz[i].Xy<t.Xz[i].Id_)<;>cases bs_ t.Xz[i].Xh<;>cases aY_ t.Xz[i]<;>try rfl
  cases((t.Xz.take i).drop 1).any λc=>dK_ c t.Xz[i]<;>cases(t.Xz.take i).any (dirD t.Xz[i])<;>rfl
 .unfold fS_;rw[bC_];rfl
theorem last_lt{l:List Xq}(m:l.Pairwise λa b=>a.Id_<b.Id_){x:Xq}(f:l[l.length-1]? = some x)(next:Int):(∀n∈l,n.Id_<next)↔x.Id_<next:=by
 constructor
 .exact λh=>h x (qO.2 ⟨_,f⟩)
 .intro h n p;obtain⟨i,hi⟩:=qO.1 p;obtain⟨u,C⟩:=qZ.1 hi;obtain⟨s,y⟩:=qZ.1 f;rcases qN i (l.length-1)with j|q
  .have:=zK.1 m i (l.length-1) u s j;rw[C,y]at this;omega
  .obtain rfl:i=l.length-1:=by omega
   rw[hi]at f;cases f;exact h
def rootD(r:Xq):Bool:=r.Id_==1&&(r.Xy==1&&(r.Xh==[47]&&(decide (2147483648<=r.Xv)&&aY_ r)))
theorem oQ_(t:Xk)(hl:t.Xz.length<=1024)(hm:∀n∈t.Xz,n.Xv<=9223372036854775807/\n.Xh.length<=9223372036854775807):∃b,d0_ t=some b/\(b=true↔OkT t.Xz t.Xn):=by
 rcases qt t.Xz.length with m|m
 .refine⟨false,?_,λh=>(nomatch h),λh => ?_⟩
  .unfold d0_;rw[show decide ((t.Xz.length:Int)<1)=true by simp;omega];rfl
  .have:=(OkT_iff.1 h).1;omega
 .obtain⟨r,hr⟩:∃r,t.Xz[0]? = some r:=⟨_,qQ m⟩;obtain⟨z,U⟩:∃z,t.Xz[t.Xz.length-1]? = some z:=⟨_,qQ (by omega)⟩;have gr:an_ t.Xz 0=some r:=(bx_ t.Xz 0).trans hr;have gz:an_ t.Xz (w64 ((t.Xz.length:Int)-1))=some z:=by rw[w_pred m (by omega),bx_];exact U
  have C:=qO.2 ⟨_,hr⟩;have D:(decide ((t.Xz.length:Int)<1)||decide ((t.Xz.length:Int)>1024))=false:=by simp;omega
  have ev:d0_ t=bif rootD r then(bif(decide (t.Xn<=z.Id_)||decide (t.Xn>1048576))then some false else some ((bk_ (gR t.Xz) 1 (t.Xz.drop 1)).getD true))else some false:=by
   unfold d0_;rw[D,gr,gz];have e1:decide (r.Xv<2147483648) = !(decide (2147483648<=r.Xv)):=by rw[qK];simp
   simp only[qw,qBs];rw[oP_ _ (hm r C).1,e1];simp only[qBs];unfold rootD bne;cases r.Id_==1<;>cases r.Xy==1<;>cases r.Xh==[47]<;>cases decide (2147483648<=r.Xv)<;>cases aY_ r<;>try rfl
   cases hN:(decide (t.Xn<=z.Id_))||(decide (t.Xn>1048576))with
   | true=>rfl
   | false =>
    show(Option.bind (am_ (fS_ t) BIG 1) λ(O:Out Unit Bool)=>match O with | .ret r3=>some r3 | .fall _=>some true)=some ((bk_ (gR t.Xz) 1 (t.Xz.drop 1)).getD true);exact bT_ (tZ_ t hl m hm) (λ_=>rfl) rfl
  have q:rootD r=true↔RootOK r/\aY_ r=true:=by
   unfold rootD RootOK;simp only[qAn,qG,qDe];constructor
   .rintro⟨h1,Z,M,F,s⟩;have:=eY_ (g3_ s);exact⟨⟨h1,Z,M,by rw[←this];simpa using F⟩,s⟩
   .rintro⟨⟨h1,Z,M,F⟩,s⟩;have:=eY_ (g3_ s);rw[F]at this;exact⟨h1,Z,M,by simpa using this,s⟩
  rw[OkT_iff];cases y:rootD r with
  | false =>
   refine⟨false,by rw[ev,y];rfl,λh=>(nomatch h),λ⟨_,_,_,F,s,_⟩ => ?_⟩;rw[q.2 ⟨F r hr,s r C⟩]at y;cases y
  | true =>
   obtain⟨Y,V⟩:=q.1 y;cases hN:(decide (t.Xn<=z.Id_))||(decide (t.Xn>1048576))with
   | true =>
    refine⟨false,by rw[ev,y,hN];rfl,λh=>(nomatch h),λ⟨_,_,M,_,_,h6,_⟩ => ?_⟩;have:=h6 z (qO.2 ⟨_,U⟩);simp only[qP,qDe]at hN;omega
   | false =>
    refine⟨(bk_ (gR t.Xz) 1 (t.Xz.drop 1)).getD true,by rw[ev,y,hN];rfl,?_⟩;simp only[qh,qDf]at hN;rw[scan_all (g:=gR t.Xz) (p:=rB t.Xz) (λ_ _=>rfl)];have rk:∀i (n:Xq),rB t.Xz i n=true↔(fL_ t.Xz i).Id_<n.Id_/\n.Xy<n.Id_/\bs_ n.Xh=true/\aY_ n=true/\(∀c∈(t.Xz.take i).drop 1,dK_ c n=false)/\∃p∈t.Xz.take i,p.Id_=n.Xy/\2147483648<=p.Xv:=λi n=>by
     unfold rB;simp only[qAn,qDe,qL,zf,jO,dirD,qG,Bool.not_eq_true,ge_iff_le]
    have nth:∀i n,(t.Xz.drop 1)[i]? = some n↔t.Xz[1+i]? = some n:=λi n=>by rw[zA]
    constructor
    .intro h;have h':∀i n,0<i->t.Xz[i]? = some n->rB t.Xz i n=true:=λi n m f=>by
      have:=h (i-1) n ((nth _ _).2 (by rw[show 1+(i-1)=i by omega];exact f))
      rwa [show 1+(i-1)=i by omega]at this
     have flds:∀n∈t.Xz,aY_ n=true:=λn f=>by
      obtain⟨i,hi⟩:=qO.1 f;rcases qt i with rfl|m
      .rw[hr]at hi;cases hi;exact V
      .exact((rk i n).1 (h' i n m hi)).2.2.2.1
     refine⟨m,by omega,by omega,λn f=>by rw[hr]at f;cases f;exact Y,flds,?_,λi n m f => ?_⟩
     .exact(last_lt (srt_iff.2 λi n m f=>((rk i n).1 (h' i n m f)).1) U _).2 (by omega)
     .obtain⟨a,b,c,d,e,p,x,J,G⟩:=(rk i n).1 (h' i n m f);refine⟨a,c,⟨p,x,J,?_⟩,e⟩;rw[←eY_ (g3_ (flds p (zd x)))];simpa using G
    .intro h i n f;have ht:=OkT_iff.2 h;obtain⟨_,_,_,_,s,_,h7⟩:=h;have u:=(nth _ _).1 f;obtain⟨a,b,⟨p,x,J,G⟩,d⟩:=h7 (1+i) n (by omega) u;refine(rk (1+i) n).2 ⟨a,?_,b,s n (qO.2 ⟨_,u⟩),d,p,x,J,?_⟩
     .obtain⟨j,j1,j2⟩:=mem_take.1 x;rw[←J];obtain⟨q1,e1⟩:=qZ.1 j2;obtain⟨q2,e2⟩:=qZ.1 u;have:=zK.1 ht.srt j (1+i) q1 q2 j1
      rwa [e1,e2]at this
     .rw[←eY_ (g3_ (s p (zd x)))]at G;simpa using G
theorem l1_{xs:List Str}(h:xs.length<=1000):bO_ xs=some xs:=hQ_ (n:=16) (by omega) (by omega)
def okU(i:Nat)(b:UInt8):Bool:=(decide (97<=b.toNat)&&decide (b.toNat<=122))||(!(i==0)&&((decide (48<=b.toNat)&&decide (b.toNat<=57))||b.toNat==45||b.toNat==95))
def gU(i:Nat)(b:UInt8):Option Bool:=if okU i b then none else some false
def vU(s:Str):Bool:=decide (1<=s.length)&&(decide (s.length<=32)&&((bk_ gU 0 s).getD true))
theorem gU_if(i:Nat)(b:UInt8){c:Bool}(h:c = !(okU i b)):(bif c then some (Step.done (Out.ret false))else some (Step.next ((i+1:Nat):Int)):Option (Step Int (Out Unit Bool)))=some (stepO (gU i b) i):=by
 subst h;unfold gU;cases okU i b<;>rfl
theorem okU_a(i:Nat)(b:UInt8):((!(decide ((b.toNat:Int)>=97)&&decide ((b.toNat:Int)<=122)))&&(((i:Int)==0)||(!(((decide ((b.toNat:Int)>=48)&&decide ((b.toNat:Int)<=57))||((b.toNat:Int)==45))||((b.toNat:Int)==95))))) = !(okU i b):=by
 unfold okU;rw[qK];simp only[qAn,qP,qL,zu,qh,qDf,qG,qz,Bool.not_eq_false'];omega
theorem vo_(s:Str)(h:s.length<=9223372036854775807):am_ (i5_ s) BIG 0=some (fF_ (bk_ gU 0 s)):=by
 refine bG_ s gU (bz_ h) (λi hi => ?_) ?_
 .unfold i5_;rw[lj_ hi,bm_ hi,aw_ (by omega)];simp only[qn,qBs];exact gU_if i s[i] (okU_a i s[i])
 .unfold i5_;rw[bC_];rfl
theorem no_(s:Str)(h:s.length<=9223372036854775807):gp_ s=some (vU s):=by
 unfold gp_ vU;have j:(s==[]) = !decide (1<=s.length):=by cases s with|nil=>rfl|cons a l=>rw[qK];simp
 have f:decide ((s.length:Int)>32) = !decide (s.length<=32):=by rw[qK];simp only[qDe,qL,qDf];omega
 rw[j,f];cases decide (1<=s.length)with
 | false=>rfl
 | true =>
  cases decide (s.length<=32)with
  | false=>rfl
  | true =>
   refine ab_ rfl ?_;exact bT_ (vo_ s h) (λ_=>rfl) rfl
theorem t0_(s:Str)(h:s.length<=9223372036854775807):am_ (h6_ s) BIG 0=some (fF_ (bk_ gU 0 s)):=by
 refine bG_ s gU (bz_ h) (λi hi => ?_) ?_
 .unfold h6_;rw[lj_ hi,bm_ hi,aw_ (by omega)];simp only[qn,qBs];refine gU_if i s[i] ?_;rw[←okU_a];rw[qK];simp only[qAn,qP,qL,zu,qh,qDf,qG,qz,zM,ne_eq]
 .unfold h6_;rw[bC_];rfl
theorem d5_(s:Str)(h:s.length<=9223372036854775807):cJ_ s=some (vU s):=by
 unfold cJ_ vU;have j:decide ((s.length:Int)<1) = !decide (1<=s.length):=by rw[qK];simp only[qDe,qL,qDf];omega
 have f:decide ((s.length:Int)>32) = !decide (s.length<=32):=by rw[qK];simp only[qDe,qL,qDf];omega
 rw[j,f];cases decide (1<=s.length)with
 | false=>rfl
 | true =>
  cases decide (s.length<=32)with
  | false=>rfl
  | true =>
   refine ab_ rfl ?_;exact bT_ (t0_ s h) (λ_=>rfl) rfl
abbrev c8_(name:Str)(u:Xb):Bool:=u.Xh==name
def d6_(l:List Xb)(name:Str):Xb×Bool:=match l.find? (c8_ name)with|some u=>(u,true)|none=>(Xb.mk [] [] [],false)
theorem l2_(l:List Xb)(name:Str)(h:l.length<=1000):jz_ l name=some (at_ (c8_ name) l):=by
 rw[←jX_];refine bT_ (bG_ l _ (bz_ (by omega)) (λi hi => ?_) ?_) (λ_=>rfl) rfl
 .unfold pc_;rw[au_ hi,bm_ hi,aw_ (by omega)];simp only[qn,qBs];unfold c8_;cases l[i].Xh==name<;>rfl
 .unfold pc_;rw[bC_];rfl
def smallM(l:List Xb):Prop:=∀u∈l,u.Yp.length<=1000
def fitM(l:List Xb):Prop:=∀u∈l,u.Yp.length<=9223372036854775807
theorem smallM.fit{l:List Xb}(h:smallM l):fitM l:=λu f=>qk (h u f) (by decide)
theorem rj_(l:List Xb)(name:Str)(h:l.length<=1000):ko_ l name=some (d6_ l name):=by
 unfold ko_ d6_;refine aa_ (l2_ l name h) ?_;rw[kH_];cases f:l.find? (c8_ name)with
 | none=>rfl
 | some u =>
  refine ab_ rfl ?_;refine aa_ ((mo_ (c8_ name) l (by rw[f];rfl)).trans f) rfl
theorem sf_(l:List Xb)(name:Str)(h:l.length<=1000)(hm:smallM l):oH_ l name=some (d6_ l name):=by
 have e:d6_ l name=((l.find? (c8_ name)).map λu=>(u,true)).getD (Xb.mk [] [] [],false):=by
  unfold d6_;cases l.find? (c8_ name)<;>rfl
 rw[e,←jW_ _ _ 0];refine bT_ (bG_ l _ (bz_ (by omega)) (λi hi => ?_) ?_) (λ_=>rfl) rfl
 .unfold n0_;rw[au_ hi,bm_ hi,aw_ (by omega)];simp only[qn,qBs];unfold c8_;cases l[i].Xh==name with
  | false=>rfl
  | true =>
   refine af_ rfl ?_;refine aa_ (l1_ (hm _ (qr hi))) rfl
 .unfold n0_;rw[bC_];rfl
theorem to_(l:List Xb)(name:Str)(hm:smallM l):(d6_ l name).1.Yp.length<=1000:=by
 unfold d6_;cases f:l.find? (c8_ name)with
 | none=>exact qq _
 | some u=>exact hm u (zH f)
def hasM(l:List Str)(s:Str):Bool:=l.any λm=>m==s
def dS_(l:List Xb)(user group:Str):Bool:=user==group||hasM (d6_ l group).1.Yp user
theorem index_texts(l:List Str)(s:Str)(h:l.length<=1000):eI_ l s=some (at_ (λm=>m==s) l):=by
 rw[←jX_];refine bT_ (bG_ l _ (bz_ (by omega)) (λi hi => ?_) ?_) (λ_=>rfl) rfl
 .unfold dQ_;rw[au_ hi,bm_ hi,aw_ (by omega)];simp only[qn,qBs];have e:(s==l[i])=(l[i]==s):=by rw[qK,qG,qG];exact⟨Eq.symm,Eq.symm⟩
  rw[e];cases l[i]==s<;>rfl
 .unfold dQ_;rw[bC_];rfl
theorem at_any{α:Type}(p:α->Bool)(l:List α):decide (at_ p l>=0)=l.any p:=by
 have h:=kH_ p l;have e:l.any p=(l.find? p).isSome:=by
  rw[qK,List.find?_isSome,zf]
 rw[e];have:decide (at_ p l>=0) = !decide (at_ p l<0):=by rw[qK];simp
 rw[this,h];cases l.find? p<;>rfl
theorem wH_(l:List Str)(s:Str)(h:l.length<=1000):cN_ l s=some (hasM l s):=by
 unfold cN_ hasM;refine aa_ (index_texts l s h) ?_;rw[at_any]
theorem in_(l:List Xb)(user group:Str)(h:l.length<=1000)(hm:smallM l):gU_ l user group=some (dS_ l user group):=by
 unfold gU_ dS_;cases user==group with
 | true=>rfl
 | false =>
  refine ab_ rfl ?_;refine aa_ (sf_ l group h hm) ?_;have j:=to_ l group hm;have f:(d6_ l group).2=false->(d6_ l group).1.Yp=[]:=by
   unfold d6_;cases l.find? (c8_ group)with
   | none=>exact λ_=>rfl
   | some u=>exact λh=>nomatch h
  cases m:(d6_ l group).2 with
  | true=>exact aa_ (af_ rfl (aa_ (wH_ _ user j) rfl)) rfl
  | false=>rw[f m];exact aa_ (a:=false) rfl rfl
theorem kJ_(l:List Xb)(user group:Str)(h:l.length<=1000)(hm:smallM l):f0_ l user group=some (dS_ l user group):=by
 unfold f0_ dS_;cases user==group with
 | true=>rfl
 | false =>
  refine ab_ rfl ?_;refine aa_ (rj_ l group h) ?_;have j:=to_ l group hm;generalize d6_ l group=q at j;have e:(false||hasM q.1.Yp user)=((q.1.Yp.find? λm=>m==user).map λ_=>true).getD false:=by
   unfold hasM;rw[jZ,qK,zf];cases f:q.1.Yp.find? λm=>m==user with
   | none =>
    rw[zy]at f;simp only[ze,jl];exact⟨λ⟨x,s,p⟩=>absurd p (f x s),λh=>nomatch h⟩
   | some x=>exact⟨λ_=>rfl,λ_=>⟨x,zH f,by simpa using jW f⟩⟩
  rw[e,←jW_ _ _ 0];refine bT_ (bG_ _ _ (bz_ (by omega)) (λi hi => ?_) ?_) (λ_=>rfl) rfl
  .unfold kp_;rw[au_ hi,bm_ hi,aw_ (by omega)];simp only[qn,qBs];cases q.1.Yp[i]==user<;>rfl
  .unfold kp_;rw[bC_];rfl
theorem eqS_iff(x y:Str):eqS x y=true↔x=y:=qG
def Cnt(ks:List Str)(vs:List Int)(l:List Xb):Prop:=ks.length=vs.length/\∀n,aL_ eqS ks vs n 0=((l.countP (c8_ n):Nat):Int)
theorem Cnt.put{ks:List Str}{vs:List Int}{l:List Xb}{u:Xb}(h:Cnt ks vs l)(m:l.length<=1000):Cnt (bc_ eqS ks u.Xh) (bA_ eqS ks vs u.Xh (w64 (aL_ eqS ks vs u.Xh 0+1))) (l++[u]):=by
 refine⟨qT_ h.1,λn => ?_⟩;have q:=List.countP_le_length (p:=c8_ u.Xh) (l:=l);rw[qU_ eqS_iff h.1,h.2 u.Xh,h.2 n,aw_ (by omega),List.countP_append];have e:List.countP (c8_ n) [u]=if u.Xh==n then 1 else 0:=by simp[List.countP_cons,c8_]
 rw[e];have j:eqS n u.Xh=(u.Xh==n):=by unfold eqS;rw[qK,qG,qG];exact⟨Eq.symm,Eq.symm⟩
 rw[j];cases f:u.Xh==n with
 | true=>obtain rfl:=qG.1 f;rfl
 | false=>rfl
def dB_(l:List Xb)(n:Str):Bool:=l.any (c8_ n)
def gM(l:List Xb)(ms:List Str)(k:Nat)(m:Str):Option Int:=if !(dB_ l m)||(decide (0<k) && !(Op.bytesLess (ms.getD (k-1) []) m))then some 26 else none
def memE(l:List Xb)(ms:List Str):Int:=(bk_ (gM l ms) 0 ms).getD 0
def gC(l:List Xb)(i:Nat)(u:Xb):Option Int:=if !(vU u.Xh)then some 25 else if(l.take i).any (c8_ u.Xh)then some 7 else if !(u.Yd==[]) && !(dB_ l u.Yd)then some 26 else if memE l u.Yp != 0 then some (memE l u.Yp)else none
def eZ_(l:List Xb):Int:=if l.length>64 then 22 else(bk_ (gC l) 0 l).getD 0
def mq_(l:List Xb):Prop:=∀u∈l,u.Xh.length<=9223372036854775807
theorem any_find{α:Type}(p:α->Bool)(l:List α):l.any p = !((l.find? p).isNone):=by
 rw[qK,zf];cases f:l.find? p with
 | none =>
  rw[zy]at f;exact⟨λ⟨x,m,j⟩=>absurd j (f x m),λh=>nomatch h⟩
 | some x=>exact⟨λ_=>rfl,λ_=>⟨x,zH f,by simpa using jW f⟩⟩
theorem at_absent(l:List Xb)(n:Str):decide (at_ (c8_ n) l<0) = !(dB_ l n):=by
 unfold dB_;rw[kH_,any_find,Bool.not_not]
theorem at_before(l:List Xb)(i:Nat)(hi:i<l.length):decide (at_ (c8_ l[i].Xh) l<(i:Int))=(l.take i).any (c8_ l[i].Xh):=by
 rw[qK,qDe,zf];rcases lk_ (c8_ l[i].Xh) l with⟨f,_⟩|⟨j,x,f,F,p,D,C⟩
 .rw[zy]at f;exact absurd (jX l[i].Xh) (f _ (qr hi))
 .rw[F];constructor
  .intro h;have J:j<i:=by omega
   refine⟨x,?_,D⟩;rw[List.mem_take_iff_getElem];have u:=(qZ.1 p).1;exact⟨j,by omega,(qZ.1 p).2⟩
  .rintro⟨y,m,s⟩;rw[List.mem_take_iff_getElem]at m;obtain⟨q,G,rfl⟩:=m;rcases qN q j with h|h
   .have:=C q _ h (qQ (by omega));rw[s]at this;cases this
   .omega
theorem yj_(l:List Xb)(u:Xb)(h:l.length<=1000)(m:u.Yp.length<=9223372036854775807):am_ (fJ_ u l) BIG 0=some (fF_ (bk_ (gM l u.Yp) 0 u.Yp)):=by
 refine bG_ _ _ (bz_ (by omega)) (λi hi => ?_) ?_
 .unfold fJ_;rw[au_ hi,bm_ hi,aw_ (by omega)];simp only[qn,qBs];refine aa_ (l2_ l _ h) ?_;rw[at_absent];unfold gM;cases p:dB_ l u.Yp[i]with
  | false=>rfl
  | true =>
   rcases qt i with rfl|f
   .rfl
   .have e:decide ((i:Int)>0)=true:=by simpa using f
    have j:decide (0<i)=true:=by simpa using f
    rw[e,j,ll_ [] f hi (by omega)];simp only[jN,qw,qn,qBs,jZ,zY];cases Op.bytesLess (u.Yp.getD (i-1) []) u.Yp[i]<;>rfl
 .unfold fJ_;rw[bC_];rfl
theorem ref05_one(l:List Xb)(i:Nat)(hi:i<l.length)(h:l.length<=1000)(hm:fitM l)(m:mq_ l):h7_ l (i:Int)=some ((gC l i l[i]).getD 0):=by
 unfold h7_ gC;rw[au_ hi];refine aa_ rfl (aa_ (d5_ _ (m _ (qr hi))) ?_);cases p:vU l[i].Xh with
 | false=>rfl
 | true =>
  refine ab_ rfl (aa_ (l2_ l _ h) ?_);rw[at_before l i hi];cases s:(l.take i).any (c8_ l[i].Xh)with
  | true=>rfl
  | false =>
   refine ab_ rfl ?_;have e:Option.bind (bif(!(l[i].Yd==[]))then Option.bind (jz_ l l[i].Yd) λ(f:Int)=>some (decide (f<0))else some false)=Option.bind (some (!(l[i].Yd==[]) && !(dB_ l l[i].Yd)):Option Bool) (β:=Int):=by
    congr 1
    cases l[i].Yd==[]with
    | true=>rfl
    | false =>
     refine af_ rfl (aa_ (l2_ l _ h) ?_);rw[at_absent];rfl
   rw[e];refine aa_ rfl ?_;cases q : !(l[i].Yd==[]) && !(dB_ l l[i].Yd)with
   | true=>rfl
   | false =>
    refine ab_ rfl ?_;refine(bT_ (yj_ l l[i] h (hm _ (qr hi))) (λ_=>rfl) rfl).trans ?_;show some (memE l l[i].Yp)=_;cases j:memE l l[i].Yp != 0 with
    | true=>simp
    | false=>simp;simpa using j
theorem gC_ne(l:List Xb)(i:Nat)(u:Xb):(if(gC l i u).getD 0 != 0 then some ((gC l i u).getD 0)else none)=gC l i u:=by
 unfold gC;split
 .rfl
 .split
  .rfl
  .split
   .rfl
   .split
    .rename_i h;simpa using h
    .rfl
theorem pW_(l:List Xb)(h:l.length<=1000)(hm:fitM l)(m:mq_ l):lG_ l=some (eZ_ l):=by
 unfold lG_ eZ_;by_cases f:l.length>64
 .rw[qV f];exact af_ (by simp;omega) rfl
 .rw[qX f];refine ab_ (by simp;omega) ?_;refine bT_ (bG_ l _ (bz_ (by omega)) (λi hi => ?_) ?_) (λ_=>rfl) rfl
  .unfold ld_;rw[bm_ hi,aw_ (by omega)];refine af_ rfl (aa_ (ref05_one l i hi h hm m) ?_);rw[←gC_ne l i l[i]];cases j:(gC l i l[i]).getD 0 != 0 with
   | true=>simp[j,stepO]
   | false=>simp[stepO]
  .unfold ld_;rw[bC_];rfl
theorem tb_(l:List Xb)(ms:List Str)(ks:List Str)(vs:List Int)(u:Cnt ks vs l)(y:ms.length<=9223372036854775807):kh_ (ks,vs) ms=some (memE l ms,ks,vs):=by
 have p:∀n,(aL_ eqS ks vs n 0==0) = !(dB_ l n):=λn=>by
  rw[u.2 n];unfold dB_;rw[qK,qG,qL,jO];have:((l.countP (c8_ n):Nat):Int)=0↔l.countP (c8_ n)=0:=by omega
  rw[this,List.countP_eq_zero]
 have s:am_ (hj_ ms (ks,vs)) BIG 0=some (fF_ ((bk_ (gM l ms) 0 ms).map λe=>(e,ks,vs))):=by
  have f:∀(k:Nat) (q:List Str),(bk_ (gM l ms) k q).map (λe=>(e,ks,vs))=bk_ (λi m=>(gM l ms i m).map λe=>(e,ks,vs)) k q:=by
   intro k q
   induction q generalizing k with
   | nil=>rfl
   | cons a q j =>
    simp only[bk_];cases gM l ms k a with
    | some r=>rfl
    | none=>exact j (k+1)
  rw[f];refine bG_ _ _ (bz_ (by omega)) (λi hi => ?_) ?_
  .unfold hj_;rw[au_ hi,bm_ hi,aw_ (by omega)];simp only[qn,qBs];rw[p];unfold gM;cases C:dB_ l ms[i]with
   | false=>rfl
   | true =>
    rcases qt i with rfl|h
    .rfl
    .have e:decide ((i:Int)>0)=true:=by simpa using h
     have x:decide (0<i)=true:=by simpa using h
     rw[e,x,ll_ [] h hi (by omega)];simp only[jN,qw,qn,qBs,jZ,zY];cases Op.bytesLess (ms.getD (i-1) []) ms[i]<;>rfl
  .unfold hj_;rw[bC_];rfl
 unfold kh_ memE;rw[s];cases bk_ (gM l ms) 0 ms<;>rfl
theorem t1_(l:List Xb)(h:l.length<=1000):∃ks vs,am_ (i6_ l) BIG (0,([]:List Str),([]:List Int))=some (ks,vs)/\Cnt ks vs l:=by
 let f:List Str×List Int->Nat->Xb->List Str×List Int:=λs _ u=>(bc_ eqS s.1 u.Xh,bA_ eqS s.1 s.2 u.Xh (w64 (aL_ eqS s.1 s.2 u.Xh 0+1)))
 have key:∀(i:Nat) (q:List Xb) (s:List Str×List Int) (p:List Xb),p.length+q.length<=1000->Cnt s.1 s.2 p->Cnt (bH_ f s i q).1 (bH_ f s i q).2 (p++q):=by
  intro i q
  induction q generalizing i with
  | nil=>intro s p _ j;simpa[bH_]using j
  | cons u q m =>
   intro s p x j;simp only[qLc]at x;have:=m (i+1) (f s i u) (p++[u]) (by simp;omega) (j.put (by omega));simpa[bH_]using this
 refine⟨(bH_ f ([],[]) 0 l).1,(bH_ f ([],[]) 0 l).2,?_,by simpa using key 0 l ([],[]) [] (by simpa using h) ⟨rfl,λn=>rfl⟩⟩;refine d4_ (τ:=Int×List Str×List Int) l f (λi s=>((i:Int),s.1,s.2)) (λ_ _=>True) (λs=>(s.1,s.2)) ([],[]) (bz_ (by omega)) trivial (λi s hi _=>⟨?_,trivial⟩) (λs _ => ?_)
 .unfold i6_;simp only;rw[bm_ hi,au_ hi,aw_ (by omega)];rfl
 .unfold i6_;simp only;rw[bC_];rfl
theorem rk_(l:List Xb)(h:l.length<=1000)(hm:fitM l)(F:mq_ l):m9_ l=some (eZ_ l):=by
 unfold m9_ eZ_;by_cases C:l.length>64
 .rw[qV C];exact af_ (by simp;omega) rfl
 .rw [qX C];refine ab_ (by simp;omega) ?_;obtain⟨ka,va,G,s⟩:=t1_ l h;refine aa_ G ?_;refine bT_ (o:=bk_ (gC l) 0 l) ?_ (λ_=>rfl) rfl;refine fE_ (body:=gK_ l) (J:=λi t b=>∃ks vs,t=((i:Int),ka,va,ks,vs)/\Cnt ks vs (l.take i)/\b=fF_ (bk_ (gC l) i (l.drop i))) l.length (bz_ (by omega)) (λt b y => ?_) (λi t b hi y => ?_) ⟨[],[],rfl,⟨rfl,λn=>by simp[aL_]⟩,by simp⟩
  .obtain⟨ks,vs,rfl,_,rfl⟩:=y;unfold gK_;simp only;rw[bC_];simp[bk_,fF_]
  .obtain⟨ks,vs,rfl,D,rfl⟩:=y;have m:=qr hi;have j:=D.put (u:=l[i]) (by rw[qb];omega);rw[←jq_ hi]at j;rw[zV hi];have q:decide (aL_ eqS ks vs l[i].Xh 0>0)=(l.take i).any (c8_ l[i].Xh):=by
    rw[D.2 l[i].Xh,qK,qDe,zf];have:((List.countP (c8_ l[i].Xh) (l.take i):Nat):Int)>0↔0<List.countP (c8_ l[i].Xh) (l.take i):=by omega
    rw[this,List.countP_pos_iff]
   have p:Option.bind (bif(!(l[i].Yd==[]))then some ((aL_ eqS ka va l[i].Yd 0)==0)else some false)=Option.bind (some (!(l[i].Yd==[]) && !(dB_ l l[i].Yd)):Option Bool) (β:=Step (Int×(List Str)×(List Int)×(List Str)×(List Int)) (Out Unit Int)):=by
    congr 1
    cases l[i].Yd==[]with
    | true=>rfl
    | false =>
     have:(aL_ eqS ka va l[i].Yd 0==0) = !(dB_ l l[i].Yd):=by
      rw[s.2 l[i].Yd];unfold dB_;rw[qK,qG,qL,jO];have:((l.countP (c8_ l[i].Yd):Nat):Int)=0↔l.countP (c8_ l[i].Yd)=0:=by omega
      rw[this,List.countP_eq_zero]
     rw[this];rfl
   have f:gK_ l ((i:Int),ka,va,ks,vs)=some (match gC l i l[i]with|some r => .done (.ret r)|none => .next (((i+1:Nat):Int),ka,va,bc_ eqS ks l[i].Xh,bA_ eqS ks vs l[i].Xh (w64 (aL_ eqS ks vs l[i].Xh 0+1)))):=by
    unfold gK_ gC;simp only;rw[bm_ hi,au_ hi];refine af_ rfl (aa_ rfl (aa_ (no_ _ (F _ m)) ?_));cases vU l[i].Xh with
    | false=>rfl
    | true =>
     refine ab_ rfl ?_;rw[q];cases(l.take i).any (c8_ l[i].Xh)with
     | true=>rfl
     | false =>
      refine ab_ rfl ?_;rw[p];refine aa_ rfl ?_;cases !(l[i].Yd==[]) && !(dB_ l l[i].Yd)with
      | true=>rfl
      | false =>
       refine ab_ rfl (aa_ (tb_ l _ ka va s (hm _ m)) ?_);simp only;cases M:memE l l[i].Yp != 0 with
       | true=>simp
       | false=>simp only[qw];rw[aw_ (by omega)];rfl
   cases x:gC l i l[i]with
   | some r =>
    rw[x]at f;exact .inl (by rw[f];simp[bk_,x,fF_])
   | none =>
    rw[x]at f;exact .inr ⟨_,f,_,_,rfl,j,by simp[bk_,x]⟩
theorem has_and(x:Int)(k:Nat)(j:k<63)(p:x<=9223372036854775807):(decide (x>=0)&&(bF_ .i64 x ((2^k:Nat):Int)) != 0)=al_ x k:=by
 by_cases q:0<=x
 .obtain⟨n,rfl⟩:∃n:Nat,x=(n:Int):=⟨x.toNat,by omega⟩;have h:2^k<2^63:=Nat.pow_lt_pow_right (by omega) j;have f:decide ((n:Int)>=0)=true:=by simp
  have m:(((n&&&2^k:Nat):Int) != 0)=(n&&&2^k != 0):=by
   rw[qK];simp only[zM,ne_eq];omega
  rw[f,li_ (by omega) h,m,bit_and,hR_,tbit];rfl
 .have f:decide (x>=0)=false:=by simp;omega
  rw[f,jD_ (by omega)];rfl
theorem l3_(x:Int)(k:Nat)(f:k<63)(h:x<=9223372036854775807):aF_ x ((2^k:Nat):Int)=some (al_ x k):=qH some (has_and x k f h)
theorem cX_(x:Int)(k:Nat)(f:k<63)(h:x<=9223372036854775807):aZ_ x ((2^k:Nat):Int)=some (al_ x k):=pU_ x k f h
theorem kK_(x:Int)(k:Nat)(f:k<63)(h:x<=9223372036854775807):gh_ x ((2^k:Nat):Int)=some (al_ x k):=pU_ x k f h
theorem t2_:BIG=18446744073709551610+6:=rfl
theorem orI_i64{a b:Nat}(h:a<2^63)(f:b<2^63):orI .i64 a b=((a|||b:Nat):Int):=by
 have j:a|||b<2^63:=Nat.or_lt_two_pow h f
 show IntKind.i64.wrap (((BitVec.ofInt 64 (a:Int)|||BitVec.ofInt 64 (b:Int)).toNat:Nat):Int)=_;rw[BitVec.toNat_or,gi_ (by omega),gi_ (by omega)];exact dA_ ⟨by omega,by omega⟩
def grB(n:Nat)(mem own:Bool)(i:Nat):Bool:=(n.testBit i||(n.testBit (i+3)&&mem))||(n.testBit (i+6)&&own)
def allowsN(n:Nat)(mem own:Bool)(w:Nat):Bool:=(!(w.testBit 0)||grB n mem own 0)&&((!(w.testBit 1)||grB n mem own 1)&&(!(w.testBit 2)||grB n mem own 2))
def nA_(l:List Xb)(user uid gid:Str)(mode want:Int):Bool:=decide (0<=mode)&&(decide (0<=want)&&(decide (want<=7)&&allowsN mode.toNat (dS_ l user gid) (user==uid) want.toNat))
theorem and_self_iff(a w:Nat)(f:w<8):(a&&&w==w)=((!(w.testBit 0)||a.testBit 0)&&((!(w.testBit 1)||a.testBit 1)&&(!(w.testBit 2)||a.testBit 2))):=by
 rw[qK,qG];constructor
 .intro h;have k:∀i,(!(w.testBit i)||a.testBit i)=true:=λi=>by
   have:=qH (λq=>q.testBit i) h;simp only[jA]at this;cases f:w.testBit i<;>cases j:a.testBit i<;>simp_all
  simp only[k,Bool.and_self]
 .intro h;simp only[qAn]at h
  apply jK;intro i;rw[jA];have k:∀{x y:Bool},(!x||y)=true->(y&&x)=x:=fun{x y}=>by cases x<;>cases y<;>simp
  match i with
  | 0=>exact k h.1
  | 1=>exact k h.2.1
  | 2=>exact k h.2.2
  | i+3 =>
   have:w.testBit (i+3)=false:=zr (zJ (by omega:w<2^3) (zI (by omega) (by omega)));simp[this]
theorem oa_(n i:Nat)(hi:i<3):(n%8).testBit i=n.testBit i:=by
 rw[show(8:Nat)=2^3 from rfl,Nat.testBit_mod_two_pow];simp[hi]
theorem granted_bits(n:Nat)(mem own:Bool)(i:Nat)(hi:i<3):((if own then(if mem then n%8|||n/8%8 else n%8)|||n/64%8 else(if mem then n%8|||n/8%8 else n%8)):Nat).testBit i=grB n mem own i:=by
 have h:(n/8%8).testBit i=n.testBit (i+3):=by rw[oa_ _ _ hi,show(8:Nat)=2^3 from rfl,jC]
 have f:(n/64%8).testBit i=n.testBit (i+6):=by rw[oa_ _ _ hi,show(64:Nat)=2^6 from rfl,jC]
 unfold grB;cases mem<;>cases own<;>simp[Nat.testBit_or,h,f,oa_ _ _ hi]
theorem pX_(l:List Xb)(user uid gid:Str)(mode want:Int)(h:l.length<=1000)(hm:smallM l)(G:mode<=9223372036854775807):iQ_ l user uid gid mode want=some (nA_ l user uid gid mode want):=by
 unfold iQ_ nA_;by_cases J:0<=mode/\0<=want/\want<=7
 .obtain⟨n,rfl⟩:∃n:Nat,mode=(n:Int):=⟨mode.toNat,by omega⟩;obtain⟨w,rfl⟩:∃w:Nat,want=(w:Int):=⟨want.toNat,by omega⟩;refine ab_ (by simp;omega) ?_;rw[in_ l user gid h hm];have x:(n:Int).tmod 8=((n%8:Nat):Int):=rfl;have u:(IntKind.i64.wrap ((n:Int).tdiv 8)).tmod 8=((n/8%8:Nat):Int):=by
   rw[show(n:Int).tdiv 8=((n/8:Nat):Int)from rfl,dA_ ⟨by omega,by omega⟩];rfl
  have j:(IntKind.i64.wrap ((n:Int).tdiv 64)).tmod 8=((n/64%8:Nat):Int):=by
   rw[show(n:Int).tdiv 64=((n/64:Nat):Int)from rfl,dA_ ⟨by omega,by omega⟩];rfl
  rw[x,u,j];generalize dS_ l user gid=mem;have Y:n%8<8:=jc _ (by omega);have V:n/8%8<8:=jc _ (by omega);have U:n/64%8<8:=jc _ (by omega);have O:n%8|||n/8%8<2^3:=Nat.or_lt_two_pow (by omega) (by omega)
  refine aa_ (a:=((if mem then n%8|||n/8%8 else n%8:Nat):Int)) ?_ ?_
  .refine aa_ rfl ?_;cases mem with
   | true=>rw[qn,orI_i64 (by omega) (by omega)];rfl
   | false=>rfl
  .have p:(if mem then n%8|||n/8%8 else n%8:Nat)<2^3:=by split<;>omega
   have m:=λown i hi=>granted_bits n mem own i hi
   generalize(if mem then n%8|||n/8%8 else n%8:Nat)=q at p m;have M:q|||n/64%8<2^3:=Nat.or_lt_two_pow p (by omega)
   refine aa_ (a:=((if user==uid then q|||n/64%8 else q:Nat):Int)) ?_ ?_
   .cases user==uid with
    | true=>rw[qn,orI_i64 (by omega) (by omega)];rfl
    | false=>rfl
   .have f:=m (user==uid);have F:(if user==uid then q|||n/64%8 else q:Nat)<8:=by split<;>omega
    generalize(if user==uid then q|||n/64%8 else q:Nat)=g at f F;rw[li_ (by omega) (by omega)];have e:(((g&&&w:Nat):Int)==(w:Int))=(g&&&w==w):=by rw[qK,qG,qG];omega
    rw[e,and_self_iff g w (by omega),f 0 (by omega),f 1 (by omega),f 2 (by omega)];have D:decide (0<=(n:Int))=true:=by simp
    have C:decide (0<=(w:Int))=true:=by simp
    have y:decide ((w:Int)<=7)=true:=by simp;omega
    rw[D,C,y,qTn,qTn];rfl
 .refine af_ (by simp;omega) ?_;have:(decide (0<=mode)&&(decide (0<=want)&&decide (want<=7)))=false:=by
   cases s:(decide (0<=mode)&&(decide (0<=want)&&decide (want<=7)))with
   | false=>rfl
   | true=>simp at s;omega
  congr 1
  revert this;cases decide (0<=mode)<;>cases decide (0<=want)<;>cases decide (want<=7)<;>simp
theorem ref06_body(l:List Xb)(user uid gid:Str)(n w i:Nat)(hi:i<=2)(h:l.length<=1000)(hm:smallM l)(F:n<2^63)(C:w<8) :
  kq_ (n:Int) l user gid uid (w:Int) ((2^i:Nat):Int)=some (if !(w.testBit i)||grB n (dS_ l user gid) (user==uid) i then .next ((2^(i+1):Nat):Int)else .done (.ret false)):=by
 have D:2^i<=4:=by
  have:2^i<=2^2:=zI (by omega) hi;omega
 have s:=Nat.two_pow_pos i;have x:w64 (8*((2^i:Nat):Int))=((2^(i+3):Nat):Int):=by
  rw[Nat.pow_add];rw[aq_ ⟨by omega,by omega⟩];omega
 have j:w64 (64*((2^i:Nat):Int))=((2^(i+6):Nat):Int):=by
  rw[Nat.pow_add];rw[aq_ ⟨by omega,by omega⟩];omega
 have y:w64 (2*((2^i:Nat):Int))=((2^(i+1):Nat):Int):=by
  rw[Nat.pow_add];rw[aq_ ⟨by omega,by omega⟩];omega
 have f:=λk u=>kK_ (n:Int) k u (by omega)
 have p:quoI .i64 (w:Int) ((2^i:Nat):Int)=some ((w/2^i:Nat):Int):=by
  unfold quoI;rw[qX (by omega),show(w:Int).tdiv ((2^i:Nat):Int)=((w/2^i:Nat):Int)from rfl];have:=Nat.div_le_self w (2^i);generalize w/2^i=q at this;rw[dA_ ⟨by omega,by omega⟩]
 have m:(((w/2^i:Nat):Int).tmod 2==1)=w.testBit i:=by
  rw[←tbit,show((w/2^i:Nat):Int).tmod 2=((w/2^i%2:Nat):Int)from rfl,qK,qG,qG];omega
 unfold kq_;rw[x,j,y,f i (by omega),f (i+3) (by omega),f (i+6) (by omega),p];simp only[hR_];refine af_ (by rw[qDe];omega) ?_;rw[kJ_ l user gid h hm];simp only[qBs];rw[m];unfold grB;cases n.testBit i<;>cases n.testBit (i+3)<;>cases dS_ l user gid<;>cases n.testBit (i+6)<;>cases user==uid<;>cases w.testBit i<;>rfl
theorem oR_(l:List Xb)(user uid gid:Str)(mode want:Int)(h:l.length<=1000)(hm:smallM l)(D:mode<=9223372036854775807):hH_ l user uid gid mode want=some (nA_ l user uid gid mode want):=by
 unfold hH_ nA_;by_cases F:0<=mode/\0<=want/\want<=7
 .obtain⟨n,rfl⟩:∃n:Nat,mode=(n:Int):=⟨mode.toNat,by omega⟩;obtain⟨w,rfl⟩:∃w:Nat,want=(w:Int):=⟨want.toNat,by omega⟩;refine ab_ (by simp;omega) ?_;have C:decide (0<=(n:Int))=true:=by simp
  have y:decide (0<=(w:Int))=true:=by simp
  have x:decide ((w:Int)<=7)=true:=by simp;omega
  rw[C,y,x,qTn,qTn];have p:=λi hi=>ref06_body l user uid gid n w i hi h hm (by omega) (by omega)
  unfold allowsN;rw[t2_];have f:=p 0 (by omega);have j:=p 1 (by omega);have m:=p 2 (by omega);cases s:(!(w.testBit 0)||grB n (dS_ l user gid) (user==uid) 0)with
  | false=>rw[s]at f;exact aa_ (aS_ f) rfl
  | true =>
   rw[s]at f;cases k1:(!(w.testBit 1)||grB n (dS_ l user gid) (user==uid) 1)with
   | false=>rw[k1]at j;exact aa_ (bh_ f (aS_ j)) rfl
   | true =>
    rw[k1]at j;cases q:(!(w.testBit 2)||grB n (dS_ l user gid) (user==uid) 2)with
    | false=>rw[q]at m;exact aa_ (bh_ f (bh_ j (aS_ m))) rfl
    | true=>rw[q]at m;exact aa_ (bh_ f (bh_ j (bh_ m (aS_ rfl)))) rfl
 .refine af_ (by simp;omega) ?_;have:(decide (0<=mode)&&(decide (0<=want)&&decide (want<=7)))=false:=by
   cases u:(decide (0<=mode)&&(decide (0<=want)&&decide (want<=7)))with
   | false=>rfl
   | true=>simp at u;omega
  congr 1
  revert this;cases decide (0<=mode)<;>cases decide (0<=want)<;>cases decide (want<=7)<;>simp
theorem trich:∀(a b:Str),(Op.bytesLess a b||a==b) = !(Op.bytesLess b a)
 | [],[]=>rfl
 | [],_::_=>rfl
 | _::_,[]=>rfl
 | x::a,y::b=>by
  have p:=trich a b;simp only[Op.bytesLess,List.cons_beq_cons];rcases Nat.lt_trichotomy x.toNat y.toNat with h|h|h
  .have f:decide (x<y)=true:=by simpa[UInt8.lt_iff_toNat_lt]using h
   have m:decide (y<x)=false:=by simp[UInt8.lt_iff_toNat_lt];omega
   have j:(y==x)=false:=by rw[qz];intro e;subst e;omega
   simp[f,m,j]
  .obtain rfl:x=y:=UInt8.toNat_inj.1 h;have f:decide (x<x)=false:=by simp
   simp only[f,jX,zY,jZ];exact p
  .have f:decide (x<y)=false:=by simp[UInt8.lt_iff_toNat_lt];omega
   have m:decide (y<x)=true:=by simpa[UInt8.lt_iff_toNat_lt]using h
   have j:(x==y)=false:=by rw[qz];intro e;subst e;omega
   simp[f,m,j]
def gQ(l:List Xe)(i:Nat)(q:Xe):Option Int:=if !(vU q.Yr)then some 25 else if decide (0<i) && !(Op.bytesLess (l.getD (i-1) default).Yr q.Yr)then some 2 else if decide (q.Xf<0)||decide (q.Xf>9007199254740991)||decide (q.Zq<0)||decide (q.Zq>9007199254740991)then some 5 else none
def hS_(l:List Xe):Int:=if l.length>64 then 22 else(bk_ (gQ l) 0 l).getD 0
def pY_(l:List Xe):Prop:=∀q∈l,q.Yr.length<=9223372036854775807
theorem wK_(l:List Xe)(h:l.length<=1000)(q:pY_ l):lK_ l=some (hS_ l):=by
 unfold lK_ hS_;by_cases p:l.length>64
 .rw[qV p];exact af_ (by simp;omega) rfl
 .rw [qX p];refine ab_ (by simp;omega) ?_;refine bT_ (bG_ l _ (bz_ (by omega)) (λi hi => ?_) ?_) (λ_=>rfl) rfl
  .unfold lh_ gQ;rw[bm_ hi,au_ hi,aw_ (by omega)];refine af_ rfl (aa_ rfl (aa_ (no_ _ (q _ (qr hi))) ?_));cases vU l[i].Yr with
   | false=>rfl
   | true =>
    refine ab_ rfl ?_;have f:(decide ((br_ l[i].Xf l[i].Zq)<0)||decide ((bN_ l[i].Xf l[i].Zq)>9007199254740991))=(decide (l[i].Xf<0)||decide (l[i].Xf>9007199254740991)||decide (l[i].Zq<0)||decide (l[i].Zq>9007199254740991)):=by
     unfold br_ bN_;rw[qK];simp only[qP,qDe];constructor
     .rintro(j|j)<;>split at j<;>omega
     .intro j;split<;>split<;>omega
    rw[f];rcases qt i with rfl|m
    .cases(decide (l[0].Xf<0)||decide (l[0].Xf>9007199254740991)||decide (l[0].Zq<0)||decide (l[0].Zq>9007199254740991))<;>rfl
    .have e:decide ((i:Int)>0)=true:=by simpa using m
     have s:decide (0<i)=true:=by simpa using m
     rw[e,s,ll_ default m hi (by omega)];simp only[qn,qBs,zY,trich];cases Op.bytesLess (l.getD (i-1) default).Yr l[i].Yr<;>cases(decide (l[i].Xf<0)||decide (l[i].Xf>9007199254740991)||decide (l[i].Zq<0)||decide (l[i].Zq>9007199254740991))<;>rfl
  .unfold lh_;rw[bC_];rfl
theorem wL_(l:List Xe)(h:l.length<=1000)(m:pY_ l):lH_ l=some (hS_ l):=by
 unfold lH_ hS_;by_cases j:l.length>64
 .rw[qV j];exact af_ (by simp;omega) rfl
 .rw [qX j];refine ab_ (by simp;omega) ?_;refine bT_ (bG_ l _ (bz_ (by omega)) (λi hi => ?_) ?_) (λ_=>rfl) rfl
  .unfold le_ gQ;rw[bm_ hi,au_ hi,aw_ (by omega)];refine af_ rfl (aa_ rfl (aa_ (d5_ _ (m _ (qr hi))) ?_));cases vU l[i].Yr with
   | false=>rfl
   | true =>
    refine ab_ rfl ?_;rcases qt i with rfl|f
    .cases(decide (l[0].Xf<0)||decide (l[0].Xf>9007199254740991)||decide (l[0].Zq<0)||decide (l[0].Zq>9007199254740991))<;>rfl
    .have e:decide ((i:Int)>0)=true:=by simpa using f
     have p:decide (0<i)=true:=by simpa using f
     rw[e,p,ll_ default f hi (by omega)];simp only[qn,qBs,zY];cases Op.bytesLess (l.getD (i-1) default).Yr l[i].Yr<;>cases(decide (l[i].Xf<0)||decide (l[i].Xf>9007199254740991)||decide (l[i].Zq<0)||decide (l[i].Zq>9007199254740991))<;>rfl
  .unfold le_;rw[bC_];rfl
def cP_(l:List Int):Prop:=l.Pairwise (· < ·)
theorem iW_{n:Xq}(h:aY_ n=true):n.Xd.length<=65536:=by
 unfold aY_ at h;simp only[qAn,qDe]at h;exact h.1.2
theorem at_id{l:List Xq}{id:Int}(h:(ai_ l id).2=true):∃i:Nat,at_ (eK_ id) l=(i:Int)/\l[i]? = some (ai_ l id).1/\i<l.length:=by
 rcases lk_ (eK_ id) l with⟨f,_⟩|⟨i,x,f,m,j,_⟩
 .unfold ai_ at h;rw[f]at h;cases h
 .refine⟨i,m,?_,(qZ.1 j).1⟩;unfold ai_;rw[f];exact j
theorem np_{l:List Xq}{id:Int}(h:(ai_ l id).2=false):at_ (eK_ id) l = -1:=by
 rcases lk_ (eK_ id) l with⟨_,f⟩|⟨i,x,j,_⟩
 .exact f
 .unfold ai_ at h;rw[j]at h;cases h
theorem sY_{l:List Xq}{next:Int}(h:OkT l next){n:Xq}(f:n∈l):bf_ n.Xv=some (al_ n.Xv 31):=by
 unfold bf_;rw[eY_ (g3_ (h.flds n f))]
def ch_(dir:Int)(name:Str)(n:Xq):Bool:=(n.Xy==dir&&n.Id_ != 1)&&n.Xh==name
def gz_(l:List Xq)(dir:Int)(name:Str):Int×Int:=bif !(ai_ l dir).2 then(0,8)else bif !(al_ (ai_ l dir).1.Xv 31)then(0,9)else bif name==[46,46]then((ai_ l dir).1.Xy,0)else match l.find? (ch_ dir name)with|some c=>(c.Id_,0)|none=>(0,8)
theorem t3_(t:Xk)(dir:Int)(name:Str)(h:t.Xz.length<=2000):ic_ t dir name=some (at_ (ch_ dir name) t.Xz):=by
 unfold ic_;exact aa_ (sa_ t _ (ch_ dir name) (λn=>rfl) h) rfl
theorem ob_(t:Xk)(dir:Int)(name:Str)(h:OkT t.Xz t.Xn):jS_ t dir name=some (gz_ t.Xz dir name):=by
 have j:=h.len;unfold jS_ gz_;refine aa_ (sb_ t dir h) ?_;unfold nz_;cases p:(ai_ t.Xz dir).2 with
 | false=>rfl
 | true =>
  cases m:al_ (ai_ t.Xz dir).1.Xv 31 with
  | false=>rfl
  | true =>
   refine ab_ rfl ?_;cases name==[46,46]with
   | true=>exact aa_ (dw_ t dir (by omega)) rfl
   | false =>
    refine ab_ rfl (aa_ (t3_ t dir name (by omega)) ?_);rw[kH_];cases f:t.Xz.find? (ch_ dir name)with
    | none=>rfl
    | some c=>exact ab_ rfl (aa_ ((mo_ _ _ (by rw[f];rfl)).trans f) rfl)
theorem jr_(t:Xk)(dir:Int)(name:Str)(h:OkT t.Xz t.Xn):gt_ t dir name=some (gz_ t.Xz dir name):=by
 have G:=h.len;obtain⟨r,q,p,x,_⟩:=h.root;unfold gt_ gz_;refine aa_ (aO_ t dir (by omega)) ?_;cases F:(ai_ t.Xz dir).2 with
 | false=>rfl
 | true =>
  refine ab_ rfl (aa_ (sY_ h (aH_ F).1) ?_);cases M:al_ (ai_ t.Xz dir).1.Xv 31 with
  | false=>rfl
  | true =>
   refine ab_ rfl ?_;cases name==[46,46]with
   | true=>rfl
   | false =>
    refine ab_ rfl ?_;have m:=vj_ (body:=jf_ t dir name) t.Xz (λ_ n=>if(n.Xy==dir&&n.Xh==name)then some (n.Id_,(0:Int))else none) 1 (by rw[p];simp) (bz_ (by omega)) (λi hi _=>by
     unfold jf_;rw[bm_ hi,au_ hi,aw_ (by omega)];refine af_ rfl ?_;simp only[qBs];cases t.Xz[i].Xy==dir<;>cases t.Xz[i].Xh==name<;>rfl) (by unfold jf_;rw[bC_];rfl)
    rw[jW_]at m;refine(bT_ m (λ_=>rfl) rfl).trans ?_;have s:(t.Xz.drop 1).find? (λn=>n.Xy==dir&&n.Xh==name)=t.Xz.find? (ch_ dir name):=by
     have f:=h.srt;rw[p]at f ⊢;obtain⟨u,_⟩:=zN.1 f;rw[List.find?_cons];have:ch_ dir name r=false:=by unfold ch_;simp[x]
     rw[this];show q.find? _=q.find? _;have:∀(j:List Xq),(∀n∈j,r.Id_<n.Id_)->j.find? (λn=>n.Xy==dir&&n.Xh==name)=j.find? (ch_ dir name):=by
      intro j
      induction j with
      | nil=>intro _;rfl
      | cons a j C =>
       intro s;have J:=s a (qD ..);have y:(a.Id_ != 1)=true:=by rw[zM];omega
       rw[List.find?_cons,List.find?_cons,C λn D=>s n (qC _ D)];unfold ch_;rw[y,Bool.and_true]
     exact this q u
    rw[s];cases t.Xz.find? (ch_ dir name)<;>rfl
def e4_(l:List Xq)(id:Int):Int:=bif !(ai_ l id).2 then 8 else bif al_ (ai_ l id).1.Xv 31 then 10 else 0
theorem sg_(t:Xk)(id:Int)(h:OkT t.Xz t.Xn):∃i:Int,jT_ t id=some (i,e4_ t.Xz id)/\((e4_ t.Xz id != 0)=false->∃k:Nat,i=(k:Int)/\t.Xz[k]? = some (ai_ t.Xz id).1):=by
 have q:=h.len;unfold jT_ e4_;rw[dE_ t id (by omega)];cases m:(ai_ t.Xz id).2 with
 | false =>
  rw[np_ m];exact⟨0,rfl,λh=>nomatch h⟩
 | true =>
  obtain⟨i,p,f,s⟩:=at_id m;rw[p];cases j:al_ (ai_ t.Xz id).1.Xv 31 with
  | true =>
   refine⟨0,aa_ rfl (ab_ (by simp) (aa_ (a:=(ai_ t.Xz id).1) (by rw[bx_,f]) (aa_ (eQ_ _ (lm_ h id)) ?_))),λh=>nomatch h⟩;rw[j];rfl
  | false =>
   refine⟨(i:Int),aa_ rfl (ab_ (by simp) (aa_ (a:=(ai_ t.Xz id).1) (by rw[bx_,f]) (aa_ (eQ_ _ (lm_ h id)) ?_))),λ_=>⟨i,rfl,f⟩⟩;rw[j];rfl
theorem qZ_(a:Int)(b:Nat)(h:0<=a):br_ a (b:Int)=((min a.toNat b:Nat):Int):=by
 unfold br_;split<;>omega
structure FileOK(s:Xj):Prop where
 us:eZ_ s.Yz=0
 qs:hS_ s.Yx=0
 tr:OkT s.Xg.Xz s.Xg.Xn
 srt:cP_ s.Xa
 exc:∀x∈s.Xa,(ai_ s.Xg.Xz x).2=true/\al_ (ai_ s.Xg.Xz x).1.Xv 29=true
structure SizeOK(s:Xj):Prop where (ul:s.Yz.length<=1000) (um:smallM s.Yz) (us:mq_ s.Yz) (ql:s.Yx.length<=1000) (qs:pY_ s.Yx) (nl:s.Xg.Xz.length<=1024) (el:s.Xa.length<=500)
abbrev ak_(s:Xj)(id:Int):Xq:=(ai_ s.Xg.Xz id).1
abbrev isS(s:Xj)(id:Int):Bool:=(ai_ s.Xg.Xz id).2
def bU_(s:Xj)(user:Str)(id:Int):Int:=bif !(vU user)then 25 else bif !(isS s id)then 8 else 0
def dirC(s:Xj)(user:Str)(id:Int):Int:=bif !(vU user)then 25 else bif !(isS s id)then 8 else bif !(al_ (ak_ s id).Xv 31)then 9 else 0
def mayS(s:Xj)(user:Str)(n:Xq)(want:Int):Bool:=nA_ s.Yz user n.Yg n.Yq n.Xv want
theorem nl2{s:Xj}(z:SizeOK s):s.Xg.Xz.length<=2000:=by have:=z.nl;omega
theorem cj_{s:Xj}(f:FileOK s)(id:Int):(ak_ s id).Xv<=9223372036854775807:=lm_ f.tr id
theorem gA_(x:Int)(f:x<=9223372036854775807):aF_ x 2147483648=some (al_ x 31)/\aF_ x 1073741824=some (al_ x 30)/\aF_ x 536870912=some (al_ x 29)/\aF_ x 64=some (al_ x 6) :=
 ⟨l3_ x 31 (by omega) f,l3_ x 30 (by omega) f,l3_ x 29 (by omega) f,l3_ x 6 (by omega) f⟩
theorem fM_(x:Int)(f:x<=9223372036854775807):aZ_ x 2147483648=some (al_ x 31)/\aZ_ x 1073741824=some (al_ x 30)/\aZ_ x 536870912=some (al_ x 29)/\aZ_ x 64=some (al_ x 6)/\aZ_ x 16=some (al_ x 4) :=
 ⟨cX_ x 31 (by omega) f,cX_ x 30 (by omega) f,cX_ x 29 (by omega) f,cX_ x 6 (by omega) f,cX_ x 4 (by omega) f⟩
theorem pZ_{s:Xj}(z:SizeOK s)(user:Str)(id:Int)(f:user.length<=9223372036854775807):∃n,d9_ s user id=some (n,bU_ s user id)/\(bU_ s user id=0->n=ak_ s id):=by
 unfold d9_ bU_ isS;rw[no_ _ f,dw_ _ _ (nl2 z)];cases vU user with
 | false=>exact⟨_,rfl,λh=>by cases h⟩
 | true =>
  simp only[qBs,jN,qw];cases(ai_ s.Xg.Xz id).2 with
  | false=>exact⟨_,rfl,λh=>by cases h⟩
  | true=>exact⟨_,rfl,λ_=>rfl⟩
theorem sh_{s:Xj}(f:FileOK s)(z:SizeOK s)(user:Str)(id:Int)(q:user.length<=9223372036854775807):∃n,eA_ s user id=some (n,dirC s user id)/\(dirC s user id=0->n=ak_ s id):=by
 obtain⟨n,m,j⟩:=pZ_ z user id q;unfold eA_ dirC;rw[m];unfold bU_ at m j ⊢;cases p:vU user with
 | false=>exact⟨n,rfl,λh=>by cases h⟩
 | true =>
  rw[p]at j;cases hi:isS s id with
  | false=>exact⟨n,rfl,λh=>by cases h⟩
  | true =>
   rw[hi]at j;obtain rfl:=j rfl;refine⟨ak_ s id,aa_ rfl (aa_ (a:=bif !(al_ (ak_ s id).Xv 31)then 9 else 0) (aa_ (a := !(al_ (ak_ s id).Xv 31)) (af_ rfl (aa_ (gA_ _ (cj_ f id)).1 rfl)) ?_) rfl),λ_=>rfl⟩;cases al_ (ak_ s id).Xv 31<;>rfl
theorem may_eq{s:Xj}(z:SizeOK s)(user:Str){n:Xq}(f:n.Xv<=9223372036854775807)(want:Int):eO_ s user n want=some (mayS s user n want):=by
 unfold eO_ mayS;exact aa_ (pX_ _ _ _ _ _ _ z.ul z.um f) rfl
theorem kL_{s:Xj}(f:FileOK s)(z:SizeOK s)(user:Str)(id want:Int):eP_ s user id want=some (isS s id&&mayS s user (ak_ s id) want):=by
 unfold eP_ mayS isS;refine aa_ (aO_ _ _ (nl2 z)) ?_;cases(ai_ s.Xg.Xz id).2 with
 | false=>rfl
 | true=>exact aa_ (aa_ (oR_ _ _ _ _ _ _ z.ul z.um (lm_ f.tr _)) rfl) rfl
theorem t4_{s:Xj}{id:Int}(h:isS s id=true):ak_ s id∈s.Xg.Xz:=(aH_ h).1
def walkS(s:Xj)(user:Str)(id:Int)(name:Str):Int×Int:=bif dirC s user id != 0 then(0,dirC s user id)else bif !(mayS s user (ak_ s id) 1)then(0,11)else gz_ s.Xg.Xz id name
theorem sj_{s:Xj}{user:Str}{id:Int}(h:(dirC s user id != 0)=false):dirC s user id=0/\vU user=true/\isS s id=true/\al_ (ak_ s id).Xv 31=true:=by
 have f:dirC s user id=0:=by simpa using h
 refine⟨f,?_⟩;unfold dirC at f;cases j:vU user with
 | false=>rw[j]at f;cases f
 | true =>
  rw[j]at f;cases hi:isS s id with
  | false=>rw[hi]at f;cases f
  | true =>
   rw[hi]at f;cases m:al_ (ak_ s id).Xv 31 with
   | false=>rw[m]at f;cases f
   | true=>exact⟨rfl,rfl,rfl⟩
theorem walk_eq{s:Xj}(f:FileOK s)(z:SizeOK s)(user:Str)(id:Int)(name:Str)(h:user.length<=9223372036854775807):hB_ s user id name=some (walkS s user id name):=by
 obtain⟨n,p,m⟩:=sh_ f z user id h;unfold hB_ walkS;refine aa_ p ?_;cases j:dirC s user id != 0 with
 | true=>rfl
 | false =>
  obtain rfl:=m (sj_ j).1;refine ab_ rfl (aa_ (may_eq z user (cj_ f _) 1) ?_);cases mayS s user (ak_ s id) 1 with
  | false=>rfl
  | true=>exact ab_ rfl (aa_ (ob_ _ _ _ f.tr) rfl)
structure Keep(t t':Xk)(id:Int):Prop where
 ok:OkT t'.Xz t'.Xn
 is:(ai_ t'.Xz id).2=true
 mode:(ai_ t'.Xz id).1.Xv=(ai_ t.Xz id).1.Xv
theorem Keep.trans{a b c:Xk}{id:Int}(h:Keep a b id)(g:Keep b c id):Keep a c id:=⟨g.ok,g.is,g.mode.trans h.mode⟩
def Sm(l f:List Xq):Prop:=∀x,(ai_ l x).2=true->(ai_ f x).2=true/\(ai_ f x).1.Xv=(ai_ l x).1.Xv
theorem Sm.trans{a b c:List Xq}(h:Sm a b)(g:Sm b c):Sm a c:=λx f=>by
 obtain⟨m,j⟩:=h x f;obtain⟨q,p⟩:=g x m;exact⟨q,p.trans j⟩
structure After(s s':Xj):Prop where
 users:s'.Yz=s.Yz
 quotas:s'.Yx=s.Yx
 tr:OkT s'.Xg.Xz s'.Xg.Xn
 srt:cP_ s'.Xa
 exc:∀x∈s'.Xa,(ai_ s'.Xg.Xz x).2=true/\al_ (ai_ s'.Xg.Xz x).1.Xv 29=true
 nl:s'.Xg.Xz.length<=s.Xg.Xz.length+1
 el:s'.Xa.length<=s.Xa.length+1
theorem After.ok{s s':Xj}(f:FileOK s)(h:After s s'):FileOK s':=⟨by rw[h.users];exact f.us,by rw[h.quotas];exact f.qs,h.tr,h.srt,h.exc⟩
theorem scan_nil{α β:Type}:∀(k:Nat) (l:List α),bk_ (λ_ _=>(none:Option β)) k l=none
 | _,[]=>rfl
 | k,_::l=>scan_nil (k+1) l
theorem mr_{α:Type}{body:Int->Option (Step Int (Out Unit Bool))}(l:List α)(j:l.length<=2000)(h:∀i,i<l.length->body (i:Int)=some (.next ((i+1:Nat):Int)))(f:body (l.length:Int)=some (.done (.fall ()))):am_ body BIG 0=some (.fall ()):=by
 have:=bG_ (body:=body) l (λ_ _=>(none:Option Bool)) (bz_ (by omega)) (λi hi=>h i hi) f;rw[this,scan_nil];rfl
theorem same_texts(l:List Str)(f:l.length<=1000):hm_ l l=some true:=by
 unfold hm_;refine ab_ (by simp) (aa_ (mr_ l (by omega) (λi hi => ?_) ?_) rfl)
 .unfold hF_;rw[bm_ hi,au_ hi,aw_ (by omega)];simp
 .unfold hF_;rw[bC_];rfl
theorem same_users(l:List Xb)(f:l.length<=1000)(hm:smallM l):hn_ l l=some true:=by
 unfold hn_;refine ab_ (by simp) (aa_ (mr_ l (by omega) (λi hi => ?_) ?_) rfl)
 .unfold hG_;rw[bm_ hi,au_ hi,aw_ (by omega)];simp[same_texts _ (hm _ (qr hi))]
 .unfold hG_;rw[bC_];rfl
theorem same_quotas(l:List Xe)(f:l.length<=1000):gs_ l l=some true:=by
 unfold gs_;refine ab_ (by simp) (aa_ (mr_ l (by omega) (λi hi => ?_) ?_) rfl)
 .unfold hb_;rw[bm_ hi,au_ hi,aw_ (by omega)];simp
 .unfold hb_;rw[bC_];rfl
theorem same_tree13(t:Xk)(f:t.Xz.length<=2000):ih_ t t=some true:=by
 unfold ih_;refine ab_ (by simp) (aa_ (mr_ t.Xz (by omega) (λi hi => ?_) ?_) rfl)
 .unfold iC_;rw[bm_ hi,au_ hi,aw_ (by omega)];simp
 .unfold iC_;rw[bC_];rfl
theorem same_ints(l:List Int)(f:l.length<=1000):ii_ l l=some true:=by
 unfold ii_;refine ab_ (by simp) (aa_ (mr_ l (by omega) (λi hi => ?_) ?_) rfl)
 .unfold iD_;rw[bm_ hi,au_ hi,aw_ (by omega)];simp
 .unfold iD_;rw[bC_];rfl
theorem same_eq(s:Xj)(f:s.Yz.length<=1000)(hm:smallM s.Yz)(h:s.Yx.length<=1000)(m:s.Xg.Xz.length<=1000)(j:s.Xa.length<=1000):nd_ s s=some true:=by
 unfold nd_;rw[same_users _ f hm,same_quotas _ h,same_tree13 _ (by omega),same_ints _ j];rfl
end Go.Proofs.YtebokaoegomboaaGreatDoor
