/-
 What the statements of this seat hang on,part 9: Fa0 Ht Va Ho Ha Hb Hc Hd Hs He Hf Hg Hh Hu Hv Hz Hza.
-/
import Derived.Test.YtokncnjohiobcaaGreatDoorXA8
import Derived.KernelRfl
import Derived.Sort.AssemblyPlain
namespace Go.Proofs.YtokncnjohiobcaaGreatDoor
open Go.Rt Go.RowKit
theorem dH_{σ β:Type}{body:σ->tO (Step σ β)}{s f:σ}{n:Nat}{r:tO β}(h:body s=some (.next f))(hr:aj_ body n f=r):aj_ body (n+1) s=r:=by
 simp only[aj_,h];exact hr
theorem bD_{σ β:Type}{body:σ->tO (Step σ β)}{s:σ}{n:Nat}{b:β}(h:body s=some (.done b)):aj_ body (n+1) s=some b:=by
 simp only[aj_,h]
def be_{α β:Type}(g:Nat->α->tO β):Nat->tL α->tO β
 | _,[]=>none
 | i,x::l=>match g i x with
  | some r=>some r
  | none=>be_ g (i+1) l
def outO{β:Type}:tO β->Out Unit β|some r=>.ret r|none=>.fall ()
theorem fg_{i n:Nat}(h:i<n):decide ((i:Int)<(n:Int))=true:=by simpa using h
theorem fD_(n:Nat):decide ((n:Int)<(n:Int))=false:=by simp
theorem aS_{i:Nat}(h:i<9223372036854775807):w64 ((i:Int)+1)=((i+1:Nat):Int):=by
 rw[ao_ ⟨by omega,by omega⟩];rfl
theorem w_pred{i:Nat}(h0:0<i)(h:i<9223372036854775807):w64 ((i:Int)-1)=((i-1:Nat):Int):=by
 rw[ao_ ⟨by omega,by omega⟩];omega
def stepO{β:Type}(o:tO β)(i:Nat):Step Int (Out Unit β):=match o with|some r=>.done (.ret r)|none=>.next ((i+1:Nat):Int)
theorem b8_{α β:Type}{body:Int->tO (Step Int (Out Unit β))}(xs:tL α)(g:Nat->α->tO β)(j:xs.length<BIG)
  (p:∀i (h:i<xs.length),body (i:Int)=some (stepO (g i xs[i]) i))
  (m:body (xs.length:Int)=some (.done (.fall ()))):aj_ body BIG 0=some (outO (be_ g 0 xs)):=by
 refine kG_ (J:=λi s b=>s=(i:Int)/\b=outO (be_ g i (xs.drop i))) xs.length j (λs b f=>?_) (λi s b hi f=>?_) (by simp)
 .obtain⟨rfl,rfl⟩:=f;rw[m];simp[be_,outO]
 .obtain⟨rfl,rfl⟩:=f;rw[p i hi,zM hi];simp only[be_];cases q:g i xs[i]with
  | some r=>exact .inl rfl
  | none=>exact .inr ⟨_,rfl,rfl,rfl⟩
theorem cI_{β:Type}{L:tO (Out Unit β)}{k:Out Unit β->tO β}{o:tO β}{x:β}(h:L=some (outO o))(h1:∀r,k (.ret r)=some r)(f:k (.fall ())=some x):Option.bind L k=some (o.getD x):=by
 subst h;cases o with
 | some r=>exact h1 r
 | none=>exact f
theorem scan_find{α β:Type}(p:α->tV)(f:α->β):∀(k:Nat) (l:tL α),be_ (λ_ x=>if p x then some (f x)else none) k l=(l.find? p).map f
 | _,[]=>rfl
 | k,x::l=>by
  simp only[be_,List.find?_cons];cases p x with
  | true=>rfl
  | false=>exact scan_find p f (k+1) l
theorem scan_idx{α:Type}(p:α->tV):∀(k:Nat) (l:tL α),be_ (λi x=>if p x then some ((i:Nat):Int)else none) k l=(l.findIdx? p).map λi=>((k+i:Nat):Int)
 | _,[]=>rfl
 | k,x::l=>by
  simp only[be_,List.findIdx?_cons];cases p x with
  | true=>rfl
  | false=>
   simp only[zo,if_false];rw[scan_idx p (k+1) l];cases l.findIdx? p with
   | none=>rfl
   | some i=>simp only[qS];congr 2;omega
theorem scan_none{α β:Type}{g:Nat->α->tO β}:∀{k:Nat} {l:tL α},be_ g k l=none↔∀i x,l[i]? = some x->g (k+i) x=none
 | _,[]=>⟨λ_ i x h=>by simp at h,λ_=>rfl⟩
 | k,x::l=>by
  simp only[be_];constructor
  .intro h;split at h
   .cases h
   .rename_i h0;intro i y f;cases i with
    | zero=>simp at f;subst f;exact h0
    | succ i=>have:=(scan_none (k:=k+1)).1 h i y (by simpa using f);rwa [show k+1+i=k+(i+1)by omega]at this
  .intro h;have h0:=h 0 x rfl;rw[zl]at h0;rw[h0];exact scan_none.2 λi y f=>by rw[show k+1+i=k+(i+1)by omega];exact h (i+1) y (by simpa using f)
theorem n9_{α β:Type}{g:Nat->α->tO β}{r:β}:∀{k:Nat} {l:tL α},be_ g k l=some r->∃i x,l[i]? = some x/\g (k+i) x=some r/\∀j y,j<i->l[j]? = some y->g (k+j) y=none
 | _,[],h=>by cases h
 | k,x::l,h=>by
  simp only[be_]at h;split at h
  .rename_i r' h0;obtain rfl:=qSj h;exact⟨0,x,rfl,h0,λj y m=>by omega⟩
  .rename_i h0;obtain⟨i,y,h1,s,p⟩:=n9_ h;refine⟨i+1,y,by simpa using h1,by rw[show k+(i+1)=k+1+i by omega];exact s,λj q m f=>?_⟩;cases j with
   | zero=>simp at f;subst f;exact h0
   | succ j=>rw[show k+(j+1)=k+1+j by omega];exact p j q (by omega) (by simpa using f)
def foldN{α σ:Type}(f:σ->Nat->α->σ):σ->Nat->tL α->σ|s,_,[]=>s|s,i,x::l=>foldN f (f s i x) (i+1) l
theorem loop_foldN{α σ τ β:Type}{body:τ->tO (Step τ β)}(xs:tL α)(f:σ->Nat->α->σ)(mk:Nat->σ->τ)(Inv:Nat->σ->Prop)(fin:σ->β)(s0:σ)(p:xs.length<BIG)(h0:Inv 0 s0)
  (u:∀i s (h:i<xs.length),Inv i s->body (mk i s)=some (.next (mk (i+1) (f s i xs[i])))/\Inv (i+1) (f s i xs[i]))
  (q:∀s,Inv xs.length s->body (mk xs.length s)=some (.done (fin s))):aj_ body BIG (mk 0 s0)=some (fin (foldN f s0 0 xs)):=by
 refine kG_ (J:=λi t b=>∃s,Inv i s/\t=mk i s/\b=fin (foldN f s i (xs.drop i))) xs.length p (λt b j=>?_) (λi t b hi j=>?_) ⟨s0,h0,rfl,by simp⟩
 .obtain⟨s,m,rfl,rfl⟩:=j;rw[q s m];simp[foldN]
 .obtain⟨s,m,rfl,rfl⟩:=j;obtain⟨h1,x⟩:=u i s hi m;rw[zM hi];exact .inr ⟨_,h1,_,x,rfl,rfl⟩
def at_{α:Type}(p:α->tV)(l:tL α):Int:=match l.findIdx? p with|some i=>(i:Int)|none=>-1
theorem pO_{α:Type}(p:α->tV)(l:tL α):(be_ (λi x=>if p x then some ((i:Nat):Int)else none) 0 l).getD (-1)=at_ p l:=by
 rw[scan_idx];unfold at_;cases l.findIdx? p<;>simp
theorem pP_{α:Type}(p:α->tV)(l:tL α):(l.find? p=none/\at_ p l = -1)\/∃(i:Nat) (x:α),l.find? p=some x/\at_ p l=(i:Int)/\l[i]? = some x/\p x=true/\∀j y,j<i->l[j]? = some y->p y=false:=by
 unfold at_;cases h:l.findIdx? p with
 | none=>
  refine .inl ⟨?_,rfl⟩;rw[List.find?_eq_none];intro x hx;rw[List.findIdx?_eq_none_iff]at h;simpa using h x hx
 | some i=>
  obtain⟨m,u,f⟩:=List.findIdx?_eq_some_iff_getElem.1 h;refine .inr ⟨i,l[i],?_,rfl,qQ m,u,λj y q s=>?_⟩
  .rw[List.find?_eq_some_iff_getElem];exact⟨u,i,m,rfl,λj q=>by simpa using f j q⟩
  .have:=f j q;rw[qQ (by omega)]at s;obtain rfl:=qSj s;simpa using this
theorem at_neg{α:Type}(p:α->tV)(l:tL α):decide (at_ p l<0)=(l.find? p).isNone:=by
 rcases pP_ p l with⟨h1,f⟩|⟨i,x,h1,f,_⟩
 .rw[h1,f];rfl
 .rw[h1,f];simp
theorem at_get{α:Type}(p:α->tV)(l:tL α)(h:(l.find? p).isNone=false):ah_ l (at_ p l)=l.find? p:=by
 rcases pP_ p l with⟨h1,f⟩|⟨i,x,h1,f,j,_⟩
 .rw[h1]at h;cases h
 .rw[h1,f,gL_,j]
theorem in_{α:Type}{l:tL α}(h:l.length<=9223372036854775807):l.length<BIG:=by
 have:BIG=18446744073709551616:=rfl;omega
section
variable{α β:Type}{eq:α->α->tV}
theorem vd_:∀{ks:tL α} {vs:tL β} {x:α} {v:β},ks.length=vs.length->(aO_ eq ks x).length=(bd_ eq ks vs x v).length
 | [],vs,x,v,h=>by cases vs with|nil=>rfl|cons a l=>simp at h
 | k::ks,[],x,v,h=>by simp at h
 | k::ks,w::vs,x,v,h=>by
  have f:=vd_ (ks:=ks) (vs:=vs) (x:=x) (v:=v) (by simpa using h);unfold aO_ at f ⊢;simp only[List.any_cons,bd_];cases hx:eq x k with
  | true=>simpa using h
  | false=>
   simp only[zt,zR,qLc];cases j:ks.any (eq x)with
   | true=>rw[j]at f;simp only[zB]at f ⊢;simpa using f
   | false=>rw[j]at f;simp only[zR]at f ⊢;simpa using f
theorem mputK_cons{k x:α}{ks:tL α}(h:eq x k=false):aO_ eq (k::ks) x=k::aO_ eq ks x:=by
 unfold aO_;rw[List.any_cons,h,zt];cases ks.any (eq x)<;>rfl
theorem ve_(f:∀x y,eq x y=true↔x=y):∀{ks:tL α} {vs:tL β} {x y:α} {v d:β},ks.length=vs.length->aH_ eq (aO_ eq ks x) (bd_ eq ks vs x v) y d=bif eq y x then v else aH_ eq ks vs y d
 | [],vs,x,y,v,d,h=>by
  cases vs with
  | nil=>rfl
  | cons a l=>simp at h
 | k::ks,[],x,y,v,d,h=>by simp at h
 | k :: ks,w::vs,x,y,v,d,h=>by
  have j:=ve_ f (ks:=ks) (vs:=vs) (x:=x) (y:=y) (v:=v) (d:=d) (by simpa using h);cases hx:eq x k with
  | true=>
   obtain rfl:=(f x k).1 hx;have e:aO_ eq (x::ks) x=x::ks:=by unfold aO_;rw[List.any_cons,hx];rfl
   rw[e];simp only[bd_,hx,zB,aH_];cases eq y x<;>rfl
  | false=>
   rw[mputK_cons hx];simp only[bd_,hx,zR,aH_];cases m:eq y k with
   | true=>
    obtain rfl:=(f y k).1 m;have:eq y x=false:=by
     cases p:eq y x with
     | false=>rfl
     | true=>rw[(f y x).1 p,(f x x).2 rfl]at hx;cases hx
    rw[this];rfl
   | false=>exact j
end
theorem eqI_iff(x y:Int):eqI x y=true↔x=y:=zQ
theorem nn_{α:Type}{f:tL α}{k:Nat}(d:α)(h0:0<k)(j:k<f.length)(h:f.length<=9223372036854775807):ah_ f (w64 ((k:Int)-1))=some (f.getD (k-1) d):=by
 rw[w_pred h0 (by omega),bb_ (by omega)];simp[qQ (by omega:k-1<f.length)]
theorem lJ_{α:Type}{l:tL α}{i:Nat}(h:i<l.length):l.take (i+1)=l.take i++[l[i]]:=List.take_succ_eq_append_getElem h
def cZ_(x:Int)(k:Nat):tV:=decide (0<=x)&&x.toNat.testBit k
theorem tbit{n k:Nat}:(n/2^k%2==1)=n.testBit k:=by
 rw[Nat.testBit_eq_decide_div_mod_eq,qE];simp
theorem hasI_nat(n k:Nat):cZ_ (n:Int) k=n.testBit k:=by
 unfold cZ_;rw[qTn];simp
theorem hasI_neg{x:Int}(h:x<0)(k:Nat):cZ_ x k=false:=by
 unfold cZ_;have:decide (0<=x)=false:=by simp;omega
 rw[this];rfl
theorem has_div(x:Int)(k:Nat)(_:k<63)(h1:x<=9223372036854775807):(Option.bind (bif decide (x>=0)then Option.bind (eS_ .i64 x ((2^k:Nat):Int)) λ(m:Int)=>some ((m.tmod 2)==1)else some false) λ(j:tV)=>some j)=some (cZ_ x k):=by
 by_cases h0:0<=x
 .obtain⟨n,rfl⟩:∃n:Nat,x=(n:Int):=⟨x.toNat,by omega⟩;have h:=Nat.two_pow_pos k;have s:n/2^k<=n:=Nat.div_le_self _ _;have p:eS_ .i64 (n:Int) ((2^k:Nat):Int)=some ((n/2^k:Nat):Int):=by
   unfold eS_;rw[qG (by omega)];have:(n:Int).tdiv ((2^k:Nat):Int)=((n/2^k:Nat):Int):=rfl;rw[this];generalize n/2^k=q at s;rw[kF_ (n:=(q:Int)) ⟨by omega,by omega⟩]
  have f:decide ((n:Int)>=0)=true:=by simp
  rw[f,p,hasI_nat,←tbit];simp only[zB,qBs];have:((n/2^k:Nat):Int).tmod 2=((n/2^k%2:Nat):Int):=rfl;rw[this]
  congr 1
  rw[qE,zQ,zQ];omega
 .have f:decide (x>=0)=false:=by simp;omega
  rw[f,hasI_neg (by omega)];rfl
theorem has_lit(x:Int)(k:Nat)(p:k<63)(h1:x<=9223372036854775807):(decide (x>=0)&&(((IntKind.i64.wrap (x.tdiv ((2^k:Nat):Int))).tmod 2)==1))=cZ_ x k:=by
 have h:=has_div x k p h1;by_cases h0:0<=x
 .have f:decide (x>=0)=true:=by simp;omega
  rw[f]at h ⊢;have j:=Nat.two_pow_pos k;have m:eS_ .i64 x ((2^k:Nat):Int)=some (IntKind.i64.wrap (x.tdiv ((2^k:Nat):Int))):=by
   unfold eS_;rw[qG (by omega)]
  rw[m]at h;exact qSj h
 .have f:decide (x>=0)=false:=by simp;omega
  rw[f,hasI_neg (by omega)];rfl
theorem oM_(x:Int)(h1:x<=9223372036854775807):b1_ x=some (cZ_ x 31):=qM some (has_lit x 31 (by omega) h1)
def topI(x:Int):Int:=x-x%512
def d1_(x:Int):tV:=decide (0<=x)&&((topI x==0)||(topI x==2147483648)||(topI x==1073741824)||(topI x==536870912)||(topI x==1610612736))
theorem sW_{x:Int}(h:d1_ x=true):0<=x/\x<4294967296:=by
 unfold d1_ topI at h;simp only[qAn,qz,qDe,zQ]at h;omega
theorem top_w{x:Int}(h0:0<=x)(h1:x<=9223372036854775807):w64 (x-(x.tmod 512))=topI x:=by
 obtain⟨n,rfl⟩:∃n:Nat,x=(n:Int):=⟨x.toNat,by omega⟩;have:(n:Int).tmod 512=(n:Int)%512:=rfl;rw[this,ao_ ⟨by omega,by omega⟩];rfl
theorem AF_(x:Int)(h1:x<=9223372036854775807):mm_ x=some (d1_ x):=by
 unfold mm_ d1_;by_cases h0:0<=x
 .have h:decide (x<0)=false:=by simp;omega
  have f:decide (0<=x)=true:=by simpa using h0
  rw[top_w h0 h1,h,f];cases topI x==0<;>cases topI x==2147483648<;>cases topI x==1073741824<;>cases topI x==536870912<;>cases topI x==1610612736<;>rfl
 .have h:decide (x<0)=true:=by simp;omega
  have f:decide (0<=x)=false:=by simp;omega
  rw[h,f];rfl
theorem AG_(x:Int)(h1:x<=9223372036854775807):jr_ x=some (d1_ x):=by
 unfold jr_;by_cases h0:0<=x/\x<4294967296
 .refine am_ (by simp;omega) ?_;rw[top_w h0.1 h1];unfold d1_;have f:decide (0<=x)=true:=by simpa using h0.1
  rw[f];rfl
 .have:d1_ x=false:=by
   cases h:d1_ x with
   | false=>rfl
   | true=>exact absurd (sW_ h) h0
  rw[this];exact an_ (by simp;omega) rfl
theorem no_{x:Int}(h:d1_ x=true):decide (x>=2147483648)=cZ_ x 31:=by
 obtain⟨h0,h1⟩:=sW_ h;obtain⟨n,rfl⟩:∃n:Nat,x=(n:Int):=⟨x.toNat,by omega⟩;rw[hasI_nat,←tbit,qE,qDe,zQ];omega
def lw_(b:UInt8):tV:=decide (33<=b.toNat)&&decide (b.toNat<=126)&&(b.toNat !=47)
def fh_(s:tR):tV:=decide (1<=s.length)&&decide (s.length<=64)&&(s !=[46])&&(s !=[46,46])&&s.all lw_
def gN(_:Nat)(b:UInt8):tO tV:=if lw_ b then none else some false
theorem scan_gN:∀(k:Nat) (s:tR),be_ gN k s=if s.all lw_ then none else some false
 | _,[]=>rfl
 | k,b::s=>by
  have h:=scan_gN (k+1) s;rw[jQ];cases f:lw_ b with
  | true=>
   have h0:gN k b=none:=by unfold gN;rw[f];rfl
   simp only[be_,h0];rw[h,jC]
  | false=>
   have h0:gN k b=some false:=by unfold gN;rw[f];rfl
   simp only[be_,h0];rfl
theorem path_loop(s:tR)(h:s.length<=9223372036854775807):aj_ (iB_ s) BIG 0=some (outO (be_ gN 0 s)):=by
 refine b8_ s gN (in_ h) (λi hi=>?_) ?_
 .unfold iB_;rw[nm_ hi,fg_ hi,aS_ (by omega)];have e:lw_ s[i] = !(decide ((s[i].toNat:Int)<33)||decide ((s[i].toNat:Int)>126)||(s[i].toNat:Int)==47):=by
   unfold lw_;rw[qE];simp only[qAn,qDe,jE,qF,qP,qDf,zw];omega
  unfold gN;rw[e];simp only[zB,qBs];cases decide ((s[i].toNat:Int)<33)<;>cases decide ((s[i].toNat:Int)>126)<;>cases((s[i].toNat:Int)==47)<;>rfl
 .unfold iB_;rw[fD_];rfl
theorem ref03_loop(s:tR)(h:s.length<=9223372036854775807):aj_ (pj_ s) BIG 0=some (outO (be_ gN 0 s)):=by
 rw[←path_loop s h];rfl
theorem path_valid(s:tR)(h:s.length<=9223372036854775807):es_ s=some (fh_ s):=by
 unfold es_ fh_;rw[path_loop s h,scan_gN];have j:(s==[]) = !decide (1<=s.length):=by cases s with|nil=>rfl|cons a l=>rw[qE];simp
 have f:decide ((s.length:Int)>64) = !decide (s.length<=64):=by rw[qE];simp;omega
 rw[j,f];simp only[bne,qBs];cases decide (1<=s.length)<;>cases decide (s.length<=64)<;>cases(s==[46])<;>cases(s==[46,46])<;>cases s.all lw_<;>rfl
theorem uw_(s:tR)(h:s.length<=9223372036854775807):bq_ s=some (fh_ s):=by
 unfold bq_ fh_;rw[ref03_loop s h,scan_gN];have j:decide ((s.length:Int)>=1)=decide (1<=s.length):=by rw[qE,qDe,qDe];omega
 have f:decide ((s.length:Int)<=64)=decide (s.length<=64):=by rw[qE,qDe,qDe];omega
 rw[j,f];simp only[bne,qBs];cases decide (1<=s.length)<;>cases decide (s.length<=64)<;>cases(s==[46])<;>cases(s==[46,46])<;>cases s.all lw_<;>rfl
theorem loop_scan1{α β:Type}{body:Int->tO (Step Int (Out Unit β))}(xs:tL α)(g:Nat->α->tO β)(k:Nat)(y:k<=xs.length)(x:xs.length<BIG)
  (u:∀i (h:i<xs.length),k<=i->body (i:Int)=some (stepO (g i xs[i]) i))
  (q:body (xs.length:Int)=some (.done (.fall ()))):aj_ body BIG (k:Int)=some (outO (be_ g k (xs.drop k))):=by
 have key:∀(n i:Nat),i+n=xs.length->k<=i->aj_ body (n+1) (i:Int)=some (outO (be_ g i (xs.drop i))):=by
  intro n
  induction n with
  | zero=>
   intro i hi _;obtain rfl:i=xs.length:=by omega
   rw[bD_ q];simp[be_,outO]
  | succ n j=>
   intro i hi m;have f:i<xs.length:=by omega
   have h1:=u i f m;rw[zM f];simp only[be_];cases p:g i xs[i]with
   | some r=>rw[p]at h1;exact bD_ h1
   | none=>rw[p]at h1;exact dH_ h1 (j (i+1) (by omega) (by omega))
 have big:∀{σ β:Type} {body:σ->tO (Step σ β)} {n k:Nat} {s:σ} {b:β},aj_ body n s=some b->aj_ body (k+n) s=some b:=by
  intro σ β body n
  induction n with
  | zero=>intro k s b h;cases h
  | succ n j=>
   intro k s b h;rw[show k+(n+1)=(k+n)+1 by omega];simp only[aj_]at h ⊢;split at h
   .exact h
   .exact j h
   .exact h
 have h:=key (xs.length-k) k (by omega) (qA _);rw[show BIG=(BIG-(xs.length-k+1))+(xs.length-k+1)by omega];exact big h
abbrev ms_(id:Int)(n:Xx):tV:=n.Id_==id
def zeroN:Xx:=Xx.mk 0 0 0 [] 0 [] [] [] 0 0 []
def cs_(l:tL Xx)(id:Int):Xx×tV:=match l.find? (ms_ id)with|some n=>(n,true)|none=>(zeroN,false)
theorem yI_(t:Xb)(id:Int)(h:t.Xz.length<=2000):ov_ t id=some (at_ (ms_ id) t.Xz):=by
 rw[←pO_];refine cI_ (b8_ t.Xz _ (in_ (by omega)) (λi hi=>?_) ?_) (λ_=>rfl) rfl
 .unfold kx_;rw[bb_ hi,fg_ hi,aS_ (by omega)];simp only[zB,qBs];unfold ms_;cases t.Xz[i].Id_==id<;>rfl
 .unfold kx_;rw[fD_];rfl
theorem AH_(t:Xb)(id:Int)(h:t.Xz.length<=2000):cD_ t id=some (cs_ t.Xz id):=by
 unfold cD_ cs_;refine ae_ (yI_ t id h) ?_;rw[at_neg];cases f:t.Xz.find? (ms_ id)with
 | none=>rfl
 | some n=>exact am_ rfl (ae_ ((at_get (ms_ id) _ (by rw[f];rfl)).trans f) rfl)
def clockI(x:Int):Int:=bO_ (by_ x 0) 1099511627776
def cJ_(n:Xx):tV:=d1_ n.Xg&&(decide (0<=n.Yz)&&decide (n.Yz<=2147483647))&&(decide (0<=n.Ys)&&decide (n.Ys<=1099511627776))&&(decide (0<=n.Yt)&&decide (n.Yt<=1099511627776))&&(decide (n.Wh.length<=64)&&(decide (n.Wg.length<=64)&&decide (n.Zr.length<=64)))&&decide (n.Xi.length<=65536)&&(!(cZ_ n.Xg 31)||n.Xi==[])
structure OkT(l:tL Xx)(next:Int):Prop where
 srt:l.Pairwise λa b=>a.Id_<b.Id_
 root:∃r q,l=r::q/\r.Id_=1/\r.Xn=1/\r.Xk=[47]/\cZ_ r.Xg 31=true
 flds:∀n∈l,cJ_ n=true
 nam:∀n∈l,n.Id_≠1->fh_ n.Xk=true
 par:∀n∈l,n.Id_≠1->∃p∈l,p.Id_=n.Xn/\p.Id_<n.Id_/\cZ_ p.Xg 31=true
 uniq:∀a∈l,∀b∈l,a.Id_≠1->b.Id_≠1->a.Xn=b.Xn->a.Xk=b.Xk->a.Id_=b.Id_
 nxt:∀n∈l,n.Id_<next
 nx2:next<=1048576
 len:l.length<=1024
theorem io_{n:Xx}(h:cJ_ n=true):d1_ n.Xg=true:=by
 unfold cJ_ at h;simp only[qAn]at h;exact h.1.1.1.1.1.1
theorem OkT.mode{l:tL Xx}{next:Int}(h:OkT l next){n:Xx}(f:n∈l):0<=n.Xg/\n.Xg<4294967296:=sW_ (io_ (h.flds n f))
theorem OkT.ge{l:tL Xx}{next:Int}(h:OkT l next){n:Xx}(f:n∈l):1<=n.Id_:=by
 obtain⟨r,q,rfl,h1,_⟩:=h.root;rcases qV.1 f with rfl|f
 .omega
 .have:=(List.pairwise_cons.1 h.srt).1 n f;omega
theorem id_inj{l:tL Xx}(s:l.Pairwise λa b=>a.Id_<b.Id_){a b:Xx}(p:a∈l)(m:b∈l)(h:a.Id_=b.Id_):a=b:=by
 induction l with
 | nil=>cases p
 | cons x l q=>
  obtain⟨h1,u⟩:=List.pairwise_cons.1 s;rcases qV.1 p with ea|j
  .rcases qV.1 m with eb|f
   .rw[ea,eb]
   .have:=h1 b f;rw[ea]at h;omega
  .rcases qV.1 m with eb|f
   .have:=h1 a j;rw[eb]at h;omega
   .exact q u j f
theorem qU_{l:tL Xx}{id:Int}(h:(cs_ l id).2=true):(cs_ l id).1∈l/\(cs_ l id).1.Id_=id:=by
 unfold cs_ at h ⊢;cases f:l.find? (ms_ id)with
 | none=>rw[f]at h;cases h
 | some n=>exact⟨zX f,by simpa[ms_]using zz f⟩
theorem nodeT_none{l:tL Xx}{id:Int}(h:(cs_ l id).2=false):(∀n∈l,n.Id_≠id)/\(cs_ l id).1=zeroN:=by
 unfold cs_ at h ⊢;cases f:l.find? (ms_ id)with
 | none=>
  rw[List.find?_eq_none]at f;exact⟨λn j e=>f n j (by simpa[ms_]using e),rfl⟩
 | some n=>rw[f]at h;cases h
theorem OkT.hm{l:tL Xx}{next:Int}(h:OkT l next){n:Xx}(f:n∈l):n.Xg<=9223372036854775807:=by have:=h.mode f;omega
theorem node_hm{l:tL Xx}{next:Int}(h:OkT l next)(id:Int):(cs_ l id).1.Xg<=9223372036854775807:=by
 cases f:(cs_ l id).2 with
 | true=>exact h.hm (qU_ f).1
 | false=>rw[(nodeT_none f).2];decide
theorem clock_ne(x:Int):(x !=clockI x)=(decide (x<0)||decide (x>1099511627776)):=by
 unfold clockI bO_ by_;rw[qE];simp only[jE,ne_eq,qz,qDe];split<;>split<;>omega
theorem max3(a b c:Nat)(k:Nat):decide (by_ (by_ (a:Int) (b:Int)) (c:Int)>(k:Int)) = !(decide (a<=k)&&(decide (b<=k)&&decide (c<=k))):=by
 unfold by_;rw[qE];simp only[qDe,qF,zO,qDf];split<;>split<;>omega
theorem clock_le(x:Int):(x !=clockI x) = !(decide (0<=x)&&decide (x<=1099511627776)):=by
 rw[clock_ne,qE];simp only[qz,qDe,qF,zO,qDf];omega
theorem AI_(n:Xx)(hm:n.Xg<=9223372036854775807):jV_ n=some (cJ_ n):=by
 unfold jV_ cJ_;refine ae_ (AF_ _ hm) ?_;have j:decide (n.Yz<0) = !(decide (0<=n.Yz)):=by rw[qE];simp
 have h:decide (n.Yz>2147483647) = !(decide (n.Yz<=2147483647)):=by rw[qE];simp
 rw[j,h];cases d1_ n.Xg with
 | false=>rfl
 | true=>
  cases decide (0<=n.Yz)with
  | false=>rfl
  | true=>
   cases decide (n.Yz<=2147483647)with
   | false=>rfl
   | true=>
    refine ae_ (a:=n.Ys !=clockI n.Ys) rfl ?_;rw[clock_le n.Ys];cases decide (0<=n.Ys)&&decide (n.Ys<=1099511627776)with
    | false=>rfl
    | true=>
     refine ae_ (a:=n.Yt !=clockI n.Yt) rfl ?_;rw[clock_le n.Yt];cases decide (0<=n.Yt)&&decide (n.Yt<=1099511627776)with
     | false=>rfl
     | true=>
      refine am_ rfl ?_;rw[show(64:Int)=((64:Nat):Int)from rfl,max3];cases decide (n.Wh.length<=64)&&(decide (n.Wg.length<=64)&&decide (n.Zr.length<=64))with
      | false=>rfl
      | true=>
       have f:decide ((n.Xi.length:Int)>65536) = !(decide (n.Xi.length<=65536)):=by rw[qE];simp;omega
       rw[f];cases decide (n.Xi.length<=65536)with
       | false=>rfl
       | true=>exact am_ rfl (ae_ (oM_ _ hm) (by simp))
def okNodeD(D:tV)(n:Xx):tV:=d1_ n.Xg&&(decide (0<=n.Yz)&&decide (n.Yz<=2147483647))&&(decide (0<=n.Ys)&&decide (n.Ys<=1099511627776))&&(decide (0<=n.Yt)&&decide (n.Yt<=1099511627776))&&(decide (n.Wh.length<=64)&&(decide (n.Wg.length<=64)&&decide (n.Zr.length<=64)))&&decide (n.Xi.length<=65536)&&(!D||n.Xi==[])
theorem oa_(n:Xx)(hm:n.Xg<=9223372036854775807):gv_ n=some (cJ_ n):=by
 have C:cJ_ n=okNodeD (decide (n.Xg>=2147483648)) n:=by
  unfold cJ_ okNodeD;cases h:d1_ n.Xg with
  | false=>simp
  | true=>rw[no_ h]
 rw[C];unfold gv_ okNodeD;refine ae_ (AG_ _ hm) ?_;have y:decide (n.Yz<0) = !(decide (0<=n.Yz)):=by rw[qE];simp
 have x:decide (n.Yz>2147483647) = !(decide (n.Yz<=2147483647)):=by rw[qE];simp
 have u:decide (n.Ys<0) = !(decide (0<=n.Ys)):=by rw[qE];simp
 have q:decide (n.Ys>1099511627776) = !(decide (n.Ys<=1099511627776)):=by rw[qE];simp
 have p:decide (n.Yt<0) = !(decide (0<=n.Yt)):=by rw[qE];simp
 have m:decide (n.Yt>1099511627776) = !(decide (n.Yt<=1099511627776)):=by rw[qE];simp
 have f:∀s:tR,decide ((s.length:Int)>64) = !(decide (s.length<=64)):=λs=>by rw[qE];simp;omega
 have j:decide ((n.Xi.length:Int)>65536) = !(decide (n.Xi.length<=65536)):=by rw[qE];simp;omega
 rw[y,x,u,q,p,m,f,f,f,j];cases d1_ n.Xg<;>cases decide (0<=n.Yz)<;>cases decide (n.Yz<=2147483647)<;>cases decide (0<=n.Ys)<;>cases decide (n.Ys<=1099511627776)<;>cases decide (0<=n.Yt)<;>cases decide (n.Yt<=1099511627776)<;>try rfl
 cases decide (n.Wh.length<=64)<;>cases decide (n.Wg.length<=64)<;>cases decide (n.Zr.length<=64)<;>cases decide (n.Xi.length<=65536)<;>rfl
def eQ_(l:tL Xx)(i:Nat):Xx:=l.getD (i-1) zeroN
def cS_(a b:Xx):tV:=a.Xn==b.Xn&&a.Xk==b.Xk
def StepOK(l:tL Xx)(i:Nat)(n:Xx):Prop:=(eQ_ l i).Id_<n.Id_/\fh_ n.Xk=true/\(∃p∈l.take i,p.Id_=n.Xn/\cZ_ p.Xg 31=true)/\∀c∈(l.take i).drop 1,cS_ c n=false
def RootOK(n:Xx):Prop:=n.Id_=1/\n.Xn=1/\n.Xk=[47]/\cZ_ n.Xg 31=true
theorem mem_take{α:Type}{l:tL α}{i:Nat}{x:α}:x∈l.take i↔∃j,j<i/\l[j]? = some x:=by
 rw[qH];constructor
 .rintro⟨j,f⟩;rw[qx]at f;split at f
  .exact⟨j,by assumption,f⟩
  .cases f
 .rintro⟨j,h1,h⟩;exact⟨j,by rw[qx,qY h1];exact h⟩
theorem mem_take_drop{α:Type}{l:tL α}{i:Nat}{x:α}:x∈(l.take i).drop 1↔∃j,0<j/\j<i/\l[j]? = some x:=by
 rw[qH];constructor
 .rintro⟨j,f⟩;rw[qo,qx]at f;split at f
  .exact⟨1+j,by omega,by assumption,f⟩
  .cases f
 .rintro⟨j,h0,h1,h⟩;exact⟨j-1,by rw[qo,qx,show 1+(j-1)=j by omega,qY h1];exact h⟩
theorem sZ_{l:tL Xx}{i:Nat}(h0:0<i)(hi:i<l.length):l[i-1]? = some (eQ_ l i):=by
 unfold eQ_;rw[za,qQ (by omega)];rfl
theorem srt_iff{l:tL Xx}:(l.Pairwise λa b=>a.Id_<b.Id_)↔∀i n,0<i->l[i]? = some n->(eQ_ l i).Id_<n.Id_:=by
 rw[qr];constructor
 .intro h i n h0 p;obtain⟨hi,rfl⟩:=qK.1 p;have:=sZ_ h0 hi;obtain⟨_,e⟩:=qK.1 this;rw[←e];exact h _ _ _ _ (by omega)
 .intro h;have key:∀(d i:Nat) (f:i+d+1<l.length),(l[i]'(by omega)).Id_<(l[i+d+1]'f).Id_:=by
   intro d
   induction d with
   | zero=>
    intro i f;have:=h (i+1) _ (by omega) (qQ (by omega));have e:=sZ_ (l:=l) (i:=i+1) (by omega) (by omega);obtain⟨_,e⟩:=qK.1 e;rw[←e]at this;exact this
   | succ d m=>
    intro i f;have h1:=m i (by omega);have:=h (i+d+1+1) _ (by omega) (qQ (by omega));have e:=sZ_ (l:=l) (i:=i+d+1+1) (by omega) (by omega);obtain⟨_,e⟩:=qK.1 e;rw[←e]at this;simp only[Nat.add_sub_cancel]at this;exact Int.lt_trans h1 this
  intro i j hi f q;have:=key (j-i-1) i (by omega);simpa[show i+(j-i-1)+1=j by omega]using this
theorem OkT_iff{l:tL Xx}{next:Int}:OkT l next↔1<=l.length/\l.length<=1024/\next<=1048576/\(∀n,l[0]? = some n->RootOK n)/\(∀n∈l,cJ_ n=true)/\(∀n∈l,n.Id_<next)/\∀i n,0<i->l[i]? = some n->StepOK l i n:=by
 constructor
 .intro h;have s:∀{i:Nat} {n:Xx},l[i]? = some n->n∈l:=λh=>qH.2 ⟨_,h⟩
  have lt:∀{i j:Nat} {a b:Xx},l[i]? = some a->l[j]? = some b->a.Id_<b.Id_->i<j:=fun{i j a b} y u C=>by
   rcases Nat.lt_trichotomy i j with h1|h1|h1
   .exact h1
   .subst h1;rw[y]at u;cases u;omega
   .have:=qr.1 h.srt j i (qK.1 u).1 (qK.1 y).1 h1;rw[(qK.1 y).2,(qK.1 u).2]at this;omega
  have gt:∀{i j:Nat} {a b:Xx},l[i]? = some a->l[j]? = some b->i<j->a.Id_<b.Id_:=fun{i j a b} y u C=>by
   have:=qr.1 h.srt i j (qK.1 y).1 (qK.1 u).1 C;rw[(qK.1 y).2,(qK.1 u).2]at this;exact this
  obtain⟨r,q,Y,hr⟩:=h.root;have h0:l[0]? = some r:=by rw[Y];rfl
  refine⟨by rw[Y];simp,h.len,h.nx2,λn f=>?_,h.flds,h.nxt,λi n hi f=>?_⟩
  .rw[h0]at f;cases f;exact hr
  .have h1:n.Id_≠1:=by have:=gt h0 f hi;rw[hr.1]at this;omega
   refine⟨srt_iff.1 h.srt i n hi f,h.nam n (s f) h1,?_,λc hc=>?_⟩
   .obtain⟨p,V,U,p3,Z⟩:=h.par n (s f) h1;obtain⟨j,m⟩:=qH.1 V;exact⟨p,mem_take.2 ⟨j,lt m f p3,m⟩,U,Z⟩
   .obtain⟨j,j0,j1,m⟩:=mem_take_drop.1 hc;cases M:cS_ c n with
    | false=>rfl
    | true=>
     unfold cS_ at M;rw[qAn,zQ,zQ]at M;have c1:c.Id_≠1:=by have:=gt h0 m j0;rw[hr.1]at this;omega
     have:=h.uniq c (s m) n (s f) c1 h1 M.1 M.2;have:=gt m f j1;omega
 .rintro⟨h1,h2,h3,h4,h5,h6,J⟩;have srt:l.Pairwise λa b=>a.Id_<b.Id_:=srt_iff.2 λi n hi f=>(J i n hi f).1
  have gt:∀{i j:Nat} {a b:Xx},l[i]? = some a->l[j]? = some b->i<j->a.Id_<b.Id_:=fun{i j a b} y u C=>by
   have:=qr.1 srt i j (qK.1 y).1 (qK.1 u).1 C;rw[(qK.1 y).2,(qK.1 u).2]at this;exact this
  cases l with
  | nil=>exact absurd h1 (by simp)
  | cons r q=>
   have hr:=h4 r rfl;have pos:∀{i:Nat} {n:Xx},(r::q)[i]? = some n->n.Id_≠1->0<i:=fun{i n} f x=>by
    rcases qg i with rfl|h0
    .cases f;exact absurd hr.1 x
    .exact h0
   refine⟨srt,⟨r,q,rfl,hr⟩,h5,λn f x=>?_,λn f x=>?_,λa y b u G F O D=>?_,h6,h3,h2⟩
   .obtain⟨i,hi⟩:=qH.1 f;exact(J i n (pos hi x) hi).2.1
   .obtain⟨i,hi⟩:=qH.1 f;obtain⟨p,O,V,U⟩:=(J i n (pos hi x) hi).2.2.1;obtain⟨j,m,e⟩:=mem_take.1 O;exact⟨p,qH.2 ⟨_,e⟩,V,gt e hi m,U⟩
   .obtain⟨i,hi⟩:=qH.1 y;obtain⟨j,m⟩:=qH.1 u;rcases Nat.lt_trichotomy i j with h|h|h
    .have:=(J j b (pos m F) m).2.2.2 a (mem_take_drop.2 ⟨i,pos hi G,h,hi⟩);unfold cS_ at this;rw[O,D]at this;simp at this
    .subst h;rw[hi]at m;cases m;rfl
    .have:=(J i a (pos hi G) hi).2.2.2 b (mem_take_drop.2 ⟨j,pos m F,h,m⟩);unfold cS_ at this;rw[O,D]at this;simp at this
def CntP{κ α:Type}(eq:κ -> κ -> tV)(P:κ -> α->tV)(ks:tL κ)(vs:tL Int)(l:tL α):Prop:=ks.length=vs.length/\∀k,aH_ eq ks vs k 0=((l.countP (P k):Nat):Int)
theorem CntP.nil{κ α:Type}{eq:κ -> κ -> tV}{P:κ -> α->tV}:CntP eq P [] [] []:=⟨rfl,λ_=>by simp[aH_]⟩
theorem CntP.put{κ α:Type}{eq:κ -> κ -> tV}{P:κ -> α->tV}(f:∀x y,eq x y=true↔x=y){ks:tL κ}{vs:tL Int}{l:tL α}(h:CntP eq P ks vs l){x:α}{key:κ}(hx:∀k,P k x=eq k key)(m:l.length<=2000) :
  CntP eq P (aO_ eq ks key) (bd_ eq ks vs key (w64 (aH_ eq ks vs key 0+1))) (l++[x]):=by
 refine⟨vd_ h.1,λn=>?_⟩;have q:=List.countP_le_length (p:=P key) (l:=l);rw[ve_ f h.1,h.2 key,h.2 n,aS_ (by omega),List.countP_append];have e:List.countP (P n) [x]=if eq n key then 1 else 0:=by simp[List.countP_cons,hx]
 rw[e];cases j:eq n key with
 | true=>obtain rfl:=(f _ _).1 j;rfl
 | false=>rfl
theorem CntP.skip{κ α:Type}{eq:κ -> κ -> tV}{P:κ -> α->tV}{ks:tL κ}{vs:tL Int}{l:tL α}(h:CntP eq P ks vs l){x:α}(hx:∀k,P k x=false):CntP eq P ks vs (l++[x]):=
 ⟨h.1,λk=>by rw[h.2 k,List.countP_append];simp[hx]⟩
theorem CntP.put2{κ α:Type}{eq:κ -> κ -> tV}{P:κ -> α->tV}(f:∀x y,eq x y=true↔x=y){ks:tL κ}{vs:tL Int}{l:tL α}(h:CntP eq P ks vs l){x:α}{key:κ}(hx:∀k,P k x=eq k key)(m:l.length<=2000) :
  CntP eq P (aO_ eq (aO_ eq ks key) key) (bd_ eq (aO_ eq ks key) (bd_ eq ks vs key (aH_ eq ks vs key 0)) key (w64 (aH_ eq ks vs key 0+1))) (l++[x]) /\
  aH_ eq (aO_ eq ks key) (bd_ eq ks vs key (aH_ eq ks vs key 0)) key 0=aH_ eq ks vs key 0:=by
 have e:∀n,aH_ eq (aO_ eq ks key) (bd_ eq ks vs key (aH_ eq ks vs key 0)) n 0=aH_ eq ks vs n 0:=λn=>by
  rw[ve_ f h.1];cases j:eq n key with
  | true=>obtain rfl:=(f _ _).1 j;rfl
  | false=>rfl
 have p:CntP eq P (aO_ eq ks key) (bd_ eq ks vs key (aH_ eq ks vs key 0)) l:=⟨vd_ h.1,λn=>by rw[e];exact h.2 n⟩;refine⟨?_,e key⟩;have:=p.put f hx m;rw[e key]at this;exact this
theorem CntP.zero{κ α:Type}{eq:κ -> κ -> tV}{P:κ -> α->tV}{ks:tL κ}{vs:tL Int}{l:tL α}(h:CntP eq P ks vs l)(k:κ):(aH_ eq ks vs k 0==0) = !(l.any (P k)):=by
 rw[h.2 k,qE,zQ,qF,List.any_eq_false];have:((l.countP (P k):Nat):Int)=0↔l.countP (P k)=0:=by omega
 rw[this,List.countP_eq_zero]
theorem CntP.pos{κ α:Type}{eq:κ -> κ -> tV}{P:κ -> α->tV}{ks:tL κ}{vs:tL Int}{l:tL α}(h:CntP eq P ks vs l)(k:κ):decide (aH_ eq ks vs k 0>0)=l.any (P k):=by
 rw[h.2 k,qE,qDe,zy];have:((l.countP (P k):Nat):Int)>0↔0<l.countP (P k):=by omega
 rw[this,List.countP_pos_iff]
def dirP(k:Int)(n:Xx):tV:=k==n.Id_&&cZ_ n.Xg 31
abbrev eqPl(a b:Xh):tV:=decide (a=b)
def plP(k:Xh)(n:Xx):tV:=eqPl k (Xh.mk n.Xn n.Xk)
theorem plP_same(c n:Xx):plP (Xh.mk n.Xn n.Xk) c=cS_ c n:=by
 unfold plP cS_ eqPl;rw[qE];simp only[qDe,Xh.mk.injEq,qAn,zQ];exact⟨λ⟨h1,f⟩=>⟨h1.symm,f.symm⟩,λ⟨h1,f⟩=>⟨h1.symm,f.symm⟩⟩
def okAt(l:tL Xx)(i:Nat)(n:Xx):tV:=bif i==0 then n.Id_==1&&(n.Xn==1&&(n.Xk==[47]&&cZ_ n.Xg 31))else fh_ n.Xk&&((l.take i).any (dirP n.Xn) && !(((l.take i).drop 1).any (plP (Xh.mk n.Xn n.Xk))))
def tB(l:tL Xx)(next:Int)(i:Nat)(n:Xx):tV:=cJ_ n&&(decide (n.Id_<next)&&((i==0||decide ((eQ_ l i).Id_<n.Id_))&&okAt l i n))
def gT(l:tL Xx)(next:Int)(i:Nat)(n:Xx):tO tV:=if tB l next i n then none else some false
theorem pQ_{l:tL Xx}{i:Nat}(hi:i<l.length)(h0:0<i):(l.take (i+1)).drop 1=(l.take i).drop 1++[l[i]]:=by
 rw[lJ_ hi,List.drop_append,qX,show(1-min i l.length)=0 by omega];rfl
theorem xj_(t:Xb)(i:Nat)(hi:i<t.Xz.length)(hl:t.Xz.length<=1024)(hm:∀n∈t.Xz,n.Xg<=9223372036854775807/\n.Xk.length<=9223372036854775807){dk:tL Int}{dv:tL Int}{pk:tL Xh}{pv:tL Int}
  (h1:CntP eqI dirP dk dv (t.Xz.take i)) (h2:CntP eqPl plP pk pv ((t.Xz.take i).drop 1)) :
  (tB t.Xz t.Xf i t.Xz[i]=false/\cf_ t ((i:Int),dk,dv,pk,pv)=some (.done (.ret false))) \/
  (tB t.Xz t.Xf i t.Xz[i]=true/\∃dk' dv' pk' pv',cf_ t ((i:Int),dk,dv,pk,pv)=some (.next (((i+1:Nat):Int),dk',dv',pk',pv'))/\CntP eqI dirP dk' dv' (t.Xz.take (i+1))/\CntP eqPl plP pk' pv' ((t.Xz.take (i+1)).drop 1)):=by
 have C:=zU hi;obtain⟨s,ZZ⟩:=hm _ C;unfold cf_;simp only;rw[fg_ hi,bb_ hi,aS_ (by omega)];simp only[zB,qBs];rw[AI_ _ s];simp only[qBs];have Z:decide (t.Xz[i].Id_>=t.Xf) = !(decide (t.Xz[i].Id_<t.Xf)):=by rw[qE];simp
 rw[Z];have u:t.Xz.take (i+1)=t.Xz.take i++[t.Xz[i]]:=lJ_ hi;have f:∀{A B:tO (Out ((tL Int)×(tL Int)×(tL Xh)×(tL Int)) tV)},(Option.bind (b1_ t.Xz[i].Xg) λ(J:tV)=>bif J then A else B)=bif cZ_ t.Xz[i].Xg 31 then A else B:=by
  intro A B;rw[oM_ _ s];rfl
 -- the directories counted after this node
 have hD:∃dk' dv',(∀(p q:_),(bif cZ_ t.Xz[i].Xg 31 then some (.fall (aO_ eqI dk t.Xz[i].Id_,bd_ eqI dk dv t.Xz[i].Id_ (w64 (aH_ eqI dk dv t.Xz[i].Id_ 0+1)),p,q))else some (.fall (dk,dv,p,q)):tO (Out ((tL Int)×(tL Int)×(tL Xh)×(tL Int)) tV))=some (.fall (dk',dv',p,q)))/\CntP eqI dirP dk' dv' (t.Xz.take (i+1)):=by
  rw[u];cases hh:cZ_ t.Xz[i].Xg 31 with
  | true=>exact⟨_,_,λp q=>rfl,h1.put eqI_iff (λk=>by unfold dirP eqI;rw[hh,Bool.and_true]) (by rw[qX];omega)⟩
  | false=>exact⟨dk,dv,λp q=>rfl,h1.skip (λk=>by unfold dirP;rw[hh,Bool.and_false])⟩
 obtain⟨dk',dv',G,F⟩:=hD;cases j:cJ_ t.Xz[i]with
 | false=>exact .inl ⟨by unfold tB;rw[j];rfl,rfl⟩
 | true=>
  cases hx:decide (t.Xz[i].Id_<t.Xf)with
  | false=>exact .inl ⟨by unfold tB;rw[j,hx];rfl,rfl⟩
  | true=>
   simp only[Bool.not_true,Bool.or_self,zR];rcases qg i with rfl|h0
   .
    have e0:decide (((0:Nat):Int)>0)=false:=rfl;have e1:(((0:Nat):Int)==0)=true:=rfl;rw[e0,e1];simp only[zR,zB,qBs];have h:(Option.bind (bif(((t.Xz[0].Id_ !=1)||(t.Xz[0].Xn !=1))||(!(t.Xz[0].Xk==[47])))then some true else Option.bind (b1_ t.Xz[0].Xg) λ(Y:tV)=>some (!Y)) λ(V:tV)=>(bif V then some (.ret (false))else some (.fall ())):tO (Out Unit tV))=bif okAt t.Xz 0 t.Xz[0]then some (.fall ())else some (.ret false):=by
     rw[oM_ _ s];unfold okAt bne;simp only[qBs];cases t.Xz[0].Id_==1<;>cases t.Xz[0].Xn==1<;>cases t.Xz[0].Xk==[47]<;>cases cZ_ t.Xz[0].Xg 31<;>rfl
    rw[h];cases D:okAt t.Xz 0 t.Xz[0]with
    | false=>exact .inl ⟨by unfold tB;rw[j,hx,D];rfl,rfl⟩
    | true=>
     refine .inr ⟨by unfold tB;rw[j,hx,D];rfl,dk',dv',pk,pv,?_,F,?_⟩
     .simp only[zB,qBs];rw[f,G];rfl
     .have e:(t.Xz.take (0+1)).drop 1=(t.Xz.take 0).drop 1:=by rw[u];simp
      rw[e];exact h2
   .have e0:decide ((i:Int)>0)=true:=by simpa using h0
    have e1:((i:Int)==0)=false:=by simp;omega
    have e2:(i==0)=false:=by simp;omega
    have hp:ah_ t.Xz (w64 ((i:Int)-1))=some (eQ_ t.Xz i):=nn_ zeroN h0 hi (by omega);rw[e0,e1,hp];have ZY:decide (t.Xz[i].Id_<=(eQ_ t.Xz i).Id_) = !(decide ((eQ_ t.Xz i).Id_<t.Xz[i].Id_)):=by rw[qE];simp
    simp only[zB,qBs];rw[ZY];cases hs:decide ((eQ_ t.Xz i).Id_<t.Xz[i].Id_)with
    | false=>exact .inl ⟨by unfold tB;rw[j,hx,hs,e2];rfl,rfl⟩
    | true=>
     simp only[Bool.not_true,zR];have m:(Option.bind (es_ t.Xz[i].Xk) λ(U:tV)=>Option.bind (bif(!U)then some true else some ((aH_ eqI dk dv t.Xz[i].Xn 0)==0)) λ(O:tV)=>Option.bind (bif O then some true else some (decide ((aH_ (λ(a b:Xh)=>decide (a=b)) pk pv (Xh.mk t.Xz[i].Xn t.Xz[i].Xk) 0)>0))) λ(M:tV)=>(bif M then some (.ret (false))else some (.fall ())):tO (Out Unit tV))=bif okAt t.Xz i t.Xz[i]then some (.fall ())else some (.ret false):=by
      rw[path_valid _ ZZ];unfold okAt;rw[h1.zero,e2];have:=h2.pos (Xh.mk t.Xz[i].Xn t.Xz[i].Xk);unfold eqPl at this;rw[this];simp only[qBs,zR];cases fh_ t.Xz[i].Xk<;>cases(t.Xz.take i).any (dirP t.Xz[i].Xn)<;>cases((t.Xz.take i).drop 1).any (plP (Xh.mk t.Xz[i].Xn t.Xz[i].Xk))<;>rfl
     rw[m];cases D:okAt t.Xz i t.Xz[i]with
     | false=>exact .inl ⟨by unfold tB;rw[j,hx,D];simp,rfl⟩
     | true=>
      obtain⟨c1,c2⟩:=h2.put2 (x:=t.Xz[i]) (key:=Xh.mk t.Xz[i].Xn t.Xz[i].Xk) (λx y=>decide_eq_true_iff) (λk=>rfl) (by rw[qk,qX];omega);refine .inr ⟨by unfold tB;rw[j,hx,D,hs];simp,dk',dv',_,_,?_,F,by rw[pQ_ hi h0];exact c1⟩;simp only[zB,qBs];rw[c2,bothC_self];simp only[qBs];rw[f,G];rfl
theorem xk_(t:Xb)(p:t.Xz.length<=1024)(hm:∀n∈t.Xz,n.Xg<=9223372036854775807/\n.Xk.length<=9223372036854775807) :
  aj_ (cf_ t) BIG (0,([]:tL Int),([]:tL Int),([]:tL Xh),([]:tL Int))=some (outO (be_ (gT t.Xz t.Xf) 0 t.Xz)):=by
 refine kG_ (body:=cf_ t) (J:=λi s b=>∃dk dv pk pv,s=((i:Int),dk,dv,pk,pv)/\CntP eqI dirP dk dv (t.Xz.take i)/\CntP eqPl plP pk pv ((t.Xz.take i).drop 1)/\b=outO (be_ (gT t.Xz t.Xf) i (t.Xz.drop i))) t.Xz.length (in_ (by omega)) (λs b h=>?_) (λi s b hi h=>?_) ⟨[],[],[],[],rfl,CntP.nil,by simp[CntP.nil],by simp⟩
 .obtain⟨dk,dv,pk,pv,rfl,_,_,rfl⟩:=h;unfold cf_;simp only;rw[fD_];simp[be_,outO]
 .obtain⟨dk,dv,pk,pv,rfl,h1,q,rfl⟩:=h;rw[zM hi];rcases xj_ t i hi p hm h1 q with⟨f,hr⟩|⟨f,dk',dv',pk',pv',hr,m,j⟩
  .exact .inl (by rw[hr];simp[be_,gT,f,outO])
  .exact .inr ⟨_,hr,dk',dv',pk',pv',rfl,m,j,by simp[be_,gT,f]⟩
theorem qW_{α:Type}{g:Nat->α->tO tV}{p:Nat->α->tV}(m:∀i x,g i x=if p i x then none else some false)(l:tL α)(k:Nat):(be_ g k l).getD true=true↔∀i x,l[i]? = some x->p (k+i) x=true:=by
 cases j:be_ g k l with
 | none=>
  refine⟨λ_ i x hx=>?_,λ_=>rfl⟩;have:=scan_none.1 j i x hx;rw[m]at this;cases f:p (k+i) x with
  | true=>rfl
  | false=>rw[f]at this;cases this
 | some r=>
  obtain⟨i,x,hx,h1,_⟩:=n9_ j;rw[m]at h1;cases f:p (k+i) x with
  | true=>rw[f]at h1;cases h1
  | false=>
   rw[f]at h1;obtain rfl:false=r:=by cases h1;rfl
   refine⟨λh=>(nomatch h),λh=>?_⟩;rw[h i x hx]at f;cases f
theorem yL_(t:Xb)(D:t.Xz.length<=1024)(hm:∀n∈t.Xz,n.Xg<=9223372036854775807/\n.Xk.length<=9223372036854775807):∃b,fy_ t=some b/\(b=true↔OkT t.Xz t.Xf):=by
 unfold fy_;cases x:(decide ((t.Xz.length:Int)<1)||decide ((t.Xz.length:Int)>1024))||(decide (t.Xf>1048576))with
 | true=>
  refine⟨false,an_ rfl rfl,λh=>(nomatch h),λh=>?_⟩;obtain⟨h1,J,m,_⟩:=OkT_iff.1 h;simp only[qz,qDe]at x;omega
 | false=>
  simp only[qP,qDf]at x;refine⟨(be_ (gT t.Xz t.Xf) 0 t.Xz).getD true,am_ rfl (cI_ (xk_ t D hm) (λ_=>rfl) rfl),?_⟩;rw[qW_ (g:=gT t.Xz t.Xf) (p:=tB t.Xz t.Xf) (λ_ _=>rfl),OkT_iff];simp only[qj];have tk:∀i (n:Xx),tB t.Xz t.Xf i n=true↔cJ_ n=true/\n.Id_<t.Xf/\(i=0\/(eQ_ t.Xz i).Id_<n.Id_)/\okAt t.Xz i n=true:=λi n=>by
   unfold tB;simp only[qAn,qz,qDe,zQ]
  have j:∀n,okAt t.Xz 0 n=true↔RootOK n:=λn=>by
   unfold okAt RootOK;simp only[beq_self_eq_true,zB,qAn,zQ]
  have okS:∀i n,0<i->(okAt t.Xz i n=true↔fh_ n.Xk=true/\(∃p∈t.Xz.take i,p.Id_=n.Xn/\cZ_ p.Xg 31=true)/\∀c∈(t.Xz.take i).drop 1,cS_ c n=false):=λi n h0=>by
   unfold okAt;rw[show(i==0)=false by simp;omega];simp only[zR,qAn,qF,zy,List.any_eq_false,plP_same,dirP,zQ,zm];constructor
   .rintro⟨h1,⟨p,u,s,q⟩,m⟩;exact⟨h1,⟨p,u,s.symm,q⟩,m⟩
   .rintro⟨h1,⟨p,u,s,q⟩,m⟩;exact⟨h1,⟨p,u,s.symm,q⟩,m⟩
  constructor
  .intro h;refine⟨by omega,by omega,by omega,λn f=>(j n).1 ((tk 0 n).1 (h 0 n f)).2.2.2,λn f=>?_,λn f=>?_,λi n h0 f=>?_⟩
   .obtain⟨i,hi⟩:=qH.1 f;exact((tk i n).1 (h i n hi)).1
   .obtain⟨i,hi⟩:=qH.1 f;exact((tk i n).1 (h i n hi)).2.1
   .obtain⟨a,b,c,d⟩:=(tk i n).1 (h i n f);exact⟨c.resolve_left (by omega),(okS i n h0).1 d⟩
  .rintro⟨h1,J,m,G,C,y,F⟩ i n f;have hm:=qH.2 ⟨_,f⟩;rcases qg i with rfl|h0
   .exact(tk 0 n).2 ⟨C n hm,y n hm,.inl rfl,(j n).2 (G n f)⟩
   .obtain⟨a,b⟩:=F i n h0 f;exact(tk i n).2 ⟨C n hm,y n hm,.inr a,(okS i n h0).2 b⟩
def dirD(n c:Xx):tV:=c.Id_==n.Xn&&decide (c.Xg>=2147483648)
theorem ref10_inner(t:Xb)(i:Nat)(hi:i<t.Xz.length)(D:t.Xz.length<=1024) :
  aj_ (dR_ (i:Int) t) BIG (false,0)=some (bif((t.Xz.take i).drop 1).any (λc=>cS_ c t.Xz[i])then .ret false else .fall ((t.Xz.take i).any (dirD t.Xz[i]))):=by
 refine kG_ (body:=dR_ (i:Int) t) (J:=λj s b=>j<=i/\s=((t.Xz.take j).any (dirD t.Xz[i]),(j:Int))/\((t.Xz.take j).drop 1).any (λc=>cS_ c t.Xz[i])=false/\b=bif((t.Xz.take i).drop 1).any (λc=>cS_ c t.Xz[i])then .ret false else .fall ((t.Xz.take i).any (dirD t.Xz[i]))) i (by show i<18446744073709551616;omega) (λs b u=>?_) (λj s b y u=>?_) ⟨qv _,rfl,by simp,rfl⟩
 .obtain⟨_,rfl,x,rfl⟩:=u;rw[x];unfold dR_;simp only;rw[fD_];rfl
 .obtain⟨_,rfl,x,rfl⟩:=u;have h:j<t.Xz.length:=by omega
  have p:t.Xz.take (j+1)=t.Xz.take j++[t.Xz[j]]:=lJ_ h;have q:(t.Xz.take (j+1)).any (dirD t.Xz[i])=((t.Xz.take j).any (dirD t.Xz[i])||dirD t.Xz[i] t.Xz[j]):=by rw[p,List.any_append];simp
  have f:dR_ (i:Int) t ((t.Xz.take j).any (dirD t.Xz[i]),(j:Int))=bif(decide (0<j)&&cS_ t.Xz[j] t.Xz[i])then some (.done (.ret false))else some (.next ((t.Xz.take (j+1)).any (dirD t.Xz[i]),((j+1:Nat):Int))):=by
   unfold dR_;simp only;rw[fg_ y,bb_ h,bb_ hi,aS_ (by omega),q];have C:decide ((j:Int)>0)=decide (0<j):=by rw[qE];simp
   rw[C];unfold dirD cS_ bM_;simp only[zB,qBs];cases(t.Xz.take j).any λc=>c.Id_==t.Xz[i].Xn&&decide (c.Xg>=2147483648)<;>cases t.Xz[j].Id_==t.Xz[i].Xn<;>cases decide (t.Xz[j].Xg>=2147483648)<;>cases decide (0<j)<;>cases t.Xz[j].Xn==t.Xz[i].Xn<;>cases t.Xz[j].Xk==t.Xz[i].Xk<;>rfl
  cases m:decide (0<j)&&cS_ t.Xz[j] t.Xz[i]with
  | true=>
   rw[m]at f;refine .inl ?_;rw[f];rw[qAn,qDe]at m;have:((t.Xz.take i).drop 1).any (λc=>cS_ c t.Xz[i])=true:=zy.2 ⟨_,mem_take_drop.2 ⟨j,m.1,y,qQ h⟩,m.2⟩;rw[this];rfl
  | false=>
   rw[m]at f;refine .inr ⟨_,f,by omega,rfl,?_,rfl⟩;rcases qg j with rfl|h0
   .rw[p];simp
   .rw[pQ_ h h0,List.any_append,x];rw[show decide (0<j)=true by simpa using h0,jC]at m;simpa using m
def rB(l:tL Xx)(i:Nat)(n:Xx):tV:=decide ((eQ_ l i).Id_<n.Id_)&&(decide (n.Xn<n.Id_)&&(fh_ n.Xk&&(cJ_ n&&(!(((l.take i).drop 1).any λc=>cS_ c n)&&(l.take i).any (dirD n)))))
def gR(l:tL Xx)(i:Nat)(n:Xx):tO tV:=if rB l i n then none else some false
theorem vf_(t:Xb)(p:t.Xz.length<=1024)(h1:1<=t.Xz.length)(hm:∀n∈t.Xz,n.Xg<=9223372036854775807/\n.Xk.length<=9223372036854775807) :
  aj_ (eY_ t) BIG 1=some (outO (be_ (gR t.Xz) 1 (t.Xz.drop 1))):=by
 refine loop_scan1 t.Xz (gR t.Xz) 1 h1 (in_ (by omega)) (λi hi h0=>?_) ?_
 .have f:=zU hi;obtain⟨j,h⟩:=hm _ f;unfold eY_;have m:ah_ t.Xz (w64 ((i:Int)-1))=some (eQ_ t.Xz i):=nn_ zeroN h0 hi (by omega);rw[fg_ hi,bb_ hi,m,aS_ (by omega)];simp only[zB,qBs];rw[uw_ _ h,oa_ _ j];simp only[qBs];rw[ref10_inner t i hi p];have s:decide (t.Xz[i].Id_<=(eQ_ t.Xz i).Id_) = !(decide ((eQ_ t.Xz i).Id_<t.Xz[i].Id_)):=by rw[qE];simp
  have q:decide (t.Xz[i].Xn>=t.Xz[i].Id_) = !(decide (t.Xz[i].Xn<t.Xz[i].Id_)):=by rw[qE];simp
  rw[s,q];unfold gR rB;cases decide ((eQ_ t.Xz i).Id_<t.Xz[i].Id_)<;>cases decide (t.Xz[i].Xn<t.Xz[i].Id_)<;>cases fh_ t.Xz[i].Xk<;>cases cJ_ t.Xz[i]<;>try rfl
  cases((t.Xz.take i).drop 1).any λc=>cS_ c t.Xz[i]<;>cases(t.Xz.take i).any (dirD t.Xz[i])<;>rfl
 .unfold eY_;rw[fD_];rfl
theorem last_lt{l:tL Xx}(j:l.Pairwise λa b=>a.Id_<b.Id_){x:Xx}(hx:l[l.length-1]? = some x)(next:Int):(∀n∈l,n.Id_<next)↔x.Id_<next:=by
 constructor
 .exact λh=>h x (qH.2 ⟨_,hx⟩)
 .intro h n m;obtain⟨i,hi⟩:=qH.1 m;obtain⟨h1,u⟩:=qK.1 hi;obtain⟨q,s⟩:=qK.1 hx;rcases qb i (l.length-1)with f|p
  .have:=qr.1 j i (l.length-1) h1 q f;rw[u,s]at this;omega
  .obtain rfl:i=l.length-1:=by omega
   rw[hi]at hx;cases hx;exact h
def rootD(r:Xx):tV:=r.Id_==1&&(r.Xn==1&&(r.Xk==[47]&&(decide (2147483648<=r.Xg)&&cJ_ r)))
theorem j1_(t:Xb)(hl:t.Xz.length<=1024)(hm:∀n∈t.Xz,n.Xg<=9223372036854775807/\n.Xk.length<=9223372036854775807):∃b,dM_ t=some b/\(b=true↔OkT t.Xz t.Xf):=by
 rcases qg t.Xz.length with h0|h0
 .refine⟨false,?_,λh=>(nomatch h),λh=>?_⟩
  .unfold dM_;rw[show decide ((t.Xz.length:Int)<1)=true by simp;omega];rfl
  .have:=(OkT_iff.1 h).1;omega
 .obtain⟨r,hr⟩:∃r,t.Xz[0]? = some r:=⟨_,qQ h0⟩;obtain⟨z,O⟩:∃z,t.Xz[t.Xz.length-1]? = some z:=⟨_,qQ (by omega)⟩;have gr:ah_ t.Xz 0=some r:=(gL_ t.Xz 0).trans hr;have gz:ah_ t.Xz (w64 ((t.Xz.length:Int)-1))=some z:=by rw[w_pred h0 (by omega),gL_];exact O
  have y:=qH.2 ⟨_,hr⟩;have C:(decide ((t.Xz.length:Int)<1)||decide ((t.Xz.length:Int)>1024))=false:=by simp;omega
  have ev:dM_ t=bif rootD r then(bif(decide (t.Xf<=z.Id_)||decide (t.Xf>1048576))then some false else some ((be_ (gR t.Xz) 1 (t.Xz.drop 1)).getD true))else some false:=by
   unfold dM_;rw[C,gr,gz];have e1:decide (r.Xg<2147483648) = !(decide (2147483648<=r.Xg)):=by rw[qE];simp
   simp only[zR,qBs];rw[oa_ _ (hm r y).1,e1];simp only[qBs];unfold rootD bne;cases r.Id_==1<;>cases r.Xn==1<;>cases r.Xk==[47]<;>cases decide (2147483648<=r.Xg)<;>cases cJ_ r<;>try rfl
   cases hN:(decide (t.Xf<=z.Id_))||(decide (t.Xf>1048576))with
   | true=>rfl
   | false=>
    show(Option.bind (aj_ (eY_ t) BIG 1) λ(M:Out Unit tV)=>match M with|.ret r3=>some r3|.fall _=>some true)=some ((be_ (gR t.Xz) 1 (t.Xz.drop 1)).getD true);exact cI_ (vf_ t hl h0 hm) (λ_=>rfl) rfl
  have m:rootD r=true↔RootOK r/\cJ_ r=true:=by
   unfold rootD RootOK;simp only[qAn,zQ,qDe];constructor
   .rintro⟨h1,Y,J,D,q⟩;have:=no_ (io_ q);exact⟨⟨h1,Y,J,by rw[←this];simpa using D⟩,q⟩
   .rintro⟨⟨h1,Y,J,D⟩,q⟩;have:=no_ (io_ q);rw[D]at this;exact⟨h1,Y,J,by simpa using this,q⟩
  rw[OkT_iff];cases x:rootD r with
  | false=>
   refine⟨false,by rw[ev,x];rfl,λh=>(nomatch h),λ⟨_,_,_,D,q,_⟩=>?_⟩;rw[m.2 ⟨D r hr,q r y⟩]at x;cases x
  | true=>
   obtain⟨V,U⟩:=m.1 x;cases hN:(decide (t.Xf<=z.Id_))||(decide (t.Xf>1048576))with
   | true=>
    refine⟨false,by rw[ev,x,hN];rfl,λh=>(nomatch h),λ⟨_,_,J,_,_,h6,_⟩=>?_⟩;have:=h6 z (qH.2 ⟨_,O⟩);simp only[qz,qDe]at hN;omega
   | false=>
    refine⟨(be_ (gR t.Xz) 1 (t.Xz.drop 1)).getD true,by rw[ev,x,hN];rfl,?_⟩;simp only[qP,qDf]at hN;rw[qW_ (g:=gR t.Xz) (p:=rB t.Xz) (λ_ _=>rfl)];have rk:∀i (n:Xx),rB t.Xz i n=true↔(eQ_ t.Xz i).Id_<n.Id_/\n.Xn<n.Id_/\fh_ n.Xk=true/\cJ_ n=true/\(∀c∈(t.Xz.take i).drop 1,cS_ c n=false)/\∃p∈t.Xz.take i,p.Id_=n.Xn/\2147483648<=p.Xg:=λi n=>by
     unfold rB;simp only[qAn,qDe,qF,zy,List.any_eq_false,dirD,zQ,zm,ge_iff_le]
    have nth:∀i n,(t.Xz.drop 1)[i]? = some n↔t.Xz[1+i]? = some n:=λi n=>by rw[qo]
    constructor
    .intro h;have Z:∀i n,0<i->t.Xz[i]? = some n->rB t.Xz i n=true:=λi n h0 f=>by
      have:=h (i-1) n ((nth _ _).2 (by rw[show 1+(i-1)=i by omega];exact f))
      rwa [show 1+(i-1)=i by omega]at this
     have flds:∀n∈t.Xz,cJ_ n=true:=λn f=>by
      obtain⟨i,hi⟩:=qH.1 f;rcases qg i with rfl|h0
      .rw[hr]at hi;cases hi;exact U
      .exact((rk i n).1 (Z i n h0 hi)).2.2.2.1
     refine⟨h0,by omega,by omega,λn f=>by rw[hr]at f;cases f;exact V,flds,?_,λi n h0 f=>?_⟩
     .exact(last_lt (srt_iff.2 λi n h0 f=>((rk i n).1 (Z i n h0 f)).1) O _).2 (by omega)
     .obtain⟨a,b,c,d,e,p,u,G,F⟩:=(rk i n).1 (Z i n h0 f);refine⟨a,c,⟨p,u,G,?_⟩,e⟩;rw[←no_ (io_ (flds p (qh u)))];simpa using F
    .intro h i n f;have ht:=OkT_iff.2 h;obtain⟨_,_,_,_,q,_,h7⟩:=h;have s:=(nth _ _).1 f;obtain⟨a,b,⟨p,u,G,F⟩,d⟩:=h7 (1+i) n (by omega) s;refine(rk (1+i) n).2 ⟨a,?_,b,q n (qH.2 ⟨_,s⟩),d,p,u,G,?_⟩
     .obtain⟨j,j1,j2⟩:=mem_take.1 u;rw[←G];obtain⟨q1,e1⟩:=qK.1 j2;obtain⟨q2,e2⟩:=qK.1 s;have:=qr.1 ht.srt j (1+i) q1 q2 j1
      rwa [e1,e2]at this
     .rw[←no_ (io_ (q p (qh u)))]at F;simpa using F
def okU(i:Nat)(b:UInt8):tV:=(decide (97<=b.toNat)&&decide (b.toNat<=122))||(!(i==0)&&((decide (48<=b.toNat)&&decide (b.toNat<=57))||b.toNat==45||b.toNat==95))
def gU(i:Nat)(b:UInt8):tO tV:=if okU i b then none else some false
def vU(s:tR):tV:=decide (1<=s.length)&&(decide (s.length<=32)&&((be_ gU 0 s).getD true))
theorem gU_if(i:Nat)(b:UInt8){c:tV}(h:c = !(okU i b)):(bif c then some (Step.done (Out.ret false))else some (Step.next ((i+1:Nat):Int)):tO (Step Int (Out Unit tV)))=some (stepO (gU i b) i):=by
 subst h;unfold gU;cases okU i b<;>rfl
theorem okU_a(i:Nat)(b:UInt8):((!(decide ((b.toNat:Int)>=97)&&decide ((b.toNat:Int)<=122)))&&(((i:Int)==0)||(!(((decide ((b.toNat:Int)>=48)&&decide ((b.toNat:Int)<=57))||((b.toNat:Int)==45))||((b.toNat:Int)==95))))) = !(okU i b):=by
 unfold okU;rw[qE];simp only[qAn,qz,qF,zO,qP,qDf,zQ,zw,jF];omega
theorem vg_(s:tR)(h:s.length<=9223372036854775807):aj_ (gW_ s) BIG 0=some (outO (be_ gU 0 s)):=by
 refine b8_ s gU (in_ h) (λi hi=>?_) ?_
 .unfold gW_;rw[nm_ hi,fg_ hi,aS_ (by omega)];simp only[zB,qBs];refine gU_if i s[i] ?_;rw[←okU_a];rw[qE];simp only[qAn,qz,qF,zO,qP,qDf,zQ,zw,jE,ne_eq]
 .unfold gW_;rw[fD_];rfl
theorem oN_(s:tR)(h:s.length<=9223372036854775807):bL_ s=some (vU s):=by
 unfold bL_ vU;have j:decide ((s.length:Int)<1) = !decide (1<=s.length):=by rw[qE];simp only[qDe,qF,qDf];omega
 have f:decide ((s.length:Int)>32) = !decide (s.length<=32):=by rw[qE];simp only[qDe,qF,qDf];omega
 rw[j,f];cases decide (1<=s.length)with
 | false=>rfl
 | true=>
  cases decide (s.length<=32)with
  | false=>rfl
  | true=>
   refine am_ rfl ?_;exact cI_ (vg_ s h) (λ_=>rfl) rfl
abbrev hasN(name:tR)(u:Yo):tV:=u.Xk==name
theorem oO_(l:tL Yo)(name:tR)(h:l.length<=1000):ku_ l name=some (at_ (hasN name) l):=by
 rw[←pO_];refine cI_ (b8_ l _ (in_ (by omega)) (λi hi=>?_) ?_) (λ_=>rfl) rfl
 .unfold ou_;rw[bb_ hi,fg_ hi,aS_ (by omega)];simp only[zB,qBs];unfold hasN;cases l[i].Xk==name<;>rfl
 .unfold ou_;rw[fD_];rfl
def fitM(l:tL Yo):Prop:=∀u∈l,u.Vs.length<=9223372036854775807
def kH_(l:tL Yo)(n:tR):tV:=l.any (hasN n)
def gM(l:tL Yo)(f:tL tR)(k:Nat)(m:tR):tO Int:=if !(kH_ l m)||(decide (0<k) && !(Op.bytesLess (f.getD (k-1) []) m))then some 26 else none
def memE(l:tL Yo)(f:tL tR):Int:=(be_ (gM l f) 0 f).getD 0
def gC(l:tL Yo)(i:Nat)(u:Yo):tO Int:=if !(vU u.Xk)then some 25 else if(l.take i).any (hasN u.Xk)then some 7 else if !(u.Qm==[]) && !(kH_ l u.Qm)then some 26 else if memE l u.Vs !=0 then some (memE l u.Vs)else none
def checkU(l:tL Yo):Int:=if l.length>64 then 22 else(be_ (gC l) 0 l).getD 0
def shortU(l:tL Yo):Prop:=∀u∈l,u.Xk.length<=9223372036854775807
theorem any_find{α:Type}(p:α->tV)(l:tL α):l.any p = !((l.find? p).isNone):=by
 rw[qE,zy];cases f:l.find? p with
 | none=>
  rw[List.find?_eq_none]at f;exact⟨λ⟨x,h1,j⟩=>absurd j (f x h1),λh=>nomatch h⟩
 | some x=>exact⟨λ_=>rfl,λ_=>⟨x,zX f,by simpa using zz f⟩⟩
theorem at_absent(l:tL Yo)(n:tR):decide (at_ (hasN n) l<0) = !(kH_ l n):=by
 unfold kH_;rw[at_neg,any_find,Bool.not_not]
theorem at_before(l:tL Yo)(i:Nat)(hi:i<l.length):decide (at_ (hasN l[i].Xk) l<(i:Int))=(l.take i).any (hasN l[i].Xk):=by
 rw[qE,qDe,zy];rcases pP_ (hasN l[i].Xk) l with⟨h1,_⟩|⟨j,x,h1,D,m,C,u⟩
 .rw[List.find?_eq_none]at h1;exact absurd (beq_self_eq_true l[i].Xk) (h1 _ (zU hi))
 .rw[D];constructor
  .intro h;have G:j<i:=by omega
   refine⟨x,?_,C⟩;rw[List.mem_take_iff_getElem];have s:=(qK.1 m).1;exact⟨j,by omega,(qK.1 m).2⟩
  .rintro⟨y,f,p⟩;rw[List.mem_take_iff_getElem]at f;obtain⟨q,F,rfl⟩:=f;rcases qb q j with h|h
   .have:=u q _ h (qQ (by omega));rw[p]at this;cases this
   .omega
theorem AJ_(l:tL Yo)(u:Yo)(h:l.length<=1000)(j:u.Vs.length<=9223372036854775807):aj_ (eM_ u l) BIG 0=some (outO (be_ (gM l u.Vs) 0 u.Vs)):=by
 refine b8_ _ _ (in_ (by omega)) (λi hi=>?_) ?_
 .unfold eM_;rw[bb_ hi,fg_ hi,aS_ (by omega)];simp only[zB,qBs];refine ae_ (oO_ l _ h) ?_;rw[at_absent];unfold gM;cases m:kH_ l u.Vs[i]with
  | false=>rfl
  | true=>
   rcases qg i with rfl|h0
   .rfl
   .have e:decide ((i:Int)>0)=true:=by simpa using h0
    have f:decide (0<i)=true:=by simpa using h0
    rw[e,f,nn_ [] h0 hi (by omega)];simp only[Bool.not_true,zR,zB,qBs,zt,jC];cases Op.bytesLess (u.Vs.getD (i-1) []) u.Vs[i]<;>rfl
 .unfold eM_;rw[fD_];rfl
theorem ref05_one(l:tL Yo)(i:Nat)(hi:i<l.length)(h:l.length<=1000)(hm:fitM l)(m:shortU l):gX_ l (i:Int)=some ((gC l i l[i]).getD 0):=by
 unfold gX_ gC;rw[bb_ hi];refine ae_ rfl (ae_ (oN_ _ (m _ (zU hi))) ?_);cases p:vU l[i].Xk with
 | false=>rfl
 | true=>
  refine am_ rfl (ae_ (oO_ l _ h) ?_);rw[at_before l i hi];cases s:(l.take i).any (hasN l[i].Xk)with
  | true=>rfl
  | false=>
   refine am_ rfl ?_;have e:Option.bind (bif(!(l[i].Qm==[]))then Option.bind (ku_ l l[i].Qm) λ(f:Int)=>some (decide (f<0))else some false)=Option.bind (some (!(l[i].Qm==[]) && !(kH_ l l[i].Qm)):tO tV) (β:=Int):=by
    congr 1
    cases l[i].Qm==[]with
    | true=>rfl
    | false=>
     refine an_ rfl (ae_ (oO_ l _ h) ?_);rw[at_absent];rfl
   rw[e];refine ae_ rfl ?_;cases q:!(l[i].Qm==[]) && !(kH_ l l[i].Qm)with
   | true=>rfl
   | false=>
    refine am_ rfl ?_;refine(cI_ (AJ_ l l[i] h (hm _ (zU hi))) (λ_=>rfl) rfl).trans ?_;show some (memE l l[i].Vs)=_;cases j:memE l l[i].Vs !=0 with
    | true=>simp
    | false=>simp;simpa using j
theorem gC_ne(l:tL Yo)(i:Nat)(u:Yo):(if(gC l i u).getD 0 !=0 then some ((gC l i u).getD 0)else none)=gC l i u:=by
 unfold gC;split
 .rfl
 .split
  .rfl
  .split
   .rfl
   .split
    .rename_i h;simpa using h
    .rfl
theorem yM_(l:tL Yo)(h:l.length<=1000)(hm:fitM l)(m:shortU l):hJ_ l=some (checkU l):=by
 unfold hJ_ checkU;by_cases f:l.length>64
 .rw[qY f];exact an_ (by simp;omega) rfl
 .rw[qG f];refine am_ (by simp;omega) ?_;refine cI_ (b8_ l _ (in_ (by omega)) (λi hi=>?_) ?_) (λ_=>rfl) rfl
  .unfold kv_;rw[fg_ hi,aS_ (by omega)];refine an_ rfl (ae_ (ref05_one l i hi h hm m) ?_);rw[←gC_ne l i l[i]];cases j:(gC l i l[i]).getD 0 !=0 with
   | true=>simp[j,stepO]
   | false=>simp[stepO]
  .unfold kv_;rw[fD_];rfl
theorem ref13_has_eq(x:Int)(k:Nat)(f:k<63)(h1:x<=9223372036854775807):nN_ x ((2^k:Nat):Int)=some (cZ_ x k):=has_div x k f h1
def gQ(l:tL Uq)(i:Nat)(q:Uq):tO Int:=if !(vU q.Ye)then some 25 else if decide (0<i) && !(Op.bytesLess (l.getD (i-1) default).Ye q.Ye)then some 2 else if decide (q.Xo<0)||decide (q.Xo>9007199254740991)||decide (q.Ju<0)||decide (q.Ju>9007199254740991)then some 5 else none
def checkQ(l:tL Uq):Int:=if l.length>64 then 22 else(be_ (gQ l) 0 l).getD 0
def shortQ(l:tL Uq):Prop:=∀q∈l,q.Ye.length<=9223372036854775807
theorem yN_(l:tL Uq)(h:l.length<=1000)(j:shortQ l):hK_ l=some (checkQ l):=by
 unfold hK_ checkQ;by_cases f:l.length>64
 .rw[qY f];exact an_ (by simp;omega) rfl
 .rw [qG f];refine am_ (by simp;omega) ?_;refine cI_ (b8_ l _ (in_ (by omega)) (λi hi=>?_) ?_) (λ_=>rfl) rfl
  .unfold kw_ gQ;rw[fg_ hi,bb_ hi,aS_ (by omega)];refine an_ rfl (ae_ rfl (ae_ (oN_ _ (j _ (zU hi))) ?_));cases vU l[i].Ye with
   | false=>rfl
   | true=>
    refine am_ rfl ?_;rcases qg i with rfl|h0
    .cases(decide (l[0].Xo<0)||decide (l[0].Xo>9007199254740991)||decide (l[0].Ju<0)||decide (l[0].Ju>9007199254740991))<;>rfl
    .have e:decide ((i:Int)>0)=true:=by simpa using h0
     have m:decide (0<i)=true:=by simpa using h0
     rw[e,m,nn_ default h0 hi (by omega)];simp only[zB,qBs,jC];cases Op.bytesLess (l.getD (i-1) default).Ye l[i].Ye<;>cases(decide (l[i].Xo<0)||decide (l[i].Xo>9007199254740991)||decide (l[i].Ju<0)||decide (l[i].Ju>9007199254740991))<;>rfl
  .unfold kw_;rw[fD_];rfl
def pR_(l:tL Int):Prop:=l.Pairwise (· < ·)
structure FileOK(s:Zq):Prop where
 us:checkU s.Ug=0
 qs:checkQ s.Wo=0
 tr:OkT s.Zm.Xz s.Zm.Xf
 srt:pR_ s.Zu
 exc:∀x∈s.Zu,(cs_ s.Zm.Xz x).2=true/\cZ_ (cs_ s.Zm.Xz x).1.Xg 29=true
structure SizeOK(s:Zq):Prop where (ul:s.Ug.length<=1000) (um:fitM s.Ug) (us:shortU s.Ug) (ql:s.Wo.length<=1000) (qs:shortQ s.Wo) (nl:s.Zm.Xz.length<=1024) (el:s.Zu.length<=500)
def NodesB(s:Zq):Prop:=∀n∈s.Zm.Xz,n.Xg<=9223372036854775807/\n.Xk.length<=9223372036854775807
def la_(l:tL Int)(i:Nat):Int:=(0::l).getD i 0
theorem ob_{l:tL Int}{i:Nat}(h0:0<i)(hi:i<=l.length):l[i-1]? = some (la_ l i):=by
 unfold la_;obtain⟨k,rfl⟩:∃k,i=k+1:=⟨i-1,by omega⟩;rw[List.getD_cons_succ,za,Nat.add_sub_cancel,qQ (by omega)];rfl
theorem sorted_iff{l:tL Int}:pR_ l↔∀i x,0<i->l[i]? = some x->la_ l i<x:=by
 unfold pR_;rw[qr];constructor
 .intro h i n h0 p;obtain⟨hi,rfl⟩:=qK.1 p;have:=ob_ h0 (jA hi);obtain⟨_,e⟩:=qK.1 this;rw[←e];exact h _ _ _ _ (by omega)
 .intro h;have key:∀(d i:Nat) (f:i+d+1<l.length),(l[i]'(by omega))<(l[i+d+1]'f):=by
   intro d
   induction d with
   | zero=>
    intro i f;have:=h (i+1) _ (by omega) (qQ (by omega));have e:=ob_ (l:=l) (i:=i+1) (by omega) (by omega);obtain⟨_,e⟩:=qK.1 e;rw[←e]at this;exact this
   | succ d m=>
    intro i f;have h1:=m i (by omega);have:=h (i+d+1+1) _ (by omega) (qQ (by omega));have e:=ob_ (l:=l) (i:=i+d+1+1) (by omega) (by omega);obtain⟨_,e⟩:=qK.1 e;rw[←e]at this;simp only[Nat.add_sub_cancel]at this;exact Int.lt_trans h1 this
  intro i j hi f q;have:=key (j-i-1) i (by omega);simpa[show i+(j-i-1)+1=j by omega]using this
def eB(t:tL Xx)(l:tL Int)(i:Nat)(x:Int):tV:=((cs_ t x).2&&cZ_ (cs_ t x).1.Xg 29)&&decide (la_ l i<x)
def gE(t:tL Xx)(l:tL Int)(i:Nat)(x:Int):tO tV:=if eB t l i x then none else some false
theorem vh_(s:Zq)(h:OkT s.Zm.Xz s.Zm.Xf)(y:s.Zu.length<=1000):aj_ (gY_ s) BIG 0=some (outO (be_ (gE s.Zm.Xz s.Zu) 0 s.Zu)):=by
 refine b8_ s.Zu _ (in_ (by omega)) (λi hi=>?_) ?_
 .unfold gY_;rw[fg_ hi,bb_ hi,aS_ (by omega)];refine an_ rfl (ae_ rfl (ae_ (AH_ _ _ (by have:=h.len;omega)) ?_));unfold gE eB;have f:=ref13_has_eq (cs_ s.Zm.Xz s.Zu[i]).1.Xg 29 (by omega) (node_hm h _);simp only[Nat.reducePow,Int.cast_ofNat_Int]at f;rw[f];simp only[qBs];cases m:(cs_ s.Zm.Xz s.Zu[i]).2 with
  | false=>rfl
  | true=>
   have p:1<=s.Zu[i]:=by
    obtain⟨h1,q⟩:=qU_ m;rw[←q];exact h.ge h1
   cases cZ_ (cs_ s.Zm.Xz s.Zu[i]).1.Xg 29 with
   | false=>rfl
   | true=>
    rcases qg i with rfl|h0
    .have:decide (la_ s.Zu 0<s.Zu[0])=true:=by
      rw[qDe];show(0:Int)<_;omega
     rw[this];rfl
    .have x:decide ((i:Int)>0)=true:=by simpa using h0
     have j:ah_ s.Zu (w64 ((i:Int)-1))=some (la_ s.Zu i):=by
      rw[w_pred h0 (by omega),gL_];exact ob_ h0 (jA hi)
     have u:decide (la_ s.Zu i>=s.Zu[i]) = !(decide (la_ s.Zu i<s.Zu[i])):=by rw[qE];simp
     rw[x,j];simp only[zB,qBs];rw[u];cases decide (la_ s.Zu i<s.Zu[i])<;>rfl
 .unfold gY_;rw[fD_];rfl
theorem excl_iff(s:Zq)(h:OkT s.Zm.Xz s.Zm.Xf):(be_ (gE s.Zm.Xz s.Zu) 0 s.Zu).getD true=true↔pR_ s.Zu/\∀x∈s.Zu,(cs_ s.Zm.Xz x).2=true/\cZ_ (cs_ s.Zm.Xz x).1.Xg 29=true:=by
 rw[qW_ (g:=gE s.Zm.Xz s.Zu) (p:=eB s.Zm.Xz s.Zu) (λ_ _=>rfl),sorted_iff];have ek:∀i x,eB s.Zm.Xz s.Zu i x=true↔((cs_ s.Zm.Xz x).2=true/\cZ_ (cs_ s.Zm.Xz x).1.Xg 29=true)/\la_ s.Zu i<x:=λi x=>by
  unfold eB;simp only[qAn,qDe]
 simp only[qj,ek];constructor
 .intro f;refine⟨λi x _ hx=>(f i x hx).2,λx hx=>?_⟩;obtain⟨i,hi⟩:=qH.1 hx;exact(f i x hi).1
 .rintro⟨h1,m⟩ i x hx;have hm:=m x (qH.2 ⟨_,hx⟩);refine⟨hm,?_⟩;rcases qg i with rfl|h0
  .obtain⟨j,q⟩:=qU_ hm.1;have:=h.ge j;show(0:Int)<x;omega
  .exact h1 i x h0 hx
theorem FileOK_iff(s:Zq):FileOK s↔checkU s.Ug=0/\checkQ s.Wo=0/\OkT s.Zm.Xz s.Zm.Xf/\pR_ s.Zu/\∀x∈s.Zu,(cs_ s.Zm.Xz x).2=true/\cZ_ (cs_ s.Zm.Xz x).1.Xg 29=true:=
 ⟨λh=>⟨h.us,h.qs,h.tr,h.srt,h.exc⟩,λ⟨a,b,c,d,e⟩=>⟨a,b,c,d,e⟩⟩
theorem oc_(s:Zq)(z:SizeOK s)(u:NodesB s):∃b,fU_ s=some b/\(b=true↔FileOK s):=by
 rw[FileOK_iff];unfold fU_;rw[yM_ _ z.ul z.um z.us,yN_ _ z.ql z.qs];simp only[qBs];cases j:checkU s.Ug !=0 with
 | true=>exact⟨false,rfl,λh=>(nomatch h),λh=>by rw[h.1]at j;cases j⟩
 | false=>
  simp only[zR,qBs];cases p:checkQ s.Wo !=0 with
  | true=>exact⟨false,rfl,λh=>(nomatch h),λh=>by rw[h.2.1]at p;cases p⟩
  | false=>
   obtain⟨b,q,f⟩:=j1_ s.Zm (by have:=z.nl;omega) u;rw[q];cases b with
   | false=>exact⟨false,rfl,λh=>(nomatch h),λh=>f.2 h.2.2.1⟩
   | true=>
    have m:=f.1 rfl;refine⟨_,am_ (A:=some false) rfl (cI_ (vh_ s m (by have:=z.el;omega)) (λ_=>rfl) rfl),?_⟩;rw[excl_iff s m];exact⟨λh=>⟨by simpa using j,by simpa using p,m,h⟩,λh=>h.2.2.2⟩
def leV:tR->Nat|[]=>0|b::r=>b.toNat+256*leV r
theorem leV_lt:∀(s:tR),leV s<2^(8*s.length)
 | []=>by simp[leV]
 | b::r=>by
  have h:=leV_lt r;have f:=b.toNat_lt;simp only[leV,qLc];rw[show 8*(r.length+1)=8*r.length+8 by omega,Nat.pow_add];omega
def win(s:tR)(at_ w:Nat):tR:=(s.drop at_).take w
theorem ja_{s:tR}{at_ w:Nat}(h:at_+w<=s.length):(win s at_ w).length=w:=by simp[win];omega
theorem qY_{s:tR}{at_ w j:Nat}(h:at_+w<=s.length)(m:j<w):(win s at_ w).drop (w-(j+1))=s[at_+(w-1-j)]'(by omega)::(win s at_ w).drop (w-j):=by
 have f:=ja_ h;rw[zM (by omega:w-(j+1)<(win s at_ w).length)]
 congr 1
 .simp only[win,List.getElem_take,List.getElem_drop]
  congr 1
  omega
 .congr 1
  omega
theorem or_byte(a b:Nat)(f:b<256):(a*256)|||b=a*256+b:=by
 have:=Nat.shiftLeft_add_eq_or_of_lt (i:=8) (b:=b) (by omega) a;rw[Nat.shiftLeft_eq]at this;exact this.symm
theorem get_loop(s:tR)(at_ w:Nat)(h1:1<=w)(G:w<=8)(h:at_+w<=s.length)(D:s.length<=9223372036854775807):aj_ (gJ_ s (at_:Int)) BIG (0,w64 ((w:Int)-1))=some (leV (win s at_ w):Int):=by
 have F:BIG=18446744073709551616:=rfl;have p:=bv_ (body:=gJ_ s (at_:Int)) (λj=>(((leV ((win s at_ w).drop (w-j)):Nat):Int),(w:Int)-1-(j:Int))) w (by omega) (b:=(leV (win s at_ w):Int)) (λj u=>?_) ?_
 .have e:(win s at_ w).drop (w-0)=[]:=List.drop_eq_nil_of_le (by rw[ja_ h];omega);simp only[e,leV]at p;rw[ao_ ⟨by omega,by omega⟩];simpa using p
 .unfold gJ_;have f:=leV_lt ((win s at_ w).drop (w-j));have m:((win s at_ w).drop (w-j)).length=j:=by rw[qk,ja_ h];omega
  rw[m]at f;have q:2^(8*j)<=2^56:=Nat.pow_le_pow_right (by omega) (by omega);refine an_ (by simp;omega) ?_;have ei:w64 ((at_:Int)+((w:Int)-1-(j:Int)))=((at_+(w-1-j):Nat):Int):=by
   rw[ao_ ⟨by omega,by omega⟩];omega
  show Option.bind (ap_ s (w64 ((at_:Int)+((w:Int)-1-(j:Int))))) _=_;rw[ei];refine ae_ (nm_ (by omega)) ?_;rw[qY_ h u];simp only[leV];generalize s[at_+(w-1-j)]'(by omega)=b;have x:=b.toNat_lt;generalize leV ((win s at_ w).drop (w-j))=v at f ⊢;show some (Step.next (orI .u64 (IntKind.u64.wrap ((v:Int)*2^8)) (IntKind.u64.wrap (b.toNat:Int)),w64 ((w:Int)-1-(j:Int)-1)))=_;have C:IntKind.u64.wrap ((v:Int)*2^8)=((v*256:Nat):Int):=by rw[wu64];omega
  have y:IntKind.u64.wrap (b.toNat:Int)=(b.toNat:Int):=by rw[wu64];omega
  rw[C,y,orI_u64 (by omega) (by omega),or_byte _ _ x,ao_ ⟨by omega,by omega⟩]
  congr 3
  .omega
  .omega
 .unfold gJ_;refine am_ (by simp;omega) ?_;simp
theorem get_eq(s:tR)(at_ w:Nat)(h1:1<=w)(p:w<=8)(h:at_<=s.length)(m:s.length<=9223372036854775807) :
  lt_ s (at_:Int) (w:Int)=some (if s.length-at_<w then(0,0,3)else if leV (win s at_ w)>9223372036854775807 then(0,0,5)else((leV (win s at_ w):Int),((at_+w:Nat):Int),0)):=by
 unfold lt_;refine am_ (by simp;omega) ?_;have el:w64 ((s.length:Int)-(at_:Int))=((s.length-at_:Nat):Int):=by rw[ao_ ⟨by omega,by omega⟩];omega
 rw[el];by_cases f:s.length-at_<w
 .rw[qY f];exact an_ (by simp;omega) rfl
 .rw[qG f];refine am_ (by simp;omega) ?_;refine ae_ (get_loop s at_ w h1 p (by omega) m) ?_;by_cases j:leV (win s at_ w)>9223372036854775807
  .rw[qY j];exact an_ (by simp;omega) rfl
  .rw[qG j];refine am_ (by simp;omega) ?_;rw[ao_ (n:=(leV (win s at_ w):Int)) ⟨by omega,by omega⟩,ao_ (n:=(at_:Int)+(w:Int)) ⟨by omega,by omega⟩];rfl
theorem win_sub(s:tR)(at_ w:Nat)(h:at_+w<=s.length)(f:s.length<=9223372036854775807):aA_ s (at_:Int) (w64 ((at_:Int)+(w:Int)))=some (win s at_ w):=by
 rw[ao_ ⟨by omega,by omega⟩,cM_ (by omega) (by omega) (by omega)]
 congr 1
 simp only[win,qTn];rw[show((at_:Int)+(w:Int)).toNat=at_+w by omega,jV,show at_+w-at_=w by omega]
def takeT(s:tR)(a:Nat):tO (tR×Nat):=if s.length<a+2 then none else if s.length<a+2+leV (win s a 2)then none else some (win s (a+2) (leV (win s a 2)),a+2+leV (win s a 2))
theorem np_{s t:tR}{a p:Nat}(h:takeT s a=some (t,p)):p<=s.length/\t.length<=s.length/\a+2<=p:=by
 unfold takeT at h;split at h
 .cases h
 .split at h
  .cases h
  .rename_i h1 f;simp only[qOi,qC]at h;obtain⟨rfl,rfl⟩:=h;refine⟨by omega,?_,by omega⟩;rw[ja_ (by omega)];omega
theorem leV_two(s:tR)(a:Nat)(h:a+2<=s.length):leV (win s a 2)<65536:=by
 have:=leV_lt (win s a 2);rw[ja_ h]at this;exact this
theorem gettext_eq(s:tR)(a:Nat)(h:a<=s.length)(x:s.length<=2000000):iD_ s (a:Int)=some (match takeT s a with|none=>([],0,3)|some (t,p)=>(t,(p:Int),0)):=by
 unfold iD_;have f:=get_eq s a 2 (by omega) (by omega) h (by omega);rw[show((2:Nat):Int)=2 from rfl]at f;unfold takeT;by_cases m:s.length<a+2
 .rw[qY (by omega)]at f;rw[qY m];refine ae_ f ?_;exact an_ rfl rfl
 .have u:=leV_two s a (by omega);rw[qG (by omega),qG (by omega)]at f;rw[qG m];refine ae_ f ?_;refine am_ rfl ?_;have ew:w64 ((s.length:Int)-((a+2:Nat):Int))=((s.length-(a+2):Nat):Int):=by rw[ao_ ⟨by omega,by omega⟩];omega
  have q:w64 (((a+2:Nat):Int)+(leV (win s a 2):Int))=((a+2+leV (win s a 2):Nat):Int):=by rw[ao_ ⟨by omega,by omega⟩];omega
  by_cases j:s.length<a+2+leV (win s a 2)
  .rw[qY j];refine an_ ?_ rfl;show decide (w64 ((s.length:Int)-((a+2:Nat):Int))<(leV (win s a 2):Int))=true;rw[ew];simp only[qDe];omega
  .rw[qG j];refine am_ ?_ ?_
   .show decide (w64 ((s.length:Int)-((a+2:Nat):Int))<(leV (win s a 2):Int))=false;rw[ew];simp only[qDf];omega
   refine ae_ (win_sub s (a+2) (leV (win s a 2)) (by omega) (by omega)) ?_;show some (_,w64 (((a+2:Nat):Int)+(leV (win s a 2):Int)),(0:Int))=_;rw[q]
theorem orI_comm(k:IntKind)(a b:Int):orI k a b=orI k b a:=by
 unfold orI;rw[BitVec.or_comm]
def rot(x:Int)(n:Nat):Int:=orI .u32 (IntKind.u32.wrap (x*2^(32-n))) (x.fdiv (2^n))
theorem right2(x:Int):aV_ x 2=some (rot x 2):=by kernel_rfl
theorem right6(x:Int):aV_ x 6=some (rot x 6):=by kernel_rfl
theorem right7(x:Int):aV_ x 7=some (rot x 7):=by kernel_rfl
theorem right11(x:Int):aV_ x 11=some (rot x 11):=by kernel_rfl
theorem right13(x:Int):aV_ x 13=some (rot x 13):=by kernel_rfl
theorem right17(x:Int):aV_ x 17=some (rot x 17):=by kernel_rfl
theorem right18(x:Int):aV_ x 18=some (rot x 18):=by kernel_rfl
theorem right19(x:Int):aV_ x 19=some (rot x 19):=by kernel_rfl
theorem right22(x:Int):aV_ x 22=some (rot x 22):=by kernel_rfl
theorem right25(x:Int):aV_ x 25=some (rot x 25):=by kernel_rfl
theorem eJ_(x:Int)(n:Int)(m:Nat)(h:aN_ x n=some (orI .u32 (x.fdiv (2^m)) (IntKind.u32.wrap (x*2^(32-m))))):aN_ x n=some (rot x m):=by
 rw[h,orI_comm];rfl
theorem rotr2(x:Int):aN_ x 2=some (rot x 2):=eJ_ x 2 2 (by kernel_rfl)
theorem rotr6(x:Int):aN_ x 6=some (rot x 6):=eJ_ x 6 6 (by kernel_rfl)
theorem rotr7(x:Int):aN_ x 7=some (rot x 7):=eJ_ x 7 7 (by kernel_rfl)
theorem rotr11(x:Int):aN_ x 11=some (rot x 11):=eJ_ x 11 11 (by kernel_rfl)
theorem rotr13(x:Int):aN_ x 13=some (rot x 13):=eJ_ x 13 13 (by kernel_rfl)
theorem rotr17(x:Int):aN_ x 17=some (rot x 17):=eJ_ x 17 17 (by kernel_rfl)
theorem rotr18(x:Int):aN_ x 18=some (rot x 18):=eJ_ x 18 18 (by kernel_rfl)
theorem rotr19(x:Int):aN_ x 19=some (rot x 19):=eJ_ x 19 19 (by kernel_rfl)
theorem rotr22(x:Int):aN_ x 22=some (rot x 22):=eJ_ x 22 22 (by kernel_rfl)
theorem rotr25(x:Int):aN_ x 25=some (rot x 25):=eJ_ x 25 25 (by kernel_rfl)
theorem map_nthI(y:tL Int):(List.range y.length).map (au_ y)=y:=by
 apply zG;intro i;rw[qt];by_cases hi:i<y.length
 .rw[List.getElem?_range hi,qQ hi];simp[au_,hi]
 .rw[qe (by simpa using hi),qe (by omega)];rfl
theorem l_of64{y:tL Int}(h:y.length=64):(Wy.of y).l=y:=by
 have h1:(Wy.of y).l=(List.range 64).map (au_ y):=rfl;rw[h1,←h,map_nthI]
theorem kI_{y:tL Int}{i:Nat}(h:i<y.length):ah_ y (i:Int)=some (au_ y i):=by
 rw[bb_ h];simp[au_,h]
def lb_(b:tR)(i:Nat):Int:=((b.getD i 0).toNat:Int)
theorem oP_{b:tR}{i:Nat}(h:i<b.length):ap_ b (i:Int)=some (lb_ b i):=by
 rw[nm_ h];simp[lb_,h]
def wordN(b:tR)(i:Nat):Int:=orI .u32 (orI .u32 (orI .u32 (IntKind.u32.wrap ((IntKind.u32.wrap (lb_ b (4*i)))*2^24)) (IntKind.u32.wrap ((IntKind.u32.wrap (lb_ b (4*i+1)))*2^16))) (IntKind.u32.wrap ((IntKind.u32.wrap (lb_ b (4*i+2)))*2^8))) (IntKind.u32.wrap (lb_ b (4*i+3)))
def wdHi(i:Nat)(l:tL Int):Int:=(IntKind.u32.wrap ((IntKind.u32.wrap ((IntKind.u32.wrap (au_ l (i-16)+(bl_ .u32 (bl_ .u32 (rot (au_ l (i-15)) 7) (rot (au_ l (i-15)) 18)) ((au_ l (i-15)).fdiv (2^3)))))+au_ l (i-7)))+(bl_ .u32 (bl_ .u32 (rot (au_ l (i-2)) 17) (rot (au_ l (i-2)) 19)) ((au_ l (i-2)).fdiv (2^10)))))
def wd(b:tR)(i:Nat)(l:tL Int):Int:=if i<16 then wordN b i else wdHi i l
theorem wd_hi{b:tR}{i:Nat}{l:tL Int}(h:¬i<16):wd b i l=wdHi i l:=qG h
def bj_(b:tR):Nat->tL Int|0=>[]|i+1=>bj_ b i++[wd b i (bj_ b i)]
theorem co_(b:tR):∀i,(bj_ b i).length=i
 | 0=>rfl
 | i+1=>by simp[bj_,co_ b i]
def dB_(b:tR)(i:Nat):tL Int:=bj_ b i++List.replicate (64-i) 0
theorem q0_(b:tR){i:Nat}(h:i<=64):(dB_ b i).length=64:=by
 simp[dB_,co_];omega
theorem schedA_nth(b:tR){i j:Nat}(h:j<i):au_ (dB_ b i) j=au_ (bj_ b i) j:=by
 have:j<(bj_ b i).length:=by rw[co_];exact h
 simp only[au_,dB_,za];rw[ze this]
theorem schedA_set(b:tR){i:Nat}(h:i<64):(dB_ b i).set i (wd b i (bj_ b i))=dB_ b (i+1):=by
 unfold dB_;have e:64-i=(64-(i+1))+1:=by omega
 rw[List.set_append_right _ _ (by rw[co_];exact qA _),co_,Nat.sub_self,e,List.replicate_succ,List.set_cons_zero,bj_,qy];rfl
theorem word_eq{b:tR}{i:Nat}(m:b.length=64)(hi:i<16):n7_ ((b.take 64).drop (4*i))=some (wordN b i):=by
 have h:b.take 64=b:=by rw[←m];exact List.take_length
 rw[h];unfold n7_;have f:∀j:Nat,j<4->ap_ (b.drop (4*i)) (j:Int)=some (lb_ b (4*i+j)):=λj s=>by
  rw[oP_ (by rw[qk];omega)]
  congr 1
  simp only[lb_,za,qo]
 have h0:=f 0 (by omega);have h1:=f 1 (by omega);have q:=f 2 (by omega);have p:=f 3 (by omega);refine ae_ h0 (ae_ h1 (ae_ q (ae_ p rfl)))
theorem nq_{n i:Nat}(h:i<n):cy_ n (i:Int)=some ():=by
 unfold cy_;simp[h]
set_option maxRecDepth 100000 in
theorem schedule_eq{b:tR}(q:b.length=64):iC_ b=some (Wy.of (bj_ b 64)):=by
 unfold iC_;refine ae_ (a:=Wy.of (bj_ b 64)) ?_ rfl;have m:dB_ b 64=bj_ b 64:=by simp[dB_]
 rw[←m];refine bv_ (T:=λi=>((i:Int),Wy.of (dB_ b i))) 64 (by decide) (λi hi=>?_) ?_
 .unfold iT_;have p:=l_of64 (q0_ b (jA hi));have f:setI (Wy.of (dB_ b i)).l (i:Int) (wd b i (bj_ b i))=some (dB_ b (i+1)):=by
   rw[p];unfold setI;rw[qY ⟨by omega,by rw[q0_ b (jA hi)];omega⟩,qTn,schedA_set b hi]
  refine an_ (by simp;omega) ?_;refine ae_ (a:=Wy.of (dB_ b (i+1))) ?_ (by rw[aS_ (by omega)]);by_cases h:i<16
  .refine an_ (by simp;omega) ?_;have s:w64 (4*(i:Int))=((4*i:Nat):Int):=by rw[ao_ ⟨by omega,by omega⟩];omega
   refine ae_ (a:=(b.take 64).drop (4*i)) ?_ (ae_ (word_eq q h) (ae_ (nq_ hi) (ae_ (a:=dB_ b (i+1)) ?_ rfl)))
   .rw[s,cM_ (by omega) (by omega) (by omega),qTn,qTn,q]
   .have:wd b i (bj_ b i)=wordN b i:=by unfold wd;rw[qY h]
    rw[←this];exact f
  .refine am_ (by simp;omega) ?_;have ek:∀k:Nat,k<=16->w64 ((i:Int)-(k:Int))=((i-k:Nat):Int):=λk j=>by rw[ao_ ⟨by omega,by omega⟩];omega
   have eg:∀k:Nat,0<k->k<=16->ah_ (Wy.of (dB_ b i)).l (w64 ((i:Int)-(k:Int)))=some (au_ (bj_ b i) (i-k)):=λk h0 j=>by
    rw[ek k j,p,kI_ (by rw[q0_ b (jA hi)];omega),schedA_nth b (by omega)]
   have eb:∀k:Nat,0<k->k<=16->cy_ 64 (w64 ((i:Int)-(k:Int)))=some ():=λk h0 j=>by
    rw[ek k j];exact nq_ (by omega)
   refine ae_ (eb 15 (by omega) (by omega)) (ae_ (eg 15 (by omega) (by omega)) (ae_ (eb 2 (by omega) (by omega)) (ae_ (eg 2 (by omega) (by omega)) (ae_ (right7 _) (ae_ (right18 _) (ae_ (right17 _) (ae_ (right19 _) (ae_ (eb 16 (by omega) (by omega)) (ae_ (eg 16 (by omega) (by omega)) (ae_ (eb 7 (by omega) (by omega)) (ae_ (eg 7 (by omega) (by omega)) (ae_ (nq_ hi) (ae_ (a:=dB_ b (i+1)) ?_ rfl)))))))))))));rw[wd_hi h]at f;exact f
 .unfold iT_;exact am_ (by simp) rfl
theorem room1{α:Type}{n:Nat}{xs f:tL α}(h:(xs.length+f.length)*n<=140737488355328)(j:xs.length+f.length<=140737488355328):room n xs f=some (xs++f):=cL_ (by omega) h
theorem xn_{b:tR}(p:b.length=64):g0_ b=some (bj_ b 64):=by
 unfold g0_;refine ae_ (a:=bj_ b 16) ?_ (ae_ (a:=bj_ b 64) ?_ rfl)
 .refine bv_ (T:=λi=>((i:Int),bj_ b i)) 16 (by decide) (λi hi=>?_) ?_
  .unfold hm_;refine an_ (by simp;omega) ?_;have h:w64 (4*(i:Int))=((4*i:Nat):Int):=by rw[ao_ ⟨by omega,by omega⟩];omega
   have ej:∀j:Nat,j<4->w64 (w64 (4*(i:Int))+(j:Int))=((4*i+j:Nat):Int):=λj f=>by rw[h,ao_ ⟨by omega,by omega⟩];omega
   have h0:ap_ b (w64 (4*(i:Int)))=some (lb_ b (4*i)):=by rw[h];exact oP_ (by omega)
   have f:∀j:Nat,j<4->ap_ b (w64 (w64 (4*(i:Int))+(j:Int)))=some (lb_ b (4*i+j)):=λj f=>by rw[ej j f];exact oP_ (by omega)
   refine ae_ h0 (ae_ (f 1 (by omega)) (ae_ (f 2 (by omega)) (ae_ (f 3 (by omega)) (ae_ (a:=bj_ b (i+1)) ?_ (by rw[aS_ (by omega)])))));rw[room1 (by simp[co_];omega) (by simp[co_];omega),bj_];have:wd b i (bj_ b i)=wordN b i:=by unfold wd;rw[qY hi]
   rw[this];rfl
  .unfold hm_;exact am_ (by simp) rfl
 .refine bv_ (T:=λk=>(((16+k:Nat):Int),bj_ b (16+k))) 48 (by decide) (λk m=>?_) ?_
  .unfold hn_;refine an_ (by simp;omega) ?_;have ek:∀j:Nat,j<=16->w64 (((16+k:Nat):Int)-(j:Int))=((16+k-j:Nat):Int):=λj f=>by rw[ao_ ⟨by omega,by omega⟩];omega
   have eg:∀j:Nat,0<j->j<=16->ah_ (bj_ b (16+k)) (w64 (((16+k:Nat):Int)-(j:Int)))=some (au_ (bj_ b (16+k)) (16+k-j)):=λj h0 f=>by
    rw[ek j f,kI_ (by rw[co_];omega)]
   refine ae_ (eg 15 (by omega) (by omega)) (ae_ (eg 2 (by omega) (by omega)) (ae_ (rotr7 _) (ae_ (rotr18 _) (ae_ (rotr17 _) (ae_ (rotr19 _) (ae_ (eg 16 (by omega) (by omega)) (ae_ (eg 7 (by omega) (by omega)) (ae_ (a:=bj_ b (16+(k+1))) ?_ ?_))))))))
   .rw[room1 (by simp[co_];omega) (by simp[co_];omega),←zW,bj_];rw[wd_hi (by omega)];rfl
   .show some (Step.next (w64 (((16+k:Nat):Int)+1),_))=_;rw[aS_ (by omega)];rfl
  .unfold hn_;exact am_ (by simp) rfl
theorem cp_{n:Nat}(h:n<9223372036854775808):n<BIG:=Nat.lt_trans h (by decide)
def t1N(W:tL Int)(i:Nat)(s:Yf):Int:=IntKind.u32.wrap ((IntKind.u32.wrap ((IntKind.u32.wrap ((IntKind.u32.wrap (s.a7_+(bl_ .u32 (bl_ .u32 (rot s.a4_ 6) (rot s.a4_ 11)) (rot s.a4_ 25))))+(bl_ .u32 (dU_ .u32 s.a4_ s.a5_) (dU_ .u32 (bl_ .u32 4294967295 s.a4_) s.a6_))))+au_ glob0.l i))+au_ W i)
def t2N(s:Yf):Int:=IntKind.u32.wrap ((bl_ .u32 (bl_ .u32 (rot s.a0_ 2) (rot s.a0_ 13)) (rot s.a0_ 22))+(bl_ .u32 (bl_ .u32 (dU_ .u32 s.a0_ s.a1_) (dU_ .u32 s.a0_ s.a2_)) (dU_ .u32 s.a1_ s.a2_)))
def rnd(W:tL Int)(i:Nat)(s:Yf):Yf:=Yf.mk (IntKind.u32.wrap (t1N W i s+t2N s)) s.a0_ s.a1_ s.a2_ (IntKind.u32.wrap (s.a3_+t1N W i s)) s.a4_ s.a5_ s.a6_
def rnds(W:tL Int)(s:Yf):Nat->Yf|0=>s|i+1=>rnd W i (rnds W s i)
theorem glob_len:glob0.l.length=64:=by kernel_rfl
def mixS(s:Yf)(p:tR):Yf:=
 let v:=rnds (bj_ p 64) s 64
 Yf.mk (IntKind.u32.wrap (s.a0_+v.a0_)) (IntKind.u32.wrap (s.a1_+v.a1_)) (IntKind.u32.wrap (s.a2_+v.a2_)) (IntKind.u32.wrap (s.a3_+v.a3_)) (IntKind.u32.wrap (s.a4_+v.a4_)) (IntKind.u32.wrap (s.a5_+v.a5_)) (IntKind.u32.wrap (s.a6_+v.a6_)) (IntKind.u32.wrap (s.a7_+v.a7_))
theorem mix2_eq(v s:Yf):aj_ (ut_ v) BIG (0,s)=some (Yf.mk (IntKind.u32.wrap (s.a0_+v.a0_)) (IntKind.u32.wrap (s.a1_+v.a1_)) (IntKind.u32.wrap (s.a2_+v.a2_)) (IntKind.u32.wrap (s.a3_+v.a3_)) (IntKind.u32.wrap (s.a4_+v.a4_)) (IntKind.u32.wrap (s.a5_+v.a5_)) (IntKind.u32.wrap (s.a6_+v.a6_)) (IntKind.u32.wrap (s.a7_+v.a7_))):=by
 cases v
 cases s
 kernel_rfl
theorem mix_eq{p:tR}(f:p.length=64)(s:Yf):qR_ s p=some (mixS s p):=by
 unfold qR_;have h:(Wy.of (bj_ p 64)).l=bj_ p 64:=l_of64 (co_ p 64);refine ae_ (schedule_eq f) (ae_ (a:=rnds (bj_ p 64) s 64) ?_ (ae_ (mix2_eq _ _) rfl));refine bv_ (T:=λi=>((i:Int),rnds (bj_ p 64) s i)) 64 (by decide) (λi hi=>?_) ?_
 .unfold oK_;refine an_ (by simp;omega) ?_;refine ae_ (right6 _) (ae_ (right11 _) (ae_ (right25 _) (ae_ (nq_ hi) (ae_ (kI_ (by rw[glob_len];exact hi)) (ae_ (nq_ hi) (ae_ (a:=au_ (bj_ p 64) i) ?_ (ae_ (right2 _) (ae_ (right13 _) (ae_ (right22 _) ?_)))))))))
  .rw[h];exact kI_ (by rw[co_];exact hi)
  .rw[aS_ (by omega)];rfl
 .unfold oK_;exact am_ (by simp) rfl
def tupN(s:Yf)(i:Nat)(K W:tL Int):Int×Int×Int×Int×Int×Int×Int×Int×Int×(tL Int)×(tL Int):=(s.a0_,s.a1_,s.a2_,s.a3_,s.a4_,s.a5_,s.a6_,s.a7_,(i:Int),K,W)
theorem block_eq{p:tR}(f:p.length=64)(s:Yf):kZ_ s.l p=some (mixS s p).l:=by
 unfold kZ_;refine ae_ (a:=glob0.l) (by kernel_rfl) (ae_ (xn_ f) (ae_ (a:=s.a0_) rfl (ae_ (a:=s.a1_) rfl (ae_ (a:=s.a2_) rfl (ae_ (a:=s.a3_) rfl (ae_ (a:=s.a4_) rfl (ae_ (a:=s.a5_) rfl (ae_ (a:=s.a6_) rfl (ae_ (a:=s.a7_) rfl (ae_ (a:=let v:=rnds (bj_ p 64) s 64;(v.a0_,v.a1_,v.a2_,v.a3_,v.a4_,v.a5_,v.a6_,v.a7_)) ?_ (ae_ (a:=s.a0_) rfl (ae_ (a:=s.a1_) rfl (ae_ (a:=s.a2_) rfl (ae_ (a:=s.a3_) rfl (ae_ (a:=s.a4_) rfl (ae_ (a:=s.a5_) rfl (ae_ (a:=s.a6_) rfl (ae_ (a:=s.a7_) rfl rfl))))))))))))))))));refine bv_ (T:=λi=>tupN (rnds (bj_ p 64) s i) i glob0.l (bj_ p 64)) 64 (by decide) (λi hi=>?_) ?_
 .unfold ky_ tupN;refine an_ (by simp;omega) ?_;refine ae_ (rotr6 _) (ae_ (rotr11 _) (ae_ (rotr25 _) (ae_ (kI_ (by rw[glob_len];exact hi)) (ae_ (kI_ (by rw[co_];exact hi)) (ae_ (rotr2 _) (ae_ (rotr13 _) (ae_ (rotr22 _) ?_)))))));simp only[aS_ (show i<9223372036854775807 by omega)];rfl
 .unfold ky_ tupN;exact am_ (by simp) rfl
theorem u8_toNat(b:UInt8):UInt8.ofNat (b.toNat:Int).toNat=b:=by simp
theorem bytesS_strI(s:tR):bytesS (cg_ s)=s:=by
 unfold bytesS cg_;rw[List.map_map]
 conv=>rhs;rw[←List.map_id s]
 exact List.map_congr_left λb _=>u8_toNat b
theorem iH_(a b:tL Int):bytesS (a++b)=bytesS a++bytesS b:=List.map_append
theorem mt_(a:tL Int):(bytesS a).length=a.length:=zj _
theorem iU_(s:tR):(cg_ s).length=s.length:=zj _
def cq_(n:Nat):Nat:=(119-n%64)%64
theorem s2_(n:Nat):(n+cq_ n)%64=55:=by unfold cq_;omega
theorem zeros_lt(n:Nat){k:Nat}(h:k<cq_ n):(n+k)%64≠55:=by unfold cq_ at h;omega
def lenL(n:Nat):tL Int:=(List.range 8).map λj=>IntKind.u8.wrap ((IntKind.u64.wrap (8*(IntKind.u64.wrap (n:Int)))).fdiv (2^(56-8*j)))
def padL(s:tR):tL Int:=cg_ s++[128]++List.replicate (cq_ s.length) 0
def padS(s:tR):tR:=bytesS (padL s++lenL s.length)
theorem lenL_take(n:Nat){k:Nat}(f:k<8):(lenL n).take (k+1)=(lenL n).take k++[IntKind.u8.wrap ((IntKind.u64.wrap (8*(IntKind.u64.wrap (n:Int)))).fdiv (2^(56-8*k)))]:=by
 rw[List.take_add_one];simp[lenL,f]
theorem vi_(s:tR):(padL s).length=s.length+1+cq_ s.length:=by
 simp[padL,iU_];omega
theorem vj_(s:tR):(padS s).length=s.length+9+cq_ s.length:=by
 unfold padS;rw[mt_,qLa,vi_];simp[lenL];omega
theorem padS_mod(s:tR):(padS s).length%64=0:=by
 rw[vj_];have:=s2_ s.length;omega
theorem tmod64(n:Nat):((n:Int).tmod 64 !=56)=decide (n%64≠56):=by
 have:(n:Int).tmod 64=((n%64:Nat):Int):=by rw[jY (by omega)];rfl
 rw[this,qE];simp only[jE,ne_eq,qDe];omega
theorem pad_eq(s:tR)(p:s.length<1099511627776):ni_ s=some (padS s):=by
 have j:cq_ s.length<64:=by unfold cq_;omega
 unfold ni_;refine ae_ (a:=cg_ s) (by rw[room1 (by simp[iU_];omega) (by simp[iU_];omega)];rfl) (ae_ (a:=cg_ s++[128]) (room1 (by simp[iU_];omega) (by simp[iU_];omega)) (ae_ (a:=padL s) ?_ (ae_ (a:=padL s++lenL s.length) ?_ rfl)))
 .have h0:cg_ s++[128]=cg_ s++[128]++List.replicate 0 (0:Int):=by simp
  rw[h0];refine bv_ (T:=λk=>cg_ s++[128]++List.replicate k 0) (cq_ s.length) (Nat.lt_trans j (by decide)) (λk h=>?_) ?_
  .unfold oJ_;have f:(cg_ s++[128]++List.replicate k (0:Int)).length=s.length+1+k:=by simp[iU_];omega
   refine an_ ?_ (ae_ (a:=cg_ s++[128]++List.replicate (k+1) 0) ?_ rfl)
   .rw[f,tmod64];have:=zeros_lt s.length h;simp only[qDe];omega
   .rw[room1 (by rw[f];simp;omega) (by rw[f];simp;omega),List.replicate_succ',qy]
  .unfold oJ_;refine am_ ?_ rfl;have f:(cg_ s++[128]++List.replicate (cq_ s.length) (0:Int)).length=s.length+1+cq_ s.length:=by simp[iU_];omega
   rw[f,tmod64];have:=s2_ s.length;simp only[qDf];omega
 .have h0:padL s=padL s++(lenL s.length).take 0:=by simp
  have h1:lenL s.length=(lenL s.length).take 8:=by rw[zA (by simp[lenL])]
  rw[h1];refine Eq.trans ?_ (bv_ (body:=k9_ s) (T:=λk=>((56:Int)-8*(k:Int),padL s++(lenL s.length).take k)) 8 (by decide) (λk h=>?_) ?_)
  .rw[List.take_zero,zk];rfl
  .unfold k9_;refine an_ (by simp;omega) (ae_ (a:=(IntKind.u64.wrap (8*(IntKind.u64.wrap (s.length:Int)))).fdiv (2^(56-8*k))) ?_ (ae_ (a:=padL s++(lenL s.length).take (k+1)) ?_ ?_))
   .rw[shrI_eq (by show(0:Int)<=56-8*(k:Int);omega) (by show(56:Int)-8*(k:Int)<=(64:Nat);omega)]
    congr 3
    show((56:Int)-8*(k:Int)).toNat=_;omega
   .have f:=vi_ s;have m:((lenL s.length).take k).length<=8:=by simp[lenL];omega
    rw[room1 (by rw[qLa,f];simp only[qLc,zL];omega) (by rw[qLa,f];simp only[qLc,zL];omega),lenL_take _ h,qy]
   .show some (Step.next (w64 ((56:Int)-8*(k:Int)-8),_))=_;rw[ao_ ⟨by omega,by omega⟩]
    congr 3
    omega
  .unfold k9_;exact am_ (by simp) rfl
theorem big8(x:Int):gw_ x 8=some (let q:=λy:Int=>IntKind.u64.wrap (y.tdiv 256);let b:=λy:Int=>IntKind.u8.wrap (y.tmod 256);bytesS [b (q (q (q (q (q (q (q x))))))),b (q (q (q (q (q (q x)))))),b (q (q (q (q (q x))))),b (q (q (q (q x)))),b (q (q (q x))),b (q (q x)),b (q x),b x]):=by kernel_rfl
theorem big4(x:Int):gw_ x 4=some (let q:=λy:Int=>IntKind.u64.wrap (y.tdiv 256);let b:=λy:Int=>IntKind.u8.wrap (y.tmod 256);bytesS [b (q (q (q x))),b (q (q x)),b (q x),b x]):=by kernel_rfl
theorem q_eq{x:Int}(h0:0<=x)(h:x<18446744073709551616):IntKind.u64.wrap (x.tdiv 256)=x/256:=by
 rw[zd h0,wu64];omega
theorem b_eq{x:Int}(h0:0<=x):IntKind.u8.wrap (x.tmod 256)=x%256:=by
 rw[jY h0,wu8];omega
theorem fdiv_pos(x:Int)(n:Nat):x.fdiv (2^n)=x/2^n:=Int.fdiv_eq_ediv_of_nonneg _ (Int.le_of_lt (Int.pow_pos (by decide)))
theorem big8_eq{x:Int}(h0:0<=x)(h:x<18446744073709551616):gw_ x 8=some (bytesS ((List.range 8).map λj=>IntKind.u8.wrap (x.fdiv (2^(56-8*j))))):=by
 have f:∀y:Int,0<=y->y<18446744073709551616->0<=y/256/\y/256<18446744073709551616:=λy h1 J=>by omega
 have p:=f x h0 h;have a2:=f _ p.1 p.2;have a3:=f _ a2.1 a2.2;have a4:=f _ a3.1 a3.2;have a5:=f _ a4.1 a4.2;have m:=f _ a5.1 a5.2;have G:=f _ m.1 m.2;rw[big8];simp only[q_eq h0 h,q_eq p.1 p.2,q_eq a2.1 a2.2,q_eq a3.1 a3.2,q_eq a4.1 a4.2,q_eq a5.1 a5.2,q_eq m.1 m.2,b_eq h0,b_eq p.1,b_eq a2.1,b_eq a3.1,b_eq a4.1,b_eq a5.1,b_eq m.1,b_eq G.1];have e:((List.range 8).map λj=>IntKind.u8.wrap (x.fdiv (2^(56-8*j))))=[x/72057594037927936%256,x/281474976710656%256,x/1099511627776%256,x/4294967296%256,x/16777216%256,x/65536%256,x/256%256,x/1%256]:=by
  simp only[wu8,fdiv_pos];rfl
 rw[e];have F:x/256/256=x/65536:=by omega
 have D:x/65536/256=x/16777216:=by omega
 have C:x/16777216/256=x/4294967296:=by omega
 have u:x/4294967296/256=x/1099511627776:=by omega
 have s:x/1099511627776/256=x/281474976710656:=by omega
 have q:x/281474976710656/256=x/72057594037927936:=by omega
 simp only[F,D,C,u,s,q,Int.ediv_one]
theorem padded_eq(s:tR)(u:s.length<1099511627776):js_ s=some (padS s):=by
 have m:cq_ s.length<64:=by unfold cq_;omega
 have f:IntKind.u64.wrap ((IntKind.u64.wrap (s.length:Int))*8)=IntKind.u64.wrap (8*(IntKind.u64.wrap (s.length:Int))):=by rw[Int.mul_comm]
 have q:bytesS (padL s)=s++[128]++List.replicate (cq_ s.length) 0:=by
  unfold padL;rw[iH_,iH_,bytesS_strI]
  congr 1
  simp[bytesS]
 have h:∀k:Nat,(s++[128]++List.replicate k (0:UInt8)).length=s.length+1+k:=λk=>by simp;omega
 unfold js_;refine ae_ (a:=s++[128]) (im_ (by simp;omega)) (ae_ (a:=bytesS (padL s)) ?_ (ae_ (a:=bytesS (lenL s.length)) ?_ (ae_ (a:=padS s) ?_ rfl)))
 .rw[q];rw[show aj_ eh_ BIG (s++[128])=aj_ eh_ BIG (s++[128]++List.replicate 0 (0:UInt8))by simp];refine bv_ (T:=λk=>s++[128]++List.replicate k (0:UInt8)) (cq_ s.length) (Nat.lt_trans m (by decide)) (λk p=>?_) ?_
  .unfold eh_;refine an_ ?_ (ae_ (a:=s++[128]++List.replicate (k+1) (0:UInt8)) ?_ rfl)
   .rw[h,tmod64];have:=zeros_lt s.length p;simp only[qDe];omega
   .rw[im_ (by rw[h];simp;omega),List.replicate_succ',qy]
  .unfold eh_;refine am_ ?_ rfl;rw[h,tmod64];have:=s2_ s.length;simp only[qDf];omega
 .rw[f];have j:0<=IntKind.u64.wrap (8*(IntKind.u64.wrap (s.length:Int)))/\IntKind.u64.wrap (8*(IntKind.u64.wrap (s.length:Int)))<18446744073709551616:=by
   rw[wu64];omega
  rw[big8_eq j.1 j.2];rfl
 .unfold padS;rw[iH_];refine im_ ?_;rw[mt_,mt_,vi_];simp[lenL];omega
def init:Yf:=Yf.mk 1779033703 3144134277 1013904242 2773480762 1359893119 2600822924 528734635 1541459225
def sums(t:tR):Nat->Yf|0=>init|k+1=>mixS (sums t k) ((t.drop (64*k)).take 64)
def outL(h:Yf):tL Int:=h.l.flatMap λx=>[IntKind.u8.wrap (x.fdiv (2^24)),IntKind.u8.wrap (x.fdiv (2^16)),IntKind.u8.wrap (x.fdiv (2^8)),IntKind.u8.wrap x]
def shaS(s:tR):tR:=bytesS (outL (sums (padS s) ((padS s).length/64)))
theorem out_eq(h:Yf):aj_ (uu_ h) BIG (0,[])=some (outL h):=by
 cases h
 kernel_rfl
theorem Sum_eq(s:tR)(j:s.length<1099511627776):qS_ s=some (shaS s):=by
 have hm:=padS_mod s;have q:(padS s).length<1099511627900:=by
  rw[vj_];have p:cq_ s.length<64:=by unfold cq_;omega
  omega
 unfold qS_;refine ae_ (pad_eq s j) (ae_ (a:=sums (padS s) ((padS s).length/64)) ?_ (ae_ (a:=List.replicate 32 0) (by kernel_rfl) (ae_ (out_eq _) rfl)));generalize padS s=t at *
 have h0:(t,Yf.mk 1779033703 3144134277 1013904242 2773480762 1359893119 2600822924 528734635 1541459225)=(t.drop (64*0),sums t 0):=by simp[sums,init]
 rw[h0];refine bv_ (T:=λk=>(t.drop (64*k),sums t k)) (t.length/64) (cp_ (by omega)) (λk u=>?_) ?_
 .unfold oL_;have m:64*k+64<=t.length:=by omega
  have f:(t.drop (64*k)).length=t.length-64*k:=qk;refine an_ ?_ (ae_ (a:=(t.drop (64*k)).take 64) ?_ (ae_ (mix_eq (by rw[qX,f];omega) _) (ae_ (a:=t.drop (64*(k+1))) ?_ rfl)))
  .have:t.drop (64*k)≠[]:=λe=>by rw[e]at f;simp at f;omega
   cases h:t.drop (64*k)with
   | nil=>exact absurd h this
   | cons x l=>rfl
  .show aA_ (t.drop (64*k)) 0 64=_;rw[cM_ (by omega) (by omega) (by omega)];rfl
  .show aA_ (t.drop (64*k)) 64 ((t.drop (64*k)).length:Int)=_;rw[cM_ (by omega) (by omega) (by omega),qTn,List.take_length];show some ((t.drop (64*k)).drop 64)=_;rw[jW];rfl
 .unfold oL_;have:t.drop (64*(t.length/64))=[]:=List.drop_of_length_le (by omega);rw[this];exact am_ rfl rfl
theorem word_bound(h:Yf)(p:tR):∀x∈(mixS h p).l,0<=x/\x<4294967296:=by
 have f:∀n:Int,0<=IntKind.u32.wrap n/\IntKind.u32.wrap n<4294967296:=λn=>by
  rw[IntKind.wrap_u32];omega
 intro x hx;simp only[mixS,Yf.l,qV,List.not_mem_nil,or_false]at hx;rcases hx with rfl|rfl|rfl|rfl|rfl|rfl|rfl|rfl<;>exact f _
theorem sums_bound(t:tR):∀k,∀x∈(sums t k).l,0<=x/\x<4294967296
 | 0=>by
  intro x hx;simp only[sums,init,Yf.l,qV,List.not_mem_nil,or_false]at hx;omega
 | k+1=>word_bound _ _
theorem big4_eq{x:Int}(h0:0<=x)(h:x<4294967296):gw_ (IntKind.u64.wrap x) 4=some (bytesS [IntKind.u8.wrap (x.fdiv (2^24)),IntKind.u8.wrap (x.fdiv (2^16)),IntKind.u8.wrap (x.fdiv (2^8)),IntKind.u8.wrap x]):=by
 have hx:IntKind.u64.wrap x=x:=by rw[wu64];omega
 have j:∀y:Int,0<=y->y<18446744073709551616->0<=y/256/\y/256<18446744073709551616:=λy h1 q=>by omega
 have f:=j x h0 (by omega);have a2:=j _ f.1 f.2;have a3:=j _ a2.1 a2.2;rw[hx,big4];simp only[q_eq h0 (show x<18446744073709551616 by omega),q_eq f.1 f.2,q_eq a2.1 a2.2,b_eq h0,b_eq f.1,b_eq a2.1,b_eq a3.1];have e:[IntKind.u8.wrap (x.fdiv (2^24)),IntKind.u8.wrap (x.fdiv (2^16)),IntKind.u8.wrap (x.fdiv (2^8)),IntKind.u8.wrap x]=[x/16777216%256,x/65536%256,x/256%256,x%256]:=by
  simp only[wu8,fdiv_pos];rfl
 rw[e];have p:x/256/256=x/65536:=by omega
 have m:x/65536/256=x/16777216:=by omega
 simp only[p,m]
theorem ref_Sum_eq(s:tR)(q:s.length<1099511627776):nP_ s=some (shaS s):=by
 have hm:=padS_mod s;have J:(padS s).length<1099511627900:=by
  rw[vj_];have G:cq_ s.length<64:=by unfold cq_;omega
  omega
 unfold nP_ shaS;refine ae_ (padded_eq s q) ?_;generalize padS s=t at *
 refine ae_ (a:=(sums t (t.length/64)).l) ?_ (ae_ (a:=bytesS (outL (sums t (t.length/64)))) ?_ rfl)
 .refine bv_ (T:=λk=>(((64*k:Nat):Int),(sums t k).l)) (t.length/64) (cp_ (by omega)) (λk y=>?_) ?_
  .unfold mT_;have j:w64 (((64*k:Nat):Int)+64)=((64*(k+1):Nat):Int):=by rw[ao_ ⟨by omega,by omega⟩];omega
   refine an_ (by simp;omega) (ae_ (a:=(t.drop (64*k)).take 64) ?_ (ae_ (block_eq (by rw[qX,qk];omega) _) (by rw[j];rfl)));show aA_ t ((64*k:Nat):Int) (w64 (((64*k:Nat):Int)+64))=_;rw[j,cM_ (by omega) (by omega) (by omega),qTn,qTn,jV]
   congr 2
   omega
  .unfold mT_;exact am_ (by simp;omega) rfl
 .have D:=sums_bound t (t.length/64);generalize sums t (t.length/64)=h at *
  refine bv_ (T:=λk=>(bytesS ((h.l.take k).flatMap λx=>[IntKind.u8.wrap (x.fdiv (2^24)),IntKind.u8.wrap (x.fdiv (2^16)),IntKind.u8.wrap (x.fdiv (2^8)),IntKind.u8.wrap x]),(k:Int),h.l)) 8 (by decide) (λk y=>?_) ?_
  .unfold mU_;have u:h.l.length=8:=rfl;have f:k<h.l.length:=by omega
   have hx:=D h.l[k] (zU f);refine an_ (by simp;omega) (ae_ (bb_ f) (ae_ (big4_eq hx.1 hx.2) (ae_ (a:=bytesS ((h.l.take (k+1)).flatMap λx=>[IntKind.u8.wrap (x.fdiv (2^24)),IntKind.u8.wrap (x.fdiv (2^16)),IntKind.u8.wrap (x.fdiv (2^8)),IntKind.u8.wrap x])) ?_ (by rw[aS_ (by omega)]))));rw[List.take_add_one,qQ f,List.flatMap_append,iH_];have m:(bytesS ((h.l.take k).flatMap λx=>[IntKind.u8.wrap (x.fdiv (2^24)),IntKind.u8.wrap (x.fdiv (2^16)),IntKind.u8.wrap (x.fdiv (2^8)),IntKind.u8.wrap x])).length<=32:=by
    rw[mt_];have C:∀l:tL Int,(l.flatMap λx=>[IntKind.u8.wrap (x.fdiv (2^24)),IntKind.u8.wrap (x.fdiv (2^16)),IntKind.u8.wrap (x.fdiv (2^8)),IntKind.u8.wrap x]).length=4*l.length:=λl=>by
     induction l with
     | nil=>rfl
     | cons a l p=>rw[List.flatMap_cons,qLa,p];simp;omega
    rw[C,qX];omega
   rw[im_ (by
    have F:(bytesS [IntKind.u8.wrap (h.l[k].fdiv (2^24)),IntKind.u8.wrap (h.l[k].fdiv (2^16)),IntKind.u8.wrap (h.l[k].fdiv (2^8)),IntKind.u8.wrap h.l[k]]).length=4:=rfl;exact qN (Nat.add_le_add m (Nat.le_of_eq F)) (by decide))]
   rfl
  .unfold mU_;refine am_ (by simp) ?_;rfl
def pS_(k:Int)(d:tR):tR:=shaS (bytesS [IntKind.u8.wrap k]++d)
theorem Score_eq(k:Int){d:tR}(f:d.length<=1073741824):mn_ k d=some (pS_ k d):=by
 unfold mn_;have h1:(bytesS [IntKind.u8.wrap k]).length=1:=rfl;exact ae_ (im_ (by rw[h1];omega)) (ae_ (Sum_eq _ (by rw[qLa,h1];omega)) rfl)
theorem ref_Score_eq{k:Int}(h0:0<=k)(h:k<256){d:tR}(f:d.length<=1073741824):k0_ k d=some (pS_ k d):=by
 unfold k0_;have e:(w64 (k.tmod 256+256)).tmod 256=k:=by
  rw[jY h0,ao_ ⟨by omega,by omega⟩,jY (by omega)];omega
 rw[e];have h1:(bytesS [IntKind.u8.wrap k]).length=1:=rfl;exact ae_ (im_ (by rw[h1];omega)) (ae_ (ref_Sum_eq _ (by rw[qLa,h1];omega)) rfl)
def mk(k:Int)(d:tR):Zx:=Zx.mk (pS_ k d) k d
theorem made_eq(k:Int){d:tR}(f:d.length<=1073741824):mo_ k d=some (mk k d):=by
 unfold mo_;exact ae_ (Score_eq k f) rfl
def fi_(sc:tR)(b:Zx):tV:=b.Ya==sc
theorem at_loop{l:tL Zx}(sc:tR)(f:l.length<=9223372036854775807):mS_ l sc=some (at_ (fi_ sc) l):=by
 unfold mS_;have h:=b8_ (body:=kY_ l sc) l (λi x=>if fi_ sc x then some ((i:Nat):Int)else none) (Nat.lt_of_le_of_lt f (by decide)) (λi hi=>?_) ?_
 .rw[cI_ h (λr=>rfl) (x:=-1) rfl,pO_]
 .unfold kY_;refine an_ (fg_ hi) (ae_ (bb_ hi) ?_);unfold fi_;cases j:l[i].Ya==sc with
  | true=>rfl
  | false=>
   rw[aS_ (by omega)];rfl
 .unfold kY_;exact am_ (fD_ _) rfl
theorem index_eq{s:Xs}(sc:tR)(j:s.Xp.length<=9223372036854775807):k8_ s sc=some (at_ (fi_ sc) s.Xp):=by
 unfold k8_;refine ae_ (a:=at_ (fi_ sc) s.Xp) ?_ rfl;unfold cb_;generalize s.Xp=l at *
 have h:=b8_ (body:=bo_ l (λ(u1:Zx)=>Option.bind (lI_ u1 sc) λ(f:tV)=>some f)) l (λi x=>if fi_ sc x then some ((i:Nat):Int)else none) (Nat.lt_of_le_of_lt j (by decide)) (λi hi=>?_) ?_
 .rw[cI_ h (λr=>rfl) (x:=-1) rfl,pO_]
 .unfold bo_;refine an_ (fg_ hi) (ae_ (bb_ hi) (ae_ (a:=fi_ sc l[i]) rfl ?_));cases m:fi_ sc l[i]with
  | true=>rfl
  | false=>
   rw[aS_ (by omega)];rfl
 .unfold bo_;exact am_ (fD_ _) rfl
def mu_(s:Xs)(sc:tR):tO Zx:=s.Xp.find? (fi_ sc)
theorem q1_{s:Xs}{sc:tR}{b:Zx}(h:mu_ s sc=some b):b∈s.Xp/\b.Ya=sc:=by
 unfold mu_ at h;refine⟨zX h,?_⟩;have:=zz h;unfold fi_ at this;exact eq_of_beq this
theorem at_ge{l:tL Zx}(sc:tR):decide (at_ (fi_ sc) l>=0)=(l.find? (fi_ sc)).isSome:=by
 rcases pP_ (fi_ sc) l with⟨h1,f⟩|⟨i,x,h1,f,_⟩
 .rw[h1,f];rfl
 .rw[h1,f];simp
def getB(s:Xs)(sc:tR)(k:Int):tR×Int:=match mu_ s sc with|none=>([],35)|some b=>if b.Xj≠k then([],1)else if pS_ k b.Xi=sc then(b.Xi,0)else([],34)
theorem Get_eq{s:Xs}{k:Int}{sc:tR}(x:s.Xp.length<=1073741824)(u:∀b∈s.Xp,b.Xi.length<=1073741824):n8_ s sc k=some (getB s sc k):=by
 unfold n8_ getB;refine ae_ (index_eq sc (by omega)) ?_;rw[at_neg];show(bif(mu_ s sc).isNone then _ else _)=_;cases p:mu_ s sc with
 | none=>exact an_ rfl rfl
 | some b=>
  obtain⟨h1,q⟩:=q1_ p;have h:ah_ s.Xp (at_ (fi_ sc) s.Xp)=some b:=by
   rw[at_get (fi_ sc) s.Xp (by show(mu_ s sc).isNone=false;rw[p];rfl)];exact p
  refine am_ rfl (ae_ h ?_);simp only;by_cases f:b.Xj≠k
  .rw[qY f];exact an_ (by simpa using f) rfl
  .rw[qG f];refine am_ (by simpa using f) (ae_ h (ae_ h (ae_ (made_eq k (u b h1)) ?_)));have m:b.Xj=k:=Classical.not_not.1 f;by_cases j:pS_ k b.Xi=sc
   .rw[qY j];refine am_ ?_ (ae_ h rfl);have:b=mk k b.Xi:=by
     cases b
     simp only[mk,Zx.mk.injEq]at *
     exact⟨q.trans j.symm,m,trivial⟩
    simp[←this]
   .rw[qG j];refine an_ ?_ rfl;have:b≠mk k b.Xi:=λe=>j (by
     have:=qM Zx.Ya e;rw[q]at this;exact this.symm)
    simp[this]
theorem ref_Get_eq{s:Xs}{k:Int}{sc:tR}(m:0<=k/\k<256)(u:s.Xp.length<=1073741824)(q:∀b∈s.Xp,b.Xi.length<=1073741824):nQ_ s sc k=some (getB s sc k):=by
 unfold nQ_ getB;refine ae_ (at_loop sc (by omega)) ?_;rw[at_neg];show(bif(mu_ s sc).isNone then _ else _)=_;cases j:mu_ s sc with
 | none=>exact an_ rfl rfl
 | some b=>
  obtain⟨h1,x⟩:=q1_ j;have p:ah_ s.Xp (at_ (fi_ sc) s.Xp)=some b:=by
   rw[at_get (fi_ sc) s.Xp (by show(mu_ s sc).isNone=false;rw[j];rfl)];exact j
  refine am_ rfl (ae_ p ?_);simp only;by_cases f:b.Xj≠k
  .rw[qY f];exact an_ (by simpa using f) rfl
  .rw[qG f];refine am_ (by simpa using f) (ae_ (ref_Score_eq m.1 m.2 (q b h1)) ?_);by_cases h:pS_ k b.Xi=sc
   .rw[qY h];exact am_ (by simp[h]) rfl
   .rw[qG h];exact an_ (by simp[h]) rfl
def BlOK(b:Zx):Prop:=1<=b.Xj/\b.Xj<=4/\b.Xi.length<=1024/\b.Ya.length=32
structure StOK(s:Xs):Prop where
 cap1:1<=s.Zn
 cap2:s.Zn<=4096
 len:(s.Xp.length:Int)<=s.Zn
 all:∀b∈s.Xp,BlOK b
 nd:(s.Xp.map (·.Ya)).Nodup
theorem StOK.size{s:Xs}(h:StOK s):s.Xp.length<=4096:=by
 have:=h.len;have:=h.cap2;omega
def badB(l:tL Zx)(i:Nat)(b:Zx):tV:=((!(decide (b.Xj>=1)&&decide (b.Xj<=4)))||decide ((b.Xi.length:Int)>1024))||((b.Ya.length:Int)!=32)||decide (at_ (fi_ b.Ya) (l.take i)>=0)
theorem Right_scan{s:Xs}(f:s.Xp.length<=9223372036854775807):hL_ s=some (!(decide (s.Zn<1)||decide (s.Zn>4096)||decide ((s.Xp.length:Int)>s.Zn))&&((be_ (λi b=>if badB s.Xp i b then some false else none) 0 s.Xp).getD true)):=by
 unfold hL_;cases m:(decide (s.Zn<1)||decide (s.Zn>4096)||decide ((s.Xp.length:Int)>s.Zn))with
 | true=>rfl
 | false=>
  refine am_ rfl ?_;have h:=b8_ (body:=gZ_ s) s.Xp (λi b=>if badB s.Xp i b then some false else none) (Nat.lt_of_le_of_lt f (by decide)) (λi hi=>?_) ?_
  .rw[cI_ h (λr=>rfl) (x:=true) rfl];simp
  .unfold gZ_;refine an_ (fg_ hi) (ae_ (bb_ hi) (ae_ (a:=decide (s.Xp[i].Xj>=1)&&decide (s.Xp[i].Xj<=4)) rfl ?_));refine ae_ (a:=badB s.Xp i s.Xp[i]) ?_ ?_
   .unfold badB;cases j:((!(decide (s.Xp[i].Xj>=1)&&decide (s.Xp[i].Xj<=4)))||decide ((s.Xp[i].Xi.length:Int)>1024))||((s.Xp[i].Ya.length:Int)!=32)with
    | true=>rfl
    | false=>
     refine am_ rfl (ae_ (a:=s.Xp.take i) ?_ (ae_ (at_loop _ (by rw[qX];omega)) rfl));rw[cM_ (by omega) (by omega) (by omega)];rfl
   .cases p:badB s.Xp i s.Xp[i]with
    | true=>rfl
    | false=>
     rw[aS_ (by omega)];rfl
  .unfold gZ_;exact am_ (fD_ _) rfl
theorem nodup_iff{α:Type}{l:tL α}:l.Nodup↔∀i x,l[i]? = some x->x∉l.take i:=by
  constructor
  .intro h i x hx hm;obtain⟨j,f,e⟩:=List.getElem_of_mem hm;rw[qX]at f;rw[List.getElem_take]at e;have hi:i<l.length:=by
    rcases qb i l.length with m|m
    .exact m
    .rw[qe m]at hx;cases hx
   rw[qQ hi]at hx;have:=(List.nodup_iff_pairwise_ne.1 h);have s:=qr.1 this j i (by omega) hi (by omega);exact s (e.trans (qSj hx).symm)
  .intro h;refine List.nodup_iff_pairwise_ne.2 (qr.2 λi j hi f p e=>?_);refine h j l[j] (qQ f) ?_;rw[←e];have:i<(l.take j).length:=by rw[qX];omega
   have q:=zU this
   rwa [List.getElem_take]at q
theorem Right_iff{s:Xs}(u:s.Xp.length<=9223372036854775807):∃b,hL_ s=some b/\(b=true↔StOK s):=by
 refine⟨_,Right_scan u,?_⟩;have q:(be_ (λi b=>if badB s.Xp i b then some false else none) 0 s.Xp).getD true=true↔∀i x,s.Xp[i]? = some x->badB s.Xp i x=false:=by
  cases h:be_ (λi b=>if badB s.Xp i b then some false else none) 0 s.Xp with
  | none=>
   refine⟨λ_ i x hx=>?_,λ_=>rfl⟩;have:=scan_none.1 h i x hx;rw[qj]at this;cases p:badB s.Xp i x with
   | false=>rfl
   | true=>rw[p]at this;simp at this
  | some r=>
   obtain⟨i,x,h1,f,_⟩:=n9_ h;rw[qj]at f;refine⟨λe=>?_,λD=>?_⟩
   .split at f
    .obtain rfl:=qSj f;cases e
    .cases f
   .rw[D i x h1]at f;simp at f
 rw[qAn,q];have j:∀i x,badB s.Xp i x=false↔BlOK x/\x.Ya∉(s.Xp.take i).map (·.Ya):=λi x=>by
  unfold badB BlOK;rw[at_ge];have C:((s.Xp.take i).find? (fi_ x.Ya)).isSome=false↔x.Ya∉(s.Xp.take i).map (·.Ya):=by
   rw[←zm,List.find?_isSome];simp only[fi_,zZ,zQ]
  rw[qP,C];refine and_congr ?_ Iff.rfl;simp only[qP,jF,qAn,qDe,qDf,bne_eq_false_iff_eq];omega
 simp only[j];constructor
 .intro⟨h1,f⟩;simp only[qF,qP,qDf]at h1;refine⟨by omega,by omega,by omega,λb p=>?_,nodup_iff.2 λi x hx=>?_⟩
  .obtain⟨i,hi,e⟩:=List.getElem_of_mem p;exact(f i b (by rw[qQ hi,e])).1
  .rw[qt]at hx;cases m:s.Xp[i]? with
   | none=>rw[m]at hx;cases hx
   | some y=>
    rw[m]at hx;obtain rfl:=qSj hx;rw[←List.map_take];exact(f i y m).2
 .intro h;refine⟨?_,λi x hx=>⟨h.all x (qa hx),?_⟩⟩
  .have:=h.cap1;have:=h.cap2;have:=h.len;simp only[qF,qP,qDf];omega
  .have:=nodup_iff.1 h.nd i x.Ya (by rw[qt,hx];rfl)
   rwa [←List.map_take]at this
def nP(n:Nat):Nat:=max 1 ((n+1023)/1024)
theorem hg_{σ β:Type}{body:σ->tO (Step σ β)}{b:β}:∀{n m:Nat} {s:σ},aj_ body n s=some b->n<=m->aj_ body m s=some b
 | 0,_,_,h,_=>by cases h
 | n+1,0,_,_,hm=>by omega
 | n+1,m+1,s,h,hm=>by
  simp only[aj_]at h ⊢;cases f:body s with
  | none=>rw[f]at h;cases h
  | some x=>
   rw[f]at h;cases x with
   | done p=>exact h
   | next j=>exact hg_ (n:=n) (m:=m) (s:=j) h (by omega)
def bA:Nat->Nat->Nat|n,0=>n|n,l+1=>(bA n l+31)/32
theorem q2_{n:Nat}(h:n<=1073741824):∀l,bA n l<=1073741824
 | 0=>h
 | l+1=>by have:=q2_ h l;unfold bA;omega
theorem quo32{n:Nat}(h:n<=1073741824):IntKind.i64.wrap ((w64 ((w64 ((n:Int)+32))-1)).tdiv 32)=(((n+31)/32:Nat):Int):=by
 rw[ao_ (n:=(n:Int)+32) ⟨by omega,by omega⟩,ao_ ⟨by omega,by omega⟩,zd (by omega),kF_ ⟨by omega,by omega⟩];omega
theorem quo1024{n:Nat}(h:n<=1073741824):IntKind.i64.wrap ((w64 ((w64 ((n:Int)+1024))-1)).tdiv 1024)=(((n+1023)/1024:Nat):Int):=by
 rw[ao_ (n:=(n:Int)+1024) ⟨by omega,by omega⟩,ao_ ⟨by omega,by omega⟩,zd (by omega),kF_ ⟨by omega,by omega⟩];omega
theorem max_nP(n:Nat):by_ 1 (((n+1023)/1024:Nat):Int)=((nP n:Nat):Int):=by
 unfold by_ nP;split<;>omega
theorem oS_{n:Nat}(f:n<=1073741824){l:Nat}(j:l<=1073741824):d0_ (n:Int) (l:Int)=some ((bA (nP n) l:Nat):Int):=by
 unfold d0_;rw[quo1024 f,max_nP];have h:=q2_ (n:=nP n) (by unfold nP;omega);refine ae_ (a:=((bA (nP n) l:Nat):Int)) ?_ rfl;refine bv_ (T:=λi=>(((bA (nP n) i:Nat):Int),(i:Int))) l (cp_ (by omega)) (λi hi=>?_) ?_
 .unfold ga_;refine an_ (by simp;omega) ?_;show some (Step.next (IntKind.i64.wrap ((w64 ((w64 (((bA (nP n) i:Nat):Int)+32))-1)).tdiv 32),w64 ((i:Int)+1)))=_;rw[quo32 (h i),aS_ (by omega)];rfl
 .unfold ga_;exact am_ (by simp) rfl
def hN(n:Nat):Nat:=if n<=1 then 0 else if n<=32 then 1 else 2
theorem nP_le{n:Nat}(h:n<=1048576):1<=nP n/\nP n<=1024:=by unfold nP;omega
theorem bA_gt{n i:Nat}(h:n<=1024)(hi:i<hN n):1<bA n i:=by
 unfold hN at hi;split at hi
 .omega
 .split at hi
  .obtain rfl:i=0:=by omega
   show 1<n;omega
  .have:i=0\/i=1:=by omega
   rcases this with rfl|rfl
   .show 1<n;omega
   .show 1<(n+31)/32;omega
theorem bA_one{n:Nat}(h1:1<=n)(h:n<=1024):bA n (hN n)=1:=by
 unfold hN;split
 .show n=1;omega
 .split
  .show(n+31)/32=1;omega
  .show((n+31)/32+31)/32=1;omega
theorem hN_le(n:Nat):hN n<=2:=by unfold hN;split<;>(try split)<;>omega
theorem height_eq{n:Nat}(j:n<=1048576):he_ (n:Int)=some ((hN (nP n):Nat):Int):=by
 unfold he_;obtain⟨h,f⟩:=nP_le j;have m:=hN_le (nP n);refine ae_ (a:=((hN (nP n):Nat):Int)) ?_ rfl;refine bv_ (T:=λi=>(i:Int)) (hN (nP n)) (cp_ (by omega)) (λi hi=>?_) ?_
 .unfold hs_;refine ae_ (oS_ (by omega) (by omega)) (an_ ?_ (by rw[aS_ (by omega)]));have:=bA_gt f hi;simp only[qDe];omega
 .unfold hs_;refine ae_ (oS_ (by omega) (by omega)) (am_ ?_ rfl);rw[bA_one h f];rfl
theorem levels_ref{n:Nat}(j:n<=1048576):ju_ (n:Int)=some ((hN (nP n):Nat):Int):=by
 unfold ju_;rw[quo1024 (by omega),max_nP];obtain⟨h,f⟩:=nP_le j;have p:=hN_le (nP n);refine ae_ (a:=((hN (nP n):Nat):Int)) ?_ rfl;refine bv_ (T:=λi=>(((bA (nP n) i:Nat):Int),(i:Int))) (hN (nP n)) (cp_ (by omega)) (λi hi=>?_) ?_
 .unfold jt_;have:=bA_gt f hi;refine an_ (by simp only[qDe];omega) ?_;have m:=q2_ (n:=nP n) (by omega) i;simp only[quo32 m,aS_ (show i<9223372036854775807 by omega)];rfl
 .unfold jt_;refine am_ ?_ rfl;simp only[bA_one h f];rfl
open Go.Sort
theorem pT_{α:Type}{R:α->α->Prop}:∀{f l2:tL α},f.Perm l2->f.Pairwise R->l2.Pairwise R->(∀a,a∈f->∀b,b∈f->R a b->R b a->a=b)->f=l2
 | [],l2,j,_,_,_=>j.nil_eq
 | a::f,[],j,_,_,_=>absurd j.length_eq (by simp)
 | a::f,b::l2,j,h1,J,D=>by
  have p:=List.pairwise_cons.1 h1;have m:=List.pairwise_cons.1 J;have s:a=b:=by
   by_cases e:a=b
   .exact e
   have G:a∈b::l2:=j.subset qR;have C:b∈a::f:=j.symm.subset qR;rcases qV.1 G with h|u
   .exact h
   rcases qV.1 C with h|q
   .exact h.symm
   exact D a qR b C (p.1 b q) (m.1 a u)
  subst s;rw[pT_ j.cons_inv p.2 m.2 λx hx y F=>D x (qL _ hx) y (qL _ F)]
def leK{α:Type}(key:α->Int)(x y:α):tV:=decide (key x<=key y)
theorem key_inj{α:Type}{key:α->Int}:∀{l:tL α},(l.map key).Nodup->∀a,a∈l->∀b,b∈l->key a=key b->a=b
 | [],_,a,m,_,_,_=>by cases m
 | x::l,h,a,m,b,p,e=>by
  rw[zY]at h;obtain⟨h1,q⟩:=List.nodup_cons.1 h;rcases qV.1 m with j|j<;>rcases qV.1 p with f|f
  .rw[j,f]
  .rw[j]at e;exact absurd (zZ.2 ⟨b,f,e.symm⟩) h1
  .rw[f]at e;exact absurd (zZ.2 ⟨a,j,e⟩) h1
  .exact key_inj q a j b f e
theorem ux_{α:Type}[Inhabited α]{key:α->Int}{xs p:tL α}(h:hy_ key xs=some p):p.Perm xs/\p.Pairwise λa b=>leK key a b=true:=by
 unfold hy_ at h;split at h
 .obtain rfl:=qSj h;have u:=pdq_sorts (λ(x y:α)=>decide (key x<key y)) ⟨λx=>by simp,λx y z h1 m=>by simp at *;omega,λx y z h1 m=>by simp at *;omega⟩ xs.toArray 0 xs.length (Lib.bitLen xs.length) true true (qv _) (by simp) (Or.inl rfl);generalize Sort.pdq (λ(x y:α)=>decide (key x<key y)) xs.toArray 0 xs.length (Lib.bitLen xs.length) true true=d at u;obtain⟨⟨h1,_,m⟩,D⟩:=u;have f:d.size=xs.length:=by simpa using h1
  have G:d.extract 0 xs.length=d:=by rw[←f];simp
  have F:xs.toArray.extract 0 xs.length=xs.toArray:=by
   have:xs.length=xs.toArray.size:=by simp
   rw[this];simp
  rw[G,F]at m;refine⟨by simpa using m,qr.2 λi j hi C s=>?_⟩;have q:j<xs.length:=by simpa[f]using C
  have:=D i j (qv _) s q;rw[getElem!_pos d j (by omega),getElem!_pos d i (by omega)]at this;unfold leK;simp only[qDe,qDf]at *
  simpa using this
 .cases h
end Go.Proofs.YtokncnjohiobcaaGreatDoor
namespace Go.Proofs.YtokncnjohiobcaaGreatDoor
open Go.Rt Go.RowKit
def cc_{α σ ε:Type}(f:σ->α->σ ⊕ ε):σ->tL α->σ ⊕ ε
 | s,[]=>.inl s
 | s,x::l=>match f s x with
  | .inl h=>cc_ f h l
  | .inr e=>.inr e
def outS{σ ε β:Type}(fin:σ->β)(err:ε->β):σ ⊕ ε->β|.inl s=>fin s|.inr e=>err e
def stepS{σ ε τ β:Type}(mk:σ->τ)(err:ε->β):σ ⊕ ε->Step τ β|.inl s=>.next (mk s)|.inr e=>.done (err e)
theorem loop_runS{α σ ε τ β:Type}{body:τ->tO (Step τ β)}(xs:tL α)(f:σ->α->σ ⊕ ε)(mk:Nat->σ->τ)(Inv:Nat->σ->Prop)(fin:σ->β)(err:ε->β)(s0:σ)(u:xs.length<BIG)(h0:Inv 0 s0)
  (y:∀i s (h:i<xs.length),Inv i s->body (mk i s)=some (stepS (mk (i+1)) err (f s xs[i]))/\∀j,f s xs[i] = .inl j->Inv (i+1) j)
  (x:∀s,Inv xs.length s->body (mk xs.length s)=some (.done (fin s))):aj_ body BIG (mk 0 s0)=some (outS fin err (cc_ f s0 xs)):=by
 refine kG_ (J:=λi t b=>∃s,Inv i s/\t=mk i s/\b=outS fin err (cc_ f s (xs.drop i))) xs.length u (λt b p=>?_) (λi t b hi p=>?_) ⟨s0,h0,rfl,by simp⟩
 .obtain⟨s,q,rfl,rfl⟩:=p;rw[x s q];simp[cc_,outS]
 .obtain⟨s,q,rfl,rfl⟩:=p;obtain⟨h1,C⟩:=y i s hi q;rw[zM hi];simp only[cc_];cases m:f s xs[i]with
  | inl j=>
   rw[m]at h1;exact .inr ⟨_,h1,j,C j m,rfl,rfl⟩
  | inr b=>
   rw[m]at h1;exact .inl h1
theorem runS_inv'{σ ε:Type}{f:σ->Nat->σ ⊕ ε}(Inv:Nat->σ->Prop)(Q:ε->Prop):∀{m k:Nat} {s0:σ},Inv k s0->(∀i s,k<=i->i<k+m->Inv i s->(∀j,f s i = .inl j->Inv (i+1) j)/\∀e,f s i = .inr e->Q e) ->
  (∀s,cc_ f s0 (List.range' k m) = .inl s->Inv (k+m) s)/\∀e,cc_ f s0 (List.range' k m) = .inr e->Q e
 | 0,k,s0,h0,_=>⟨λs e=>by simp only[List.range',cc_,Sum.inl.injEq]at e;subst e;exact h0,λe h=>by simp[cc_]at h⟩
 | m+1,k,s0,h0,h=>by
  obtain⟨h1,x⟩:=h k s0 (qA _) (by omega) h0;simp only[List.range'_succ,cc_];cases p:f s0 k with
  | inl j=>
   obtain⟨q,i2⟩:=runS_inv' Inv Q (m:=m) (h1 j p) λi s hi u=>h i s (by omega) (by omega)
   refine⟨λs e=>?_,i2⟩;have:=q s e
   rwa [show k+1+m=k+(m+1)by omega]at this
  | inr e=>
   refine⟨λs e'=>(by cases e'),λe' y=>?_⟩;obtain rfl:=Sum.inr.inj y;exact x e p
theorem vk_{σ ε:Type}{f:σ->Nat->σ ⊕ ε}(Inv:Nat->σ->Prop)(Q:ε->Prop){n:Nat}{s0:σ}(h0:Inv 0 s0)(h:∀i s,i<n->Inv i s->(∀j,f s i = .inl j->Inv (i+1) j)/\∀e,f s i = .inr e->Q e) :
  (∀s,cc_ f s0 (List.range n) = .inl s->Inv n s)/\∀e,cc_ f s0 (List.range n) = .inr e->Q e:=by
 have:=runS_inv' (f:=f) Inv Q (m:=n) (k:=0) (s0:=s0) h0 λi s _ hi=>h i s (by omega)
 rwa [qj,←List.range_eq_range']at this
def blk(s:Xs)(sc:tR)(k:Int):tR×Int:=if(getB s sc k).2=1 then([],2)else getB s sc k
theorem pU_{s:Xs}(f:StOK s)(sc:tR)(k:Int):(blk s sc k).1.length<=1024:=by
 unfold blk;split
 .simp
 .unfold getB;split
  .simp
  .rename_i b h;split
   .simp
   .split
    .exact(f.all b (q1_ h).1).2.2.1
    .simp
theorem ns_{s:Xs}(f:StOK s)(sc:tR){k:Int}(j:0<=k/\k<256):fV_ s sc k=some (blk s sc k):=by
 unfold fV_ blk;refine ae_ (ref_Get_eq j (by have:=f.size;omega) λb m=>by have:=(f.all b m).2.2.1;omega) ?_;by_cases h:(getB s sc k).2=1
 .rw[qY h];exact an_ (by simp[h]) rfl
 .rw[qG h];exact am_ (by simp[h]) rfl
theorem gl_{s:Xs}(f:StOK s)(sc:tR)(k:Int){seen:tL tR}(m:seen.length<=1073741824) :
  b2_ (Xy.mk s seen) sc k=some (if(blk s sc k).2=0 then((blk s sc k).1,0,Xy.mk s (seen++[sc]))else([],(blk s sc k).2,Xy.mk s seen)):=by
 unfold b2_;refine ae_ (Get_eq (by have:=f.size;show s.Xp.length<=_;omega) λb j=>by have:=(f.all b j).2.2.1;omega) (ae_ (a:=(blk s sc k).2) ?_ ?_)
 .unfold blk;by_cases h:(getB s sc k).2=1
  .rw[qY h];exact an_ (by simp[h]) rfl
  .rw[qG h];exact am_ (by simp[h]) rfl
 .by_cases h:(blk s sc k).2=0
  .rw[qY h];refine am_ (by simp[h]) (ae_ (cL_ (by simp;omega) (by simp;omega)) ?_);have:(getB s sc k).1=(blk s sc k).1:=by
    unfold blk at h ⊢;split
    .rename_i h1;rw[qY h1]at h;cases h
    .rfl
   rw[this]
  .rw[qG h];exact an_ (by simp[h]) rfl
def ak_(l:Nat):Nat:=1024*32^l
theorem s3_(l:Nat):1024<=ak_ l:=by
 unfold ak_;have:1<=32^l:=Nat.pos_of_ne_zero (by simp);omega
theorem xq_(l:Nat):ak_ (l+1)=32*ak_ l:=by unfold ak_;rw[Nat.pow_succ];omega
abbrev Rd:=tR×tL tR×Int
def aw_(u len i:Nat):Nat:=min u (len-i*u)
def fRd(rec:tR->Nat->Nat->Nat->Rd)(d:tR)(u len a b:Nat)(acc:tR×tL tR)(i:Nat):(tR×tL tR) ⊕ Rd:=
 if min (b-i*u) (aw_ u len i)<=min (a-i*u) (aw_ u len i)then .inl acc else
  (λr:Rd=>if r.2.2=0 then .inl (acc.1++r.1,acc.2++r.2.1)else .inr ([],acc.2++r.2.1,r.2.2)) (rec ((d.drop (32*i)).take 32) (aw_ u len i) (min (a-i*u) (aw_ u len i)) (min (b-i*u) (aw_ u len i)))
def rdF(s:Xs)(k:Int):Nat->tR->Nat->Nat->Nat->Rd|0,sc,len,a,b=>if(blk s sc k).2=0 then(if(blk s sc k).1.length=len then(((blk s sc k).1.take b).drop a,[sc],0)else([],[sc],2))else([],[],(blk s sc k).2)|l+1,sc,len,a,b=>if(blk s sc 2).2=0 then(if(blk s sc 2).1.length=32*((len+ak_ l-1)/ak_ l)then outS (λacc=>(acc.1,acc.2,0)) (λr=>r) (cc_ (fRd (rdF s k l) (blk s sc 2).1 (ak_ l) len a b) ([],[sc]) (List.range ((len+ak_ l-1)/ak_ l)))else([],[sc],2))else([],[],(blk s sc 2).2)
def cv_:Nat->Nat|0=>1|l+1=>1+32*cv_ l
theorem od_ {s:Xs} (m:StOK s) (k:Int):∀(l:Nat) (sc:tR) (len a b:Nat),(rdF s k l sc len a b).1.length<=ak_ l/\(rdF s k l sc len a b).2.1.length<=cv_ l
 | 0,sc,len,a,b=>by
  have:=pU_ m sc k;unfold rdF;split
  .split
   .simp only[qk,qX,jZ,cv_];unfold ak_;omega
   .simp[cv_]
  .simp[cv_]
 | l + 1,sc,len,a,b=>by
  have G:=pU_ m sc 2;unfold rdF;split
  .split
   .rename_i F;have p:(len+ak_ l-1)/ak_ l<=32:=by omega
    generalize(len+ak_ l-1)/ak_ l=n at *
    have h:=vk_ (f:=fRd (rdF s k l) (blk s sc 2).1 (ak_ l) len a b) (λi acc=>acc.1.length<=i*ak_ l/\acc.2.length<=1+i*cv_ l) (λr=>r.1.length<=ak_ (l+1)/\r.2.1.length<=cv_ (l+1)) (n:=n) (s0:=([],[sc])) ⟨by simp,by simp⟩ λi acc hi ⟨u,q⟩=>?_
    .obtain⟨h1,x⟩:=h;cases hr:cc_ (fRd (rdF s k l) (blk s sc 2).1 (ak_ l) len a b) ([],[sc]) (List.range n)with
     | inl acc=>
      obtain⟨u,q⟩:=h1 acc hr;simp only[outS,xq_,cv_];exact⟨qN u (qf _ p),qN q (Nat.add_le_add_left (qf _ p) 1)⟩
     | inr r=>exact x r hr
    .obtain⟨D,C⟩:=od_ m k l (((blk s sc 2).1.drop (32*i)).take 32) (aw_ (ak_ l) len i) (min (a-i*ak_ l) (aw_ (ak_ l) len i)) (min (b-i*ak_ l) (aw_ (ak_ l) len i));have O:(i+1)*ak_ l=i*ak_ l+ak_ l:=zK _ _;have M:(i+1)*cv_ l=i*cv_ l+cv_ l:=zK _ _;have J:(i+1)*cv_ l<=32*cv_ l:=qf _ (by omega);unfold fRd;refine⟨λy j=>?_,λe j=>?_⟩
     .split at j
      .obtain rfl:=jL j;constructor<;>omega
      .simp only at j;split at j
       .obtain rfl:=jL j;simp only[qLa];constructor<;>omega
       .cases j
     .split at j
      .cases j
      .simp only at j;split at j
       .cases j
       .obtain rfl:=Sum.inr.inj j;simp only[qLa,zL,cv_];constructor<;>omega
   .simp only[zL,jZ,cv_];omega
  .simp[cv_]
theorem unit_eq{l:Nat}(f:l<=2):g1_ (l:Int)=some ((ak_ l:Nat):Int):=by
 have:l=0\/l=1\/l=2:=by omega
 rcases this with rfl|rfl|rfl
 .exact(by kernel_rfl:g1_ 0=some 1024)
 .exact(by kernel_rfl:g1_ 1=some 32768)
 .exact(by kernel_rfl:g1_ 2=some 1048576)
theorem vl_{l:Nat}(f:l<=2):b0_ (l:Int)=some ((ak_ l:Nat):Int):=by
 have:l=0\/l=1\/l=2:=by omega
 rcases this with rfl|rfl|rfl
 .exact(by kernel_rfl:b0_ 0=some 1024)
 .exact(by kernel_rfl:b0_ 1=some 32768)
 .exact(by kernel_rfl:b0_ 2=some 1048576)
theorem vm_{l:Nat}(f:l<=2):ak_ l<=1048576:=by
 have:l=0\/l=1\/l=2:=by omega
 rcases this with rfl|rfl|rfl<;>decide
theorem pV_(a b:Nat):bO_ (a:Int) (b:Int)=((min a b:Nat):Int):=by
 unfold bO_;split<;>omega
theorem max_sub(a b:Nat):by_ ((a:Int)-(b:Int)) 0=((a-b:Nat):Int):=by
 unfold by_;split<;>omega
theorem uy_ {s:Xs} (G:StOK s) {k:Int} (hk:0<=k/\k<256) (whole:tV):∀(l n:Nat) {sc:tR} {len a b:Nat},l<=2->l<n->len<=1048576->a<=b->b<=len->(whole=true->a=0/\b=len) ->
  ei_ n s sc k (l:Int) (len:Int) (a:Int) (b:Int) whole=some ((rdF s k l sc len a b).1,(rdF s k l sc len a b).2.2)
 | 0,n,sc,len,a,b,_,hn,M,ZS,hb,hw=>by
  obtain⟨n,rfl⟩:∃m,n=m+1:=⟨n-1,by omega⟩;show eZ_ (ei_ n) s sc k 0 len a b whole=_;unfold eZ_ rdF;refine an_ rfl (ae_ (ns_ G sc hk) ?_);by_cases h:(blk s sc k).2=0
  .rw[qY h];refine am_ (by simp[h]) ?_;by_cases D:(blk s sc k).1.length=len
   .rw[qY D];refine am_ (by simp[D]) (ae_ (cM_ (by omega) (by omega) (by omega)) ?_);rw[qTn,qTn]
   .rw[qG D];exact an_ (by simp;omega) rfl
  .rw[qG h];exact an_ (by simp[h]) rfl
 | l + 1,n,sc,len,a,b,hl,hn,M,ZS,hb,hw=>by
  obtain⟨n,rfl⟩:∃m,n=m+1:=⟨n-1,by omega⟩;show eZ_ (ei_ n) s sc k ((l+1:Nat):Int) len a b whole=_;have hu:=vm_ (l:=l) (by omega);have ZW:=s3_ l;have hd:=pU_ G sc 2;have el:w64 (((l+1:Nat):Int)-1)=(l:Int):=by rw[ao_ ⟨by omega,by omega⟩];omega
  have eq:eS_ .i64 (w64 ((w64 ((len:Int)+((ak_ l:Nat):Int)))-1)) ((ak_ l:Nat):Int)=some (((len+ak_ l-1)/ak_ l:Nat):Int):=by
   unfold eS_;rw[qG (by omega),ao_ (n:=(len:Int)+((ak_ l:Nat):Int)) ⟨by omega,by omega⟩,ao_ ⟨by omega,by omega⟩,zd (by omega)];have e:((len:Int)+((ak_ l:Nat):Int)-1)=((len+ak_ l-1:Nat):Int):=by omega
   have:(len+ak_ l-1)/ak_ l<=len+ak_ l-1:=Nat.div_le_self _ _;rw[e,←Int.natCast_ediv];generalize(len+ak_ l-1)/ak_ l=q at *
   rw[kF_ ⟨by omega,by omega⟩]
  unfold eZ_;rw[rdF];refine am_ (by simp;omega) (ae_ (ns_ G sc (by omega)) ?_);by_cases h:(blk s sc 2).2=0
  .rw [qY h];refine am_ (by simp[h]) (ae_ (by rw[el];exact unit_eq (by omega)) (ae_ eq ?_));have ZP:(len+ak_ l-1)/ak_ l<=1048576:=by
    have F:(len+ak_ l-1)/ak_ l<=(len+ak_ l-1)/1024:=Nat.div_le_div_left ZW (by omega);omega
   have U:w64 (32*(((len+ak_ l-1)/ak_ l:Nat):Int))=((32*((len+ak_ l-1)/ak_ l):Nat):Int):=by
    generalize(len+ak_ l-1)/ak_ l=q at *
    rw[ao_ ⟨by omega,by omega⟩];omega
   by_cases D:(blk s sc 2).1.length=32*((len+ak_ l-1)/ak_ l)
   .rw [qY D];refine am_ (by rw[U,D];simp) ?_;have ZQ:(len+ak_ l-1)/ak_ l<=32:=by omega
    have p:∀i,i<(len+ak_ l-1)/ak_ l->i*ak_ l<len:=λi hi=>by
     have F:(i+1)*ak_ l<=len+ak_ l-1:=qN (qf _ (by omega:i+1<=(len+ak_ l-1)/ak_ l)) (Nat.div_mul_le_self _ _);rw[zK]at F;omega
    generalize(len+ak_ l-1)/ak_ l=N at *
    have y:∀i,i<N->bO_ ((ak_ l:Nat):Int) (w64 ((len:Int)-w64 ((i:Int)*((ak_ l:Nat):Int))))=((aw_ (ak_ l) len i:Nat):Int)/\1<=aw_ (ak_ l) len i/\aw_ (ak_ l) len i<=len:=λi hi=>by
     have F:=p i hi;have V:(i:Int)*((ak_ l:Nat):Int)=((i*ak_ l:Nat):Int):=by simp
     rw[V,ao_ (n:=((i*ak_ l:Nat):Int)) ⟨by omega,by omega⟩,ao_ ⟨by omega,by omega⟩];have e2:(len:Int)-((i*ak_ l:Nat):Int)=((len-i*ak_ l:Nat):Int):=by omega
     rw[e2,pV_];unfold aw_;exact⟨rfl,by omega,by omega⟩
    have O:∀i,i<N->∀c:Nat,c<=len->bO_ (by_ (w64 ((c:Int)-w64 ((i:Int)*((ak_ l:Nat):Int)))) 0) (bO_ ((ak_ l:Nat):Int) (w64 ((len:Int)-w64 ((i:Int)*((ak_ l:Nat):Int)))))=((min (c-i*ak_ l) (aw_ (ak_ l) len i):Nat):Int):=λi hi c hc=>by
     have F:=p i hi;rw[(y i hi).1];have V:(i:Int)*((ak_ l:Nat):Int)=((i*ak_ l:Nat):Int):=by simp
     rw[V,ao_ (n:=((i*ak_ l:Nat):Int)) ⟨by omega,by omega⟩,ao_ ⟨by omega,by omega⟩,max_sub,pV_]
    have J:=λ(i:Nat) (hi:i<N)=>uy_ G hk whole l n (sc:=((blk s sc 2).1.drop (32*i)).take 32) (len:=aw_ (ak_ l) len i) (a:=min (a-i*ak_ l) (aw_ (ak_ l) len i)) (b:=min (b-i*ak_ l) (aw_ (ak_ l) len i)) (by omega) (by omega) (by have:=(y i hi).2.2;omega) (by omega) (by omega)
     (λZX=>by
      obtain⟨Z,Y⟩:=hw ZX;have F:=p i hi;subst Z;subst Y;unfold aw_;omega)
    have ZV:=loop_runS (body:=iw_ ((N:Nat):Int) (a:Int) ((ak_ l:Nat):Int) (len:Int) (b:Int) whole (blk s sc 2) (ei_ n) s k ((l+1:Nat):Int)) (List.range N) (fRd (rdF s k l) (blk s sc 2).1 (ak_ l) len a b) (λi acc=>(acc.1,(i:Int))) (λi acc=>acc.1.length<=i*ak_ l) (λacc=>Out.fall acc.1) (λr=>Out.ret (([]:tR),r.2.2)) ([],[sc]) (cp_ (by simp;omega)) (by simp) (λi acc hi hI=>?_) (λacc hI=>?_)
    .refine ae_ ZV ?_;have hq:=vk_ (f:=fRd (rdF s k l) (blk s sc 2).1 (ak_ l) len a b) (λ_ _=>True) (λr=>r.1=[]) (n:=N) (s0:=([],[sc])) trivial λi acc hi _=>⟨λ_ _=>trivial,λe j=>by
      unfold fRd at j;split at j
      .cases j
      .simp only at j;split at j
       .cases j
       .obtain rfl:=Sum.inr.inj j;rfl⟩
     cases hr:cc_ (fRd (rdF s k l) (blk s sc 2).1 (ak_ l) len a b) ([],[sc]) (List.range N)with
     | inl acc=>rfl
     | inr r=>
      simp only[outS];rw[hq.2 r hr]
    .have u:i<N:=by simpa using hi
     rw[List.getElem_range];obtain⟨z1,z2,z3⟩:=y i u;obtain⟨r1,_⟩:=od_ G k l (((blk s sc 2).1.drop (32*i)).take 32) (aw_ (ak_ l) len i) (min (a-i*ak_ l) (aw_ (ak_ l) len i)) (min (b-i*ak_ l) (aw_ (ak_ l) len i));have V:(i+1)*ak_ l=i*ak_ l+ak_ l:=zK _ _;have e2:i*ak_ l<=32*ak_ l:=qf _ (by omega);constructor
     .unfold iw_;refine an_ (by simp;omega) ?_;rw[O i u a (by omega),O i u b hb,z1];unfold fRd;by_cases C:min (b-i*ak_ l) (aw_ (ak_ l) len i)<=min (a-i*ak_ l) (aw_ (ak_ l) len i)
      .rw[qY C];have ZY:whole=false:=by
        cases ZZ:whole with
        | false=>rfl
        | true=>
         obtain⟨Z,Y⟩:=hw ZZ;have F:=p i u;subst Z;subst Y;unfold aw_ at C;omega
       refine ae_ (a:=Out.fall acc.1) (an_ (by rw[ZY];simp;omega) rfl) ?_;show some (Step.next (acc.1,w64 ((i:Int)+1)))=_;rw[aS_ (by omega)];rfl
      .rw[qG C];have es:w64 (32*(i:Int))=((32*i:Nat):Int):=by rw[ao_ ⟨by omega,by omega⟩];omega
       have ZR:w64 (((32*i:Nat):Int)+32)=((32*i+32:Nat):Int):=by rw[ao_ ⟨by omega,by omega⟩];omega
       have x:aA_ (blk s sc 2).1 (w64 (32*(i:Int))) (w64 ((w64 (32*(i:Int)))+32))=some (((blk s sc 2).1.drop (32*i)).take 32):=by
        rw[es,ZR,cM_ (by omega) (by omega) (by omega),qTn,qTn,jV,Nat.add_sub_cancel_left]
       have ZT:∀X:tO (Out tR (tR×Int)),(bif(decide (((min (a-i*ak_ l) (aw_ (ak_ l) len i):Nat):Int)>=((min (b-i*ak_ l) (aw_ (ak_ l) len i):Nat):Int)) && !whole)then some (Out.fall acc.1)else X)=X:=λX=>am_ (by simp;omega) rfl
       rw[ZT];have hr:=J i u;generalize rdF s k l (((blk s sc 2).1.drop (32*i)).take 32) (aw_ (ak_ l) len i) (min (a-i*ak_ l) (aw_ (ak_ l) len i)) (min (b-i*ak_ l) (aw_ (ak_ l) len i))=r at *
       have ZU:w64 (((l+1:Nat):Int)-1)=(l:Int):=el;rw[ZU];by_cases j:r.2.2=0
       .simp only[qY j];refine ae_ (a:=Out.fall (acc.1++r.1)) (ae_ x (ae_ hr (am_ (by simp[j]) (ae_ (im_ ?_) rfl)))) ?_
        .show acc.1.length+r.1.length<=_;omega
        .show some (Step.next (acc.1++r.1,w64 ((i:Int)+1)))=_;rw[aS_ (by omega)];rfl
       .simp only[qG j];exact ae_ (a:=Out.ret ([],r.2.2)) (ae_ x (ae_ hr (an_ (by simp[j]) rfl))) rfl
     .intro s' j;unfold fRd at j;split at j
      .obtain rfl:=jL j;omega
      .simp only at j;split at j
       .obtain rfl:=jL j;simp only[qLa];omega
       .cases j
    .unfold iw_;exact am_ (by simp) rfl
   .rw[qG D];refine an_ ?_ rfl;rw[U];simp only[jE,ne_eq];omega
  .rw[qG h];exact an_ (by simp[h]) rfl
theorem exp_eq{l L i:Nat}(j:l<=1)(h1:1<=L)(m:L<=1048576)(hi:i*ak_ (l+1)<L):min 32 (bA (nP L) l-32*i)=(aw_ (ak_ (l+1)) L i+ak_ l-1)/ak_ l/\32*i<bA (nP L) l:=by
 have j:l=0\/l=1:=by omega
 rcases j with rfl|rfl
 .have f:ak_ 1=32768:=rfl;have h:ak_ 0=1024:=rfl;rw[f]at hi;simp only[f,h,aw_,bA,nP];omega
 .have f:ak_ 2=1048576:=rfl;have h:ak_ 1=32768:=rfl;rw[f]at hi;simp only[f,h,aw_,bA,nP];omega
theorem cntN_le{l:Nat}(f:l<=2):cv_ l<=1057:=by
 have:l=0\/l=1\/l=2:=by omega
 rcases this with rfl|rfl|rfl<;>decide
def lx_(s:Xs)(k:Int)(l:Nat)(sc:tR)(L lo hi i:Nat):Rd:=rdF s k l sc (aw_ (ak_ l) L i) (min (lo-i*ak_ l) (aw_ (ak_ l) L i)) (min (hi-i*ak_ l) (aw_ (ak_ l) L i))
theorem part_eq {s:Xs} (hs:StOK s) (k:Int) {L lo hi:Nat} (hL:L<=1048576) (h1:lo<hi) (h2:hi<=L):∀(l n:Nat) {sc:tR} {i:Nat} {seen:tL tR},l<=2->l<n->i*ak_ l<hi->lo<i*ak_ l+ak_ l->seen.length+cv_ l<=1073741824 ->
  bu_ n (Xy.mk s seen) (Vr.mk k (L:Int) (lo:Int) (hi:Int)) sc (l:Int) (i:Int)=some ((lx_ s k l sc L lo hi i).1,(lx_ s k l sc L lo hi i).2.2,Xy.mk s (seen++(lx_ s k l sc L lo hi i).2.1))
 | 0,n,sc,i,seen,_,hn,h3,h4,h5=>by
  obtain⟨n,rfl⟩:∃m,n=m+1:=⟨n-1,by omega⟩;show bS_ (bu_ n) (Xy.mk s seen) _ sc 0 (i:Int)=_;have e0:ak_ 0=1024:=rfl;rw[e0]at h3 h4;have ei:w64 ((i:Int)*1024)=((i*1024:Nat):Int):=by rw[ao_ ⟨by omega,by omega⟩];omega
  have J:bR_ (Vr.mk k (L:Int) (lo:Int) (hi:Int)) 0 (i:Int)=some ((aw_ 1024 L i:Nat):Int):=by
   unfold bR_;refine an_ rfl ?_;show some (bO_ 1024 (w64 ((L:Int)-w64 ((i:Int)*1024))))=_;have e2:(L:Int)-((i*1024:Nat):Int)=((L-i*1024:Nat):Int):=by omega
   rw[ei,e2,ao_ ⟨by omega,by omega⟩];exact qM some (pV_ 1024 (L-i*1024))
  unfold bS_ lx_ rdF;rw[e0];refine ae_ (a:=k) (an_ rfl rfl) (ae_ (gl_ hs sc k (by simp[cv_]at h5;omega)) ?_);by_cases h:(blk s sc k).2=0
  .simp only[qY h];refine am_ rfl (ae_ J ?_);by_cases M:(blk s sc k).1.length=aw_ 1024 L i
   .rw[qY M];refine am_ (by simp[M]) (ae_ (a:=1024) (by kernel_rfl) (an_ rfl (ae_ (a:=((blk s sc k).1.take (min (hi-i*1024) (aw_ 1024 L i))).drop (min (lo-i*1024) (aw_ 1024 L i))) ?_ rfl)));show aA_ (blk s sc k).1 (by_ 0 (w64 ((lo:Int)-w64 ((i:Int)*1024)))) (bO_ ((blk s sc k).1.length:Int) (w64 ((hi:Int)-w64 ((i:Int)*1024))))=_;have e3:by_ 0 ((lo:Int)-((i*1024:Nat):Int))=((lo-i*1024:Nat):Int):=by
     unfold by_;split<;>omega
    have e4:(hi:Int)-((i*1024:Nat):Int)=((hi-i*1024:Nat):Int):=by omega
    rw[ei,ao_ (n:=(lo:Int)-((i*1024:Nat):Int)) ⟨by omega,by omega⟩,e3,e4,ao_ ⟨by omega,by omega⟩,pV_,M];have e5:min (lo-i*1024) (aw_ 1024 L i)=lo-i*1024:=by unfold aw_;omega
    rw[e5,Nat.min_comm,cM_ (by omega) (by unfold aw_;omega) (by rw[M];omega),qTn,qTn]
   .rw[qG M];exact an_ (by simp;omega) rfl
  .simp only[qG h];refine an_ (by simp[h]) ?_;rw[zk]
 | l + 1,n,sc,i,seen,hl,hn,h3,h4,h5=>by
  obtain⟨n,rfl⟩:∃m,n=m+1:=⟨n-1,by omega⟩;show bS_ (bu_ n) (Xy.mk s seen) _ sc ((l+1:Nat):Int) (i:Int)=_;have hu:=vm_ (l:=l) (by omega);have ZK:=s3_ l;have ZV:=xq_ l;have hc:=cntN_le (l:=l) (by omega);have hd:=pU_ hs sc 2;have el:w64 (((l+1:Nat):Int)-1)=(l:Int):=by rw[ao_ ⟨by omega,by omega⟩];omega
  obtain⟨x1,x2⟩:=exp_eq (l:=l) (L:=L) (i:=i) (by omega) (by omega) hL (by omega);have ZG:i<=i*ak_ (l+1):=Nat.le_mul_of_pos_right i (by omega);have ZE:=q2_ (n:=nP L) (by unfold nP;omega) l;have J:bR_ (Vr.mk k (L:Int) (lo:Int) (hi:Int)) ((l+1:Nat):Int) (i:Int)=some ((32*((aw_ (ak_ (l+1)) L i+ak_ l-1)/ak_ l):Nat):Int):=by
   unfold bR_;refine am_ (by simp;omega) (ae_ (by rw[el];exact oS_ (by omega) (by omega)) ?_);have e1:w64 ((i:Int)*32)=((i*32:Nat):Int):=by rw[ao_ ⟨by omega,by omega⟩];omega
   have e2:((bA (nP L) l:Nat):Int)-((i*32:Nat):Int)=((bA (nP L) l-32*i:Nat):Int):=by omega
   rw[e1,e2,ao_ (n:=((bA (nP L) l-32*i:Nat):Int)) ⟨by omega,by omega⟩];have e3:bO_ 32 ((bA (nP L) l-32*i:Nat):Int)=((min 32 (bA (nP L) l-32*i):Nat):Int):=pV_ 32 _;have ZJ:(aw_ (ak_ (l+1)) L i+ak_ l-1)/ak_ l<=32:=by rw[←x1];omega
   rw[e3,x1];generalize(aw_ (ak_ (l+1)) L i+ak_ l-1)/ak_ l=q at *
   rw[ao_ ⟨by omega,by omega⟩];rfl
  unfold bS_ lx_;rw[rdF];refine ae_ (a:=2) (am_ (by simp;omega) rfl) (ae_ (gl_ hs sc 2 (by simp[cv_]at h5;omega)) ?_);by_cases h:(blk s sc 2).2=0
  .simp only[qY h];refine am_ rfl (ae_ J ?_);by_cases M:(blk s sc 2).1.length=32*((aw_ (ak_ (l+1)) L i+ak_ l-1)/ak_ l)
   .rw [qY M];refine am_ (by rw[M];simp) (ae_ (vl_ hl) (am_ (by simp;omega) ?_));have ZM:aw_ (ak_ (l+1)) L i=min (32*ak_ l) (L-i*ak_ (l+1)):=by unfold aw_;rw[ZV]
    have Z:∀j,j<(aw_ (ak_ (l+1)) L i+ak_ l-1)/ak_ l->j*ak_ l<aw_ (ak_ (l+1)) L i:=λj G=>by
     have h7:(j+1)*ak_ l<=aw_ (ak_ (l+1)) L i+ak_ l-1:=qN (qf _ (by omega:j+1<=(aw_ (ak_ (l+1)) L i+ak_ l-1)/ak_ l)) (Nat.div_mul_le_self _ _);rw[zK]at h7;omega
    have hN:(aw_ (ak_ (l+1)) L i+ak_ l-1)/ak_ l<=32:=by rw[←x1];omega
    generalize ZO:aw_ (ak_ (l+1)) L i=len at *
    generalize(len+ak_ l-1)/ak_ l=N at *
    have ZY:(32*i)*ak_ l=i*ak_ (l+1):=by rw[ZV,zp 32 i,Nat.mul_assoc]
    have V:∀j,(32*i+j)*ak_ l=i*ak_ (l+1)+j*ak_ l:=λj=>by rw[Nat.add_mul,ZY]
    have ZZ:∀j,j<N->j*ak_ l+ak_ l<=32*ak_ l:=λj G=>by
     have:(j+1)*ak_ l<=32*ak_ l:=qf _ (by omega)
     rwa [zK]at this
    -- what a part of the part is
    have x:∀j,j<N->aw_ (ak_ l) len j=aw_ (ak_ l) L (32*i+j):=λj G=>by
     have:=ZZ j G;unfold aw_;rw[V j];omega
    have Y:∀j,j<N->∀c,min (min (c-i*ak_ (l+1)) len-j*ak_ l) (aw_ (ak_ l) len j)=min (c-(32*i+j)*ak_ l) (aw_ (ak_ l) L (32*i+j)):=λj G c=>by
     have:=ZZ j G;rw[←x j G,V j];unfold aw_;omega
    have C:∀j,j<N->(min (hi-(32*i+j)*ak_ l) (aw_ (ak_ l) L (32*i+j))<=min (lo-(32*i+j)*ak_ l) (aw_ (ak_ l) L (32*i+j))↔hi<=(32*i+j)*ak_ l\/(32*i+j)*ak_ l+ak_ l<=lo):=λj G=>by
     have h7:=Z j G;have h8:=x j G;have h9:(32*i+j)*ak_ l<L:=by rw[V j];omega
     unfold aw_;omega
    have ZP:=loop_runS (body:=c8_ ((blk s sc 2).1,0,Xy.mk s (seen++[sc])) ((l+1:Nat):Int) (i:Int) (Vr.mk k (L:Int) (lo:Int) (hi:Int)) (bu_ n)) (List.range N) (fRd (rdF s k l) (blk s sc 2).1 (ak_ l) len (min (lo-i*ak_ (l+1)) len) (min (hi-i*ak_ (l+1)) len)) (λj acc=>(acc.1,(j:Int),s.Zn,s.Xp,seen++acc.2)) (λj acc=>acc.1.length<=j*ak_ l/\acc.2.length<=1+j*cv_ l) (λacc=>Out.fall (acc.1,s.Zn,s.Xp,seen++acc.2)) (λr=>Out.ret (([]:tR),r.2.2,Xy.mk s (seen++r.2.1))) ([],[sc]) (cp_ (by simp;omega)) (by simp) (λj acc G hI=>?_) (λacc hI=>?_)
    .refine ae_ ZP ?_;have hq:=vk_ (f:=fRd (rdF s k l) (blk s sc 2).1 (ak_ l) len (min (lo-i*ak_ (l+1)) len) (min (hi-i*ak_ (l+1)) len)) (λ_ _=>True) (λr=>r.1=[]) (n:=N) (s0:=([],[sc])) trivial λi acc hi _=>⟨λ_ _=>trivial,λe u=>by
      unfold fRd at u;split at u
      .cases u
      .simp only at u;split at u
       .cases u
       .obtain rfl:=Sum.inr.inj u;rfl⟩
     cases hr:cc_ (fRd (rdF s k l) (blk s sc 2).1 (ak_ l) len (min (lo-i*ak_ (l+1)) len) (min (hi-i*ak_ (l+1)) len)) ([],[sc]) (List.range N)with
     | inl acc=>rfl
     | inr r=>
      simp only[outS];rw[hq.2 r hr]
    .have p:j<N:=by simpa using G
     rw[List.getElem_range];obtain⟨ZC,ZD⟩:=hI;have ZI:j*cv_ l+cv_ l<=32*cv_ l:=by
      have:(j+1)*cv_ l<=32*cv_ l:=qf _ (by omega)
      rwa [zK]at this
     have e1:(j+1)*ak_ l=j*ak_ l+ak_ l:=zK _ _;have e1c:(j+1)*cv_ l=j*cv_ l+cv_ l:=zK _ _;have ZH:=ZZ j p;have ZF:seen.length+(1+32*cv_ l)<=1073741824:=h5;have ZL:(32*i+j)*ak_ l<=2097152:=by
      have h7:=Z j p;rw[V j];omega
     have ZU:=λ(h8:(32*i+j)*ak_ l<hi) (h9:lo<(32*i+j)*ak_ l+ak_ l)=>part_eq hs k hL h1 h2 l n (sc:=((blk s sc 2).1.drop (32*j)).take 32) (i:=32*i+j) (seen:=seen++acc.2) (by omega) (by omega) h8 h9 (by rw[qLa];omega)
     obtain⟨r1,r2⟩:=od_ hs k l (((blk s sc 2).1.drop (32*j)).take 32) (aw_ (ak_ l) len j) (min (min (lo-i*ak_ (l+1)) len-j*ak_ l) (aw_ (ak_ l) len j)) (min (min (hi-i*ak_ (l+1)) len-j*ak_ l) (aw_ (ak_ l) len j));have ZR:w64 (w64 ((i:Int)*32)+(j:Int))=((32*i+j:Nat):Int):=by
      rw[ao_ (n:=(i:Int)*32) ⟨by omega,by omega⟩,ao_ ⟨by omega,by omega⟩];omega
     have ZW:w64 (((32*i+j:Nat):Int)*((ak_ l:Nat):Int))=(((32*i+j)*ak_ l:Nat):Int):=by
      rw[←Int.natCast_mul,ao_ ⟨by omega,by omega⟩]
     constructor
     .unfold c8_;have F:IntKind.i64.wrap (((blk s sc 2).1.length:Int).tdiv 32)=((N:Nat):Int):=by
       rw[M,zd (by omega),kF_ ⟨by omega,by omega⟩];omega
      refine an_ (by simp only[F,qDe];omega) ?_;simp only[el,ZR];have O:∀X:tO (Out (tR×Int×tL Zx×tL tR) (tR×Int×Xy)),((b0_ (l:Int)).bind λZX=>Option.bind (bif decide (w64 (((32*i+j:Nat):Int)*ZX)>=(hi:Int))then some true else(b0_ (l:Int)).bind λZS=>some (decide (w64 (w64 (((32*i+j:Nat):Int)*ZX)+ZS)<=(lo:Int)))) λ(ZT:tV)=>bif ZT then some (Out.fall (acc.1,s.Zn,s.Xp,seen++acc.2))else X)=if hi<=(32*i+j)*ak_ l\/(32*i+j)*ak_ l+ak_ l<=lo then some (Out.fall (acc.1,s.Zn,s.Xp,seen++acc.2))else X:=λX=>by
       refine ae_ (vl_ (by omega)) ?_;rw[ZW,vl_ (by omega)];have e7:w64 ((((32*i+j)*ak_ l:Nat):Int)+((ak_ l:Nat):Int))=(((32*i+j)*ak_ l+ak_ l:Nat):Int):=by rw[ao_ ⟨by omega,by omega⟩];omega
       simp only[qBs,e7];by_cases h8:hi<=(32*i+j)*ak_ l
       .rw[qY (.inl h8)];exact ae_ (a:=true) (an_ (by simp only[qDe];omega) rfl) rfl
       .by_cases h9:(32*i+j)*ak_ l+ak_ l<=lo
        .rw[qY (.inr h9)];exact ae_ (a:=true) (am_ (by simp only[qDf];omega) (by congr 1;simp only[qDe];omega)) rfl
        .rw[qG (by omega)];exact ae_ (a:=false) (am_ (by simp only[qDf];omega) (by congr 1;simp only[qDf];omega)) rfl
      rw[O];unfold fRd;rw[Y j p hi,Y j p lo];by_cases U:min (hi-(32*i+j)*ak_ l) (aw_ (ak_ l) L (32*i+j))<=min (lo-(32*i+j)*ak_ l) (aw_ (ak_ l) L (32*i+j))
      .rw[qY ((C j p).1 U)];rw[x j p,qY U];show some (Step.next (acc.1,w64 ((j:Int)+1),s.Zn,s.Xp,seen++acc.2))=_;rw[aS_ (by omega)];rfl
      .have D:=λh=>U ((C j p).2 h)
       rw[qG D];rw[x j p,qG U];have es:w64 ((j:Int)*32)=((32*j:Nat):Int):=by rw[ao_ ⟨by omega,by omega⟩];omega
       have ZN:w64 (w64 ((j:Int)+1)*32)=((32*j+32:Nat):Int):=by rw[aS_ (by omega),ao_ ⟨by omega,by omega⟩];omega
       have y:aA_ (blk s sc 2).1 (w64 ((j:Int)*32)) (w64 (w64 ((j:Int)+1)*32))=some (((blk s sc 2).1.drop (32*j)).take 32):=by
        rw[es,ZN,cM_ (by omega) (by omega) (by omega),qTn,qTn,jV,Nat.add_sub_cancel_left]
       have hr:=ZU (Nat.lt_of_not_le λh=>D (.inl h)) (Nat.lt_of_not_le λh=>D (.inr h));have ZQ:lx_ s k l (((blk s sc 2).1.drop (32*j)).take 32) L lo hi (32*i+j)=rdF s k l (((blk s sc 2).1.drop (32*j)).take 32) (aw_ (ak_ l) L (32*i+j)) (min (lo-(32*i+j)*ak_ l) (aw_ (ak_ l) L (32*i+j))) (min (hi-(32*i+j)*ak_ l) (aw_ (ak_ l) L (32*i+j))):=rfl;rw[ZQ]at hr;rw[Y j p hi,Y j p lo,x j p]at r1 r2;generalize rdF s k l (((blk s sc 2).1.drop (32*j)).take 32) (aw_ (ak_ l) L (32*i+j)) (min (lo-(32*i+j)*ak_ l) (aw_ (ak_ l) L (32*i+j))) (min (hi-(32*i+j)*ak_ l) (aw_ (ak_ l) L (32*i+j)))=r at *
       by_cases u:r.2.2=0
       .simp only[qY u];refine ae_ (a:=Out.fall (acc.1++r.1,s.Zn,s.Xp,seen++(acc.2++r.2.1))) (ae_ y (ae_ hr (am_ (by simp[u]) (ae_ (im_ ?_) ?_)))) ?_
        .show acc.1.length+r.1.length<=_;omega
        .rw[qy]
        .show some (Step.next (acc.1++r.1,w64 ((j:Int)+1),s.Zn,s.Xp,seen++(acc.2++r.2.1)))=_;rw[aS_ (by omega)];rfl
       .simp only[qG u];refine ae_ (a:=Out.ret ([],r.2.2,Xy.mk s (seen++(acc.2++r.2.1)))) (ae_ y (ae_ hr (an_ (by simp[u]) ?_))) rfl;rw[qy]
     .intro s' u;unfold fRd at u;split at u
      .obtain rfl:=jL u;omega
      .simp only at u;split at u
       .obtain rfl:=jL u;simp only[qLa];omega
       .cases u
    .have F:IntKind.i64.wrap (((blk s sc 2).1.length:Int).tdiv 32)=((N:Nat):Int):=by
      rw[M,zd (by omega),kF_ ⟨by omega,by omega⟩];omega
     unfold c8_;refine am_ ?_ rfl;simp only[F,List.length_range,qDf];omega
   .rw[qG M];refine an_ ?_ rfl;simp only[jE,ne_eq];omega
  .simp only[qG h];refine an_ (by simp[h]) ?_;rw[zk]
def fN_(r:Yl):tV:=(((r.Ya.length:Int)==32)&&decide (r.Yx>=0))&&decide (r.Yx<=1048576)&&(r.Jf==((hN (nP r.Yx.toNat):Nat):Int))
theorem valid_eq(r:Yl):iE_ r=some (fN_ r):=by
 unfold iE_ fN_;cases h:(((r.Ya.length:Int)==32)&&decide (r.Yx>=0))&&decide (r.Yx<=1048576)with
 | false=>rfl
 | true=>
  simp only[qAn,qDe]at h;refine ae_ (a:=(r.Jf==((hN (nP r.Yx.toNat):Nat):Int))) (an_ rfl ?_) rfl;have e:r.Yx=((r.Yx.toNat:Nat):Int):=by omega
  have f:=height_eq (n:=r.Yx.toNat) (by omega);rw[←e]at f;exact ae_ f rfl
theorem nt_(r:Yl):hM_ r=some (fN_ r):=by
 unfold hM_ fN_;cases h:(((r.Ya.length:Int)==32)&&decide (r.Yx>=0))&&decide (r.Yx<=1048576)with
 | false=>rfl
 | true=>
  simp only[qAn,qDe]at h;refine ae_ (a:=(r.Jf==((hN (nP r.Yx.toNat):Nat):Int))) (an_ rfl ?_) rfl;have e:r.Yx=((r.Yx.toNat:Nat):Int):=by omega
  have f:=levels_ref (n:=r.Yx.toNat) (by omega);rw[←e]at f;exact ae_ f rfl
theorem xr_{r:Yl}(h:fN_ r=true):∃n:Nat,r.Yx=(n:Int)/\n<=1048576/\r.Jf=((hN (nP n):Nat):Int)/\r.Ya.length=32:=by
 unfold fN_ at h;simp only[qAn,qDe,zQ]at h;exact⟨r.Yx.toNat,by omega,by omega,h.2,by omega⟩
def aD_(s:Xs)(k:Int)(r:Yl):Rd:=if fN_ r then rdF s k (hN (nP r.Yx.toNat)) r.Ya r.Yx.toNat 0 r.Yx.toNat else([],[],2)
theorem hN_zero:hN (nP 0)=0:=by decide
theorem top_size{n:Nat}(f:n<=1048576):aw_ (ak_ (hN (nP n))) n 0=n:=by
 have:n<=ak_ (hN (nP n)):=by
  unfold hN nP;split
  .show n<=1024;omega
  .split
   .show n<=32768;omega
   .exact f
 unfold aw_;omega
theorem contents_eq{s:Xs}(q:StOK s)(k:Int)(r:Yl){seen:tL tR}(F:seen.length<=1073000000) :
  cP_ (Xy.mk s seen) r k=some ((aD_ s k r).1,(aD_ s k r).2.2,Xy.mk s (seen++(aD_ s k r).2.1)):=by
 unfold cP_ aD_;refine ae_ (valid_eq r) ?_;by_cases hr:fN_ r=true
 .rw [hr,qY rfl];obtain⟨n,p,u,D,J⟩:=xr_ hr;refine am_ rfl ?_;have f:=hN_le (nP n);by_cases x:n=0
  .subst x;have y:rdF s k (hN (nP r.Yx.toNat)) r.Ya r.Yx.toNat 0 r.Yx.toNat=rdF s k 0 r.Ya 0 0 0:=by rw[p,qTn,hN_zero]
   refine an_ (by rw[p];rfl) ?_;rw[y];unfold rdF;refine ae_ (gl_ q r.Ya k (by omega)) ?_;by_cases h:(blk s r.Ya k).2=0
   .simp only[qY h];by_cases m:(blk s r.Ya k).1.length=0
    .rw[qY m];have j:(blk s r.Ya k).1=[]:=zT.1 m;refine ae_ (a:=0) (am_ (by rw[j];rfl) rfl) ?_;rw[j];rfl
    .rw[qG m];refine ae_ (a:=2) (an_ ?_ rfl) rfl;have j:(blk s r.Ya k).1≠[]:=λe=>m (by rw[e];rfl)
     simp[j]
   .simp only[qG h];refine ae_ (a:=(blk s r.Ya k).2) (am_ (by simp) rfl) ?_;rw[zk]
  .refine am_ (by rw[p];simp;omega) ?_;rw[p,D,qTn];have G:=cntN_le f;have h:=part_eq q k (L:=n) (lo:=0) (hi:=n) u (by omega) (qA _) (hN (nP n)) BIG (sc:=r.Ya) (i:=0) (seen:=seen) f (cp_ (by omega)) (by omega) (by have:=s3_ (hN (nP n));omega) (by omega);have C:lx_ s k (hN (nP n)) r.Ya n 0 n 0=rdF s k (hN (nP n)) r.Ya n 0 n:=by
    unfold lx_;rw[top_size u];simp
   rw[C]at h;exact ae_ h rfl
 .rw[qG hr];have:fN_ r=false:=by simpa using hr
  rw[this];refine an_ rfl ?_;rw[zk]
theorem oe_{s:Xs}(h:StOK s){k:Int}(j:0<=k/\k<256)(r:Yl):cV_ s k r=some ((aD_ s k r).1,(aD_ s k r).2.2):=by
 unfold cV_ aD_;refine ae_ (nt_ r) ?_;by_cases hr:fN_ r=true
 .rw[hr,qY rfl];obtain⟨n,q,p,m,u⟩:=xr_ hr;have f:=hN_le (nP n);refine am_ rfl ?_;rw[q,m,qTn];exact ae_ (uy_ h j true (hN (nP n)) BIG (len:=n) (a:=0) (b:=n) f (cp_ (by omega)) p (qv _) (qA _) λ_=>⟨rfl,rfl⟩) rfl
 .rw[qG hr];have:fN_ r=false:=by simpa using hr
  rw[this];exact an_ rfl rfl
theorem OkT.name{l:tL Xx}{next:Int}(h:OkT l next){n:Xx}(f:n∈l):n.Xk.length<=64:=by
 by_cases h1:n.Id_=1
 .obtain⟨r,q,rfl,m,_,j,_⟩:=h.root;have:n=r:=id_inj h.srt f qR (by rw[h1,m]);rw[this,j]
  decide
 .have:=h.nam n f h1;unfold fh_ at this;simp only[qAn,qDe]at this;exact this.1.1.1.2
theorem s4_{α σ ε:Type}{f:σ->α->σ ⊕ ε}(Inv:Nat->σ->Prop)(Q:ε->Prop):∀{xs:tL α} {k:Nat} {s0:σ},Inv k s0->(∀i s x,x∈xs->Inv i s->(∀j,f s x = .inl j->Inv (i+1) j)/\∀e,f s x = .inr e->Q e) ->
  (∀s,cc_ f s0 xs = .inl s->Inv (k+xs.length) s)/\∀e,cc_ f s0 xs = .inr e->Q e
 | [],k,s0,h0,_=>⟨λs e=>by simp only[cc_,Sum.inl.injEq]at e;subst e;exact h0,λe h=>by simp[cc_]at h⟩
 | x::l,k,s0,h0,h=>by
  obtain⟨h1,u⟩:=h k s0 x qR h0;simp only[cc_];cases m:f s0 x with
  | inl j=>
   obtain⟨p,i2⟩:=s4_ Inv Q (xs:=l) (h1 j m) λi s y q=>h i s y (qL _ q)
   refine⟨λs e=>?_,i2⟩;have:=p s e
   rwa [show k+1+l.length=k+(x::l).length by simp;omega]at this
  | inr e=>
   refine⟨λs e'=>(by cases e'),λe' C=>?_⟩;obtain rfl:=Sum.inr.inj C;exact u e m
def nD(s:tR)(w a:Nat):tO (Int×Nat):=if s.length-a<w\/leV (win s a w)>9223372036854775807 then none else some ((leV (win s a w):Int),a+w)
def tD(s:tR)(a:Nat):tO (tR×Nat):=takeT s a
def sD(s:tR)(a:Nat):tO (tR×Nat):=if s.length-a<32 then none else some (win s a 32,a+32)
theorem lc_{s:tR}{w a f:Nat}{v:Int}(j:a<=s.length)(h:nD s w a=some (v,f)):f<=s.length/\f=a+w/\0<=v/\v<=9223372036854775807:=by
 unfold nD at h;split at h
 .cases h
 .simp only[qOi,qC]at h;omega
theorem sD_le{s t:tR}{a f:Nat}(j:a<=s.length)(h:sD s a=some (t,f)):f<=s.length/\f=a+32/\t.length=32:=by
 unfold sD at h;split at h
 .cases h
 .simp only[qOi,qC]at h;obtain⟨h1,m⟩:=h;refine⟨by omega,by omega,?_⟩;rw[←h1,ja_ (by omega)]
def DS(s:tR)(o:tO Nat)(d:Yc):Prop:=d.s_=s/\d.Jx=o.isNone/\∃a:Nat,d.at_=(a:Int)/\a<=s.length/\∀b,o=some b->a=b
def RS(s:tR)(o:tO Nat)(d:Zg):Prop:=d.S_=s/\d.Zy=o.isNone/\∃a:Nat,d.At_=(a:Int)/\a<=s.length/\∀b,o=some b->a=b
theorem ld_{s:tR}(O:s.length<=2000000){o:tO Nat}{d:Yc}(h:DS s o d){w:Nat}(h1:1<=w)(F:w<=8) :
  ∃v D,aB_ d (w:Int)=some (v,D)/\DS s (o.bind λa=>(nD s w a).map (·.2)) D/\∀a q,o=some a->nD s w a=some q->v=q.1:=by
 obtain⟨M,u,a,J,x,G⟩:=h;unfold aB_;rw[M,J];have j:=get_eq s a w h1 F x (by omega);cases o with
 | none=>
  refine⟨_,_,ae_ j (an_ (by rw[u];rfl) rfl),⟨rfl,rfl,a,rfl,x,λb m=>by cases m⟩,λa q p=>by cases p⟩
 | some b=>
  obtain rfl:=G b rfl;simp only[qBs];unfold nD;by_cases C:s.length-a<w
  .rw[qY C]at j;rw[qY (.inl C)];exact⟨_,_,ae_ j (an_ (by rw[u];rfl) rfl),⟨rfl,rfl,a,rfl,x,λb m=>by cases m⟩,λa q p f=>by
    obtain rfl:=qSj p;rw[qY (.inl C)]at f;cases f⟩
  .rw[qG C]at j;by_cases y:leV (win s a w)>9223372036854775807
   .rw[qY y]at j;rw[qY (.inr y)];exact⟨_,_,ae_ j (an_ (by rw[u];rfl) rfl),⟨rfl,rfl,a,rfl,x,λb m=>by cases m⟩,λa q p f=>by
     obtain rfl:=qSj p;rw[qY (.inr y)]at f;cases f⟩
   .rw[qG y]at j;rw[qG (by omega)];exact⟨_,_,ae_ j (am_ (by rw[u];rfl) rfl),⟨rfl,u,a+w,rfl,by omega,λb m=>(qSj m).symm▸rfl⟩,λa q p f=>by
     obtain rfl:=qSj p;rw[qG (by omega)]at f;obtain rfl:=qSj f;rfl⟩
theorem d_text{s:tR}(F:s.length<=2000000){o:tO Nat}{d:Yc}(h:DS s o d) :
  ∃v D,bC_ d=some (v,D)/\DS s (o.bind λa=>(tD s a).map (·.2)) D/\∀a q,o=some a->tD s a=some q->v=q.1:=by
 obtain⟨M,y,a,J,C,G⟩:=h;unfold bC_;rw[M,J];have m:=gettext_eq s a C F;cases o with
 | none=>
  refine⟨_,_,ae_ m (an_ (by rw[y];rfl) rfl),⟨rfl,rfl,a,rfl,C,λb u=>by cases u⟩,λa q x=>by cases x⟩
 | some b=>
  obtain rfl:=G b rfl;simp only[qBs];unfold tD;cases f:takeT s a with
  | none=>
   rw[f]at m;exact⟨_,_,ae_ m (an_ (by rw[y];rfl) rfl),⟨rfl,rfl,a,rfl,C,λb u=>by cases u⟩,λa q x j=>by
    obtain rfl:=qSj x;rw[f]at j;cases j⟩
  | some p=>
   obtain⟨t,p⟩:=p;rw[f]at m;exact⟨_,_,ae_ m (am_ (by rw[y];rfl) rfl),⟨rfl,y,p,rfl,(np_ f).1,λb u=>qSj u⟩,λa q x j=>by
    obtain rfl:=qSj x;rw[f]at j;obtain rfl:=qSj j;rfl⟩
theorem d_score{s:tR}(O:s.length<=2000000){o:tO Nat}{d:Yc}(h:DS s o d) :
  ∃v D,dp_ d=some (v,D)/\DS s (o.bind λa=>(sD s a).map (·.2)) D/\∀a q,o=some a->sD s a=some q->v=q.1:=by
 obtain⟨M,u,a,J,C,G⟩:=h;unfold dp_;rw[M,J];have el:w64 ((s.length:Int)-(a:Int))=((s.length-a:Nat):Int):=by rw[ao_ ⟨by omega,by omega⟩];omega
 rw[el];cases o with
 | none=>
  refine⟨_,_,an_ (by rw[u];rfl) rfl,⟨rfl,rfl,a,rfl,C,λb m=>by cases m⟩,λa q p=>by cases p⟩
 | some b=>
  obtain rfl:=G b rfl;simp only[qBs];unfold sD;by_cases x:s.length-a<32
  .rw[qY x];exact⟨_,_,an_ (by rw[u];simp;omega) rfl,⟨rfl,rfl,a,rfl,C,λb m=>by cases m⟩,λa q p j=>by
    obtain rfl:=qSj p;rw[qY x]at j;cases j⟩
  .rw[qG x];have y:w64 ((a:Int)+32)=((a+32:Nat):Int):=by rw[ao_ ⟨by omega,by omega⟩];rfl
   have F:w64 (((a+32:Nat):Int)-32)=(a:Int):=by rw[ao_ ⟨by omega,by omega⟩];omega
   have f:aA_ s (w64 ((w64 ((a:Int)+32))-32)) (w64 ((a:Int)+32))=some (win s a 32):=by
    rw[y,F,cM_ (by omega) (by omega) (by omega),qTn,qTn,jV,Nat.add_sub_cancel_left];rfl
   exact⟨_,_,am_ (by rw[u];simp;omega) (ae_ f rfl),⟨rfl,u,a+32,y,by omega,λb m=>qSj m⟩,λa q p j=>by
    obtain rfl:=qSj p;rw[qG x]at j;obtain rfl:=qSj j;rfl⟩
theorem j2_{s:tR}(hs:s.length<=2000000){o:tO Nat}{d:Zg}(h:RS s o d){w:Nat}(h1:1<=w)(h8:w<=8) :
  ∃v d',az_ d (w:Int)=some (v,d')/\RS s (o.bind λa=>(nD s w a).map (·.2)) d'/\∀a q,o=some a->nD s w a=some q->v=q.1:=by
 obtain⟨F,O,a,D,e4,e5⟩:=h;unfold az_;have el:w64 ((s.length:Int)-(a:Int))=((s.length-a:Nat):Int):=by rw[ao_ ⟨by omega,by omega⟩];omega
 cases o with
 | none=>
  refine⟨_,_,an_ (by rw[O];rfl) rfl,⟨F,rfl,a,D,e4,λb y=>by cases y⟩,λa q C=>by cases C⟩
 | some b=>
  obtain rfl:=e5 b rfl;simp only[qBs];by_cases c1:s.length-a<w
  .unfold nD;rw[qY (.inl c1)];exact⟨_,_,an_ (by rw[F,O,D,el];simp;omega) rfl,⟨F,rfl,a,D,e4,λb y=>by cases y⟩,λa q C x=>by
    obtain rfl:=qSj C;rw[qY (.inl c1)]at x;cases x⟩
  .have h:a+w<=s.length:=by omega
   have hc:(d.Zy||decide ((w64 ((d.S_.length:Int)-d.At_))<(w:Int)))=false:=by rw[F,O,D,el];simp;omega
   have Z:∀j,j<=w->((win s a w).drop (w-j)).length=j:=λj u=>by rw[qk,ja_ h];omega
   have J:∀j,j<=w->leV ((win s a w).drop (w-j))<2^(8*j):=λj u=>by
    have:=leV_lt ((win s a w).drop (w-j))
    rwa [Z j u]at this
   have m:∀j,j<w->leV ((win s a w).drop (w-j))<36028797018963968->bB_ d (((leV ((win s a w).drop (w-j)):Nat):Int),(w:Int)-1-(j:Int))=some (.next (((leV ((win s a w).drop (w-(j+1))):Nat):Int),(w:Int)-1-((j+1:Nat):Int))):=λj u V=>by
    unfold bB_;refine an_ (by simp;omega) (am_ (by simp;omega) ?_);have ei:w64 (d.At_+((w:Int)-1-(j:Int)))=((a+(w-1-j):Nat):Int):=by
     rw[D,ao_ ⟨by omega,by omega⟩];omega
    show Option.bind (ap_ d.S_ (w64 (d.At_+((w:Int)-1-(j:Int))))) _=_;rw[ei,F];refine ae_ (nm_ (by omega)) ?_;rw[qY_ h u];simp only[leV];generalize s[a+(w-1-j)]'(by omega)=b;have y:=b.toNat_lt;generalize leV ((win s a w).drop (w-j))=v at V ⊢;show some (Step.next (w64 ((w64 ((v:Int)*256))+(w64 (b.toNat:Int))),w64 ((w:Int)-1-(j:Int)-1)))=_;rw[ao_ (n:=(v:Int)*256) ⟨by omega,by omega⟩,ao_ (n:=(b.toNat:Int)) ⟨by omega,by omega⟩,ao_ (n:=(v:Int)*256+(b.toNat:Int)) ⟨by omega,by omega⟩,ao_ ⟨by omega,by omega⟩]
    congr 3
    .omega
    .omega
   have f:∀j,j<w->j<=6->leV ((win s a w).drop (w-j))<36028797018963968:=λj u h6=>by
    have:=J j (by omega);have hp:2^(8*j)<=2^48:=Nat.pow_le_pow_right (by omega) (by omega);omega
   have p:(win s a w).drop (w-w)=win s a w:=by simp
   have e0:(win s a w).drop (w-0)=[]:=List.drop_eq_nil_of_le (by rw[ja_ h];omega);have estart:((0:Int),w64 ((w:Int)-1))=(((leV ((win s a w).drop (w-0)):Nat):Int),(w:Int)-1-((0:Nat):Int)):=by
    rw[e0,ao_ ⟨by omega,by omega⟩];simp[leV]
   by_cases G:leV (win s a w)>9223372036854775807
   .
    have U:w=8:=by
     have:=J w (qA _);rw[p]at this;rcases qb w 8 with h'|h'
     .have hp:2^(8*w)<=2^56:=Nat.pow_le_pow_right (by omega) (by omega);omega
     .omega
    subst U;have h7:¬leV ((win s a 8).drop (8-7))<36028797018963968:=by
     have M:=qY_ (s:=s) (at_:=a) (w:=8) (j:=7) h (by omega);have e8:(win s a 8).drop (8-(7+1))=win s a 8:=by simp
     rw[e8]at M;rw[M]at G;simp only[leV]at G;have:=(s[a+(8-1-7)]'(by omega)).toNat_lt;omega
    have Y:aj_ (bB_ d) BIG (0,w64 (((8:Nat):Int)-1))=some (.ret (0,Zg.mk d.S_ d.At_ true)):=by
     rw[estart];refine bv_ (T:=λj=>(((leV ((win s a 8).drop (8-j)):Nat):Int),((8:Nat):Int)-1-(j:Int))) 7 (by decide) (λj u=>m j (by omega) (f j (by omega) (by omega))) ?_;unfold bB_;exact an_ (by show decide (((8:Nat):Int)-1-((7:Nat):Int)>=0)=true;decide) (an_ (by show decide (((leV ((win s a 8).drop (8-7)):Nat):Int)>=36028797018963968)=true;simp only[qDe];omega) rfl)
    unfold nD;rw[qY (.inr G)];exact⟨_,_,am_ hc (ae_ Y rfl),⟨F,rfl,a,D,e4,λb y=>by cases y⟩,λa q C x=>by
     obtain rfl:=qSj C;rw[qY (.inr G)]at x;cases x⟩
   .have Y:aj_ (bB_ d) BIG (0,w64 ((w:Int)-1))=some (.fall ((leV (win s a w):Nat):Int)):=by
     rw[estart];refine bv_ (T:=λj=>(((leV ((win s a w).drop (w-j)):Nat):Int),(w:Int)-1-(j:Int))) w (cp_ (by omega)) (λj u=>m j u ?_) ?_
     .rcases qb 6 j with h6|h6
      .have:j=7/\w=8:=by omega
       obtain⟨rfl,rfl⟩:=this;have M:=qY_ (s:=s) (at_:=a) (w:=8) (j:=7) h (by omega);have e8:(win s a 8).drop (8-(7+1))=win s a 8:=by simp
       rw[e8]at M;rw[M]at G;simp only[leV]at G;omega
      .exact f j u h6
     .unfold bB_;refine am_ (by simp;omega) ?_;rw[p]
    unfold nD;rw[qG (by omega)];refine⟨_,_,am_ hc (ae_ Y rfl),⟨F,O,a+w,?_,by omega,λb y=>qSj y⟩,λa q C x=>by
     obtain rfl:=qSj C;rw[qG (by omega)]at x;obtain rfl:=qSj x;rfl⟩
    show w64 (d.At_+(w:Int))=_;rw[D,ao_ ⟨by omega,by omega⟩];rfl
theorem r_text{s:tR}(M:s.length<=2000000){o:tO Nat}{d:Zg}(h:RS s o d)(n:Nat)(O:n<=1000000) :
  ∃v C,bm_ d (n:Int)=some (v,C)/\RS s (o.bind λa=>if s.length-a<n then none else some (a+n)) C/\∀a,o=some a->¬s.length-a<n->v=win s a n:=by
 obtain⟨J,p,a,G,y,F⟩:=h;unfold bm_;have el:w64 ((s.length:Int)-(a:Int))=((s.length-a:Nat):Int):=by rw[ao_ ⟨by omega,by omega⟩];omega
 rw[J,G,el];cases o with
 | none=>
  exact⟨_,_,an_ (by rw[p];rfl) rfl,⟨rfl,rfl,a,rfl,y,λb j=>by cases j⟩,λa m=>by cases m⟩
 | some b=>
  obtain rfl:=F b rfl;simp only[qBs];by_cases q:s.length-a<n
  .rw[qY q];exact⟨_,_,an_ (by rw[p];simp;omega) rfl,⟨rfl,rfl,a,rfl,y,λb j=>by cases j⟩,λa m x=>by
    obtain rfl:=qSj m;exact absurd q x⟩
  .rw[qG q];have u:w64 ((a:Int)+(n:Int))=((a+n:Nat):Int):=by rw[ao_ ⟨by omega,by omega⟩];rfl
   have D:w64 (((a+n:Nat):Int)-(n:Int))=(a:Int):=by rw[ao_ ⟨by omega,by omega⟩];omega
   have f:aA_ s (w64 ((w64 ((a:Int)+(n:Int)))-(n:Int))) (w64 ((a:Int)+(n:Int)))=some (win s a n):=by
    rw[u,D,cM_ (by omega) (by omega) (by omega),qTn,qTn,jV,Nat.add_sub_cancel_left];rfl
   exact⟨_,_,am_ (by rw[p];simp;omega) (ae_ f rfl),⟨rfl,p,a+n,u,by omega,λb j=>qSj j⟩,λa m x=>by
    obtain rfl:=qSj m;rfl⟩
theorem of_{s:tR}(V:s.length<=2000000){o:tO Nat}{d:Zg}(h:RS s o d) :
  ∃v f t d2,az_ d 2=some (v,f)/\bm_ f v=some (t,d2)/\RS s (o.bind λa=>(tD s a).map (·.2)) d2/\∀a q,o=some a->tD s a=some q->t=q.1:=by
 obtain⟨v,f,h1,u,h3⟩:=j2_ V h (w:=2) (by omega) (by omega);cases o with
 | none=>
  obtain⟨O,M,a,J,C,G⟩:=u;have j:f.Zy=true:=M;refine⟨v,f,[],Zg.mk f.S_ f.At_ true,h1,?_,⟨O,rfl,a,J,C,λb F=>by cases F⟩,λa q Y=>by cases Y⟩;unfold bm_;exact an_ (by rw[j];rfl) rfl
 | some a=>
  have Y:a<=s.length:=by
   obtain⟨_,_,a',_,C,G⟩:=h;have:=G a rfl;omega
  simp only[qBs]at u ⊢;unfold tD takeT;by_cases D:s.length<a+2
  .rw[qY D];have y:nD s 2 a=none:=by unfold nD;rw[qY (.inl (by omega))]
   rw[y]at u;obtain⟨O,M,b,J,C,G⟩:=u;have j:f.Zy=true:=M;refine⟨v,f,[],Zg.mk f.S_ f.At_ true,h1,?_,⟨O,rfl,b,J,C,λb F=>by cases F⟩,λa' q p m=>by
    obtain rfl:=qSj p;rw[qY D]at m;cases m⟩
   unfold bm_;exact an_ (by rw[j];rfl) rfl
  .rw[qG D];have ZZ:=leV_two s a (by omega);have y:nD s 2 a=some ((leV (win s a 2):Int),a+2):=by unfold nD;rw[qG (by omega)]
   rw[y]at u;have hv:v=(leV (win s a 2):Int):=h3 a _ rfl y;subst hv;obtain⟨t,d2,g1,x,Z⟩:=r_text V u (leV (win s a 2)) (by omega);simp only[qS,qBs]at x Z;refine⟨_,f,t,d2,h1,g1,?_,λa' q p m=>?_⟩
   .by_cases U:s.length<a+2+leV (win s a 2)
    .rw[qY U];rw[qY (by omega)]at x;exact x
    .rw[qG U];rw[qG (by omega)]at x;exact x
   .obtain rfl:=qSj p;rw[qG D]at m;split at m
    .cases m
    .rename_i U;obtain rfl:=qSj m;exact Z (a+2) rfl (by omega)
def entD(s:tR)(a:Nat):tO (Xx×Yl×Nat):=(nD s 4 a).bind λG=>(nD s 4 G.2).bind λF=>(nD s 4 F.2).bind λD=>(nD s 4 D.2).bind λC=>(nD s 8 C.2).bind λy=>(nD s 8 y.2).bind λx=>(tD s x.2).bind λu=>(tD s u.2).bind λq=>(tD s q.2).bind λp=>(tD s p.2).bind λm=>(nD s 4 m.2).bind λj=>(nD s 1 j.2).bind λh=>(sD s h.2).bind λf=>some (Xx.mk G.1 F.1 D.1 u.1 C.1 q.1 p.1 m.1 y.1 x.1 [],Yl.mk f.1 j.1 h.1,f.2)
theorem ent_steps (s:tR) (o:tO Nat):(o.bind λa=>(entD s a).map (·.2.2))=(((((((((((((o.bind λa=>(nD s 4 a).map (·.2)).bind λa=>(nD s 4 a).map (·.2)).bind λa=>(nD s 4 a).map (·.2)).bind λa=>(nD s 4 a).map (·.2)).bind λa=>(nD s 8 a).map (·.2)).bind λa=>(nD s 8 a).map (·.2)).bind λa=>(tD s a).map (·.2)).bind λa=>(tD s a).map (·.2)).bind λa=>(tD s a).map (·.2)).bind λa=>(tD s a).map (·.2)).bind λa=>(nD s 4 a).map (·.2)).bind λa=>(nD s 1 a).map (·.2)).bind λa=>(sD s a).map (·.2)):=by
 cases o with
 | none=>rfl
 | some a =>
  simp only[qBs];unfold entD;cases nD s 4 a with
  | none=>rfl
  | some F  =>
   simp only[qBs,qS];cases nD s 4 F.2 with
   | none=>rfl
   | some D  =>
    simp only[qBs,qS];cases nD s 4 D.2 with
    | none=>rfl
    | some C  =>
     simp only[qBs,qS];cases nD s 4 C.2 with
     | none=>rfl
     | some y =>
      simp only[qBs,qS];cases nD s 8 y.2 with
      | none=>rfl
      | some x=>
       simp only[qBs,qS];cases nD s 8 x.2 with
       | none=>rfl
       | some u=>
        simp only[qBs,qS];cases tD s u.2 with
        | none=>rfl
        | some q=>
         simp only[qBs,qS];cases tD s q.2 with
         | none=>rfl
         | some p=>
          simp only[qBs,qS];cases tD s p.2 with
          | none=>rfl
          | some m=>
           simp only[qBs,qS];cases tD s m.2 with
           | none=>rfl
           | some j=>
            simp only[qBs,qS];cases nD s 4 j.2 with
            | none=>rfl
            | some h=>
             simp only[qBs,qS];cases nD s 1 h.2 with
             | none=>rfl
             | some f=>
              simp only[qBs,qS];cases sD s f.2<;>rfl
theorem d_entry{s:tR}(m:s.length<=2000000){o:tO Nat}{d:Yc}(h:DS s o d) :
  ∃x d',cl_ d=some (x,d')/\DS s (o.bind λa=>(entD s a).map (·.2.2)) d'/\∀a q,o=some a->entD s a=some q->x=Yv.mk q.1 q.2.1:=by
 obtain⟨v1,d1,a1,b1,c1⟩:=ld_ m h (w:=4) (by omega) (by omega);obtain⟨v2,d2,a2,b2,c2⟩:=ld_ m b1 (w:=4) (by omega) (by omega);obtain⟨v3,d3,a3,b3,c3⟩:=ld_ m b2 (w:=4) (by omega) (by omega);obtain⟨v4,d4,a4,b4,c4⟩:=ld_ m b3 (w:=4) (by omega) (by omega);obtain⟨v5,d5,a5,b5,c5⟩:=ld_ m b4 (w:=8) (by omega) (by omega);obtain⟨v6,d6,a6,b6,c6⟩:=ld_ m b5 (w:=8) (by omega) (by omega);obtain⟨v7,d7,a7,b7,c7⟩:=d_text m b6;obtain⟨v8,d8,a8,b8,c8⟩:=d_text m b7;obtain⟨v9,d9,a9,b9,c9⟩:=d_text m b8;obtain⟨ZD,ZA,ZH,ZL,ZP⟩:=d_text m b9;obtain⟨ZE,ZB,ZI,ZM,ZQ⟩:=ld_ m ZL (w:=4) (by omega) (by omega);obtain⟨ZF,ZC,ZJ,ZN,ZR⟩:=ld_ m ZM (w:=1) (by omega) (by omega)
 obtain⟨ZG,ZT,ZK,ZO,ZS⟩:=d_score m ZN;refine⟨_,ZT,ae_ a1 (ae_ a2 (ae_ a3 (ae_ a4 (ae_ a5 (ae_ a6 (ae_ a7 (ae_ a8 (ae_ a9 (ae_ ZH (ae_ ZI (ae_ ZJ (ae_ ZK rfl)))))))))))),?_,?_⟩
 .rw[ent_steps s o];exact ZO
 .intro a q ha f;subst ha;unfold entD at f;obtain⟨q1,j,f⟩:=qOb.1 f;obtain⟨q2,p,f⟩:=qOb.1 f;obtain⟨q3,u,f⟩:=qOb.1 f;obtain⟨q4,y,f⟩:=qOb.1 f;obtain⟨q5,C,f⟩:=qOb.1 f;obtain⟨q6,F,f⟩:=qOb.1 f;obtain⟨q7,G,f⟩:=qOb.1 f;obtain⟨q8,M,f⟩:=qOb.1 f;obtain⟨q9,Y,f⟩:=qOb.1 f;obtain⟨V,D,f⟩:=qOb.1 f;obtain⟨U,J,f⟩:=qOb.1 f;obtain⟨O,Z,f⟩:=qOb.1 f;obtain⟨ZZ,ZY,f⟩:=qOb.1 f;obtain rfl:=qSj f;have f1:=c1 a q1 rfl j;have f2:=c2 q1.2 q2 (by simp[j]) p;have f3:=c3 q2.2 q3 (by simp[j,p]) u;have f4:=c4 q3.2 q4 (by simp[j,p,u]) y;have f5:=c5 q4.2 q5 (by simp[j,p,u,y]) C;have f6:=c6 q5.2 q6 (by simp[j,p,u,y,C]) F;have f7:=c7 q6.2 q7 (by simp[j,p,u,y,C,F]) G
  have f8:=c8 q7.2 q8 (by simp[j,p,u,y,C,F,G]) M;have f9:=c9 q8.2 q9 (by simp[j,p,u,y,C,F,G,M]) Y;have ZU:=ZP q9.2 V (by simp[j,p,u,y,C,F,G,M,Y]) D;have ZV:=ZQ V.2 U (by simp[j,p,u,y,C,F,G,M,Y,D]) J;have ZW:=ZR U.2 O (by simp[j,p,u,y,C,F,G,M,Y,D,J]) Z;have ZX:=ZS O.2 ZZ (by simp[j,p,u,y,C,F,G,M,Y,D,J,Z]) ZY;rw[f1,f2,f3,f4,f5,f6,f7,f8,f9,ZU,ZV,ZW,ZX]
theorem sD_text{s:tR}{a:Nat}:(sD s a).map (·.2)=if s.length-a<32 then none else some (a+32):=by
 unfold sD;split<;>rfl
theorem r_entry{s:tR}(m:s.length<=2000000){o:tO Nat}{d:Zg}(h:RS s o d) :
  ∃n r d',dW_ d=some (n,r,d')/\RS s (o.bind λa=>(entD s a).map (·.2.2)) d'/\∀a q,o=some a->entD s a=some q->n=q.1/\r=q.2.1:=by
 obtain⟨v1,d1,a1,b1,c1⟩:=j2_ m h (w:=4) (by omega) (by omega);obtain⟨v2,d2,a2,b2,c2⟩:=j2_ m b1 (w:=4) (by omega) (by omega);obtain⟨v3,d3,a3,b3,c3⟩:=j2_ m b2 (w:=4) (by omega) (by omega);obtain⟨v4,d4,a4,b4,c4⟩:=j2_ m b3 (w:=4) (by omega) (by omega);obtain⟨v5,d5,a5,b5,c5⟩:=j2_ m b4 (w:=8) (by omega) (by omega);obtain⟨v6,d6,a6,b6,c6⟩:=j2_ m b5 (w:=8) (by omega) (by omega);obtain⟨_,_,v7,d7,a7,ZH,b7,c7⟩:=of_ m b6;obtain⟨_,_,v8,d8,a8,ZI,b8,c8⟩:=of_ m b7;obtain⟨_,_,v9,d9,a9,ZJ,b9,c9⟩:=of_ m b8;obtain⟨_,_,Zz,Zt,ZD,ZY,ZK,ZO⟩:=of_ m b9;obtain⟨ZA,Zu,ZE,ZL,ZP⟩:=j2_ m ZK (w:=4) (by omega) (by omega);obtain⟨ZB,Zy,ZF,ZM,ZQ⟩:=j2_ m ZL (w:=1) (by omega) (by omega)
 obtain⟨ZC,ZS,ZG,ZN,ZR⟩:=r_text m ZM 32 (by omega);refine⟨_,_,ZS,ae_ a1 (ae_ a2 (ae_ a3 (ae_ a4 (ae_ a5 (ae_ a6 (ae_ a7 (ae_ ZH (ae_ a8 (ae_ ZI (ae_ a9 (ae_ ZJ (ae_ ZD (ae_ ZY (ae_ ZE (ae_ ZF (ae_ ZG rfl)))))))))))))))),?_,?_⟩
 .have e:(o.bind λa=>(entD s a).map (·.2.2))=(((((((((((((o.bind λa=>(nD s 4 a).map (·.2)).bind λa=>(nD s 4 a).map (·.2)).bind λa=>(nD s 4 a).map (·.2)).bind λa=>(nD s 4 a).map (·.2)).bind λa=>(nD s 8 a).map (·.2)).bind λa=>(nD s 8 a).map (·.2)).bind λa=>(tD s a).map (·.2)).bind λa=>(tD s a).map (·.2)).bind λa=>(tD s a).map (·.2)).bind λa=>(tD s a).map (·.2)).bind λa=>(nD s 4 a).map (·.2)).bind λa=>(nD s 1 a).map (·.2)).bind λa=>if s.length-a<32 then none else some (a+32)):=by
   simp only[←sD_text];exact ent_steps s o
  rw[e];exact ZN
 .intro a q ha f;subst ha;unfold entD at f;obtain⟨q1,j,f⟩:=qOb.1 f;obtain⟨q2,p,f⟩:=qOb.1 f;obtain⟨q3,x,f⟩:=qOb.1 f;obtain⟨q4,y,f⟩:=qOb.1 f;obtain⟨q5,C,f⟩:=qOb.1 f;obtain⟨q6,G,f⟩:=qOb.1 f;obtain⟨q7,J,f⟩:=qOb.1 f;obtain⟨q8,O,f⟩:=qOb.1 f;obtain⟨q9,Y,f⟩:=qOb.1 f;obtain⟨V,F,f⟩:=qOb.1 f;obtain⟨U,M,f⟩:=qOb.1 f;obtain⟨u,Z,f⟩:=qOb.1 f;obtain⟨ZX,D,f⟩:=qOb.1 f;obtain rfl:=qSj f;have f1:=c1 a q1 rfl j;have f2:=c2 q1.2 q2 (by simp[j]) p;have f3:=c3 q2.2 q3 (by simp[j,p]) x;have f4:=c4 q3.2 q4 (by simp[j,p,x]) y;have f5:=c5 q4.2 q5 (by simp[j,p,x,y]) C;have f6:=c6 q5.2 q6 (by simp[j,p,x,y,C]) G;have f7:=c7 q6.2 q7 (by simp[j,p,x,y,C,G]) J
  have f8:=c8 q7.2 q8 (by simp[j,p,x,y,C,G,J]) O;have f9:=c9 q8.2 q9 (by simp[j,p,x,y,C,G,J,O]) Y;have ZT:=ZO q9.2 V (by simp[j,p,x,y,C,G,J,O,Y]) F;have ZU:=ZP V.2 U (by simp[j,p,x,y,C,G,J,O,Y,F]) M;have ZV:=ZQ U.2 u (by simp[j,p,x,y,C,G,J,O,Y,F,M]) Z;have ZZ:¬s.length-u.2<32/\ZX=(win s u.2 32,u.2+32):=by
   unfold sD at D;split at D
   .cases D
   .rename_i hh;exact⟨hh,(qSj D).symm⟩
  have ZW:=ZR u.2 (by simp[j,p,x,y,C,G,J,O,Y,F,M,Z]) ZZ.1;rw[f1,f2,f3,f4,f5,f6,f7,f8,f9,ZT,ZU,ZV,ZW,ZZ.2];exact⟨rfl,rfl⟩
theorem tD_{s:tR}{a:Nat}{q:Xx×Yl×Nat}(ha:a<=s.length)(h:entD s a=some q):q.2.2<=s.length/\a+77<=q.2.2/\q.1.Xg<=9223372036854775807/\q.1.Xk.length<=s.length:=by
 unfold entD at h;obtain⟨q1,p1,h⟩:=qOb.1 h;obtain⟨q2,p2,h⟩:=qOb.1 h;obtain⟨q3,Z,h⟩:=qOb.1 h;obtain⟨q4,Y,h⟩:=qOb.1 h;obtain⟨q5,V,h⟩:=qOb.1 h;obtain⟨q6,U,h⟩:=qOb.1 h;obtain⟨q7,O,h⟩:=qOb.1 h;obtain⟨q8,M,h⟩:=qOb.1 h;obtain⟨q9,J,h⟩:=qOb.1 h;obtain⟨G,p,h⟩:=qOb.1 h;obtain⟨F,m,h⟩:=qOb.1 h;obtain⟨D,j,h⟩:=qOb.1 h;obtain⟨C,f,h⟩:=qOb.1 h;obtain rfl:=qSj h;have b1:=lc_ ha p1;have b2:=lc_ b1.1 p2;have b3:=lc_ b2.1 Z;have b4:=lc_ b3.1 Y;have b5:=lc_ b4.1 V;have b6:=lc_ b5.1 U;have b7:=np_ O;have b8:=np_ M;have b9:=np_ J;have y:=np_ p;have x:=lc_ y.1 m;have u:=lc_ x.1 j;have ZZ:=sD_le u.1 f;simp only;omega
def gm_(s:tR):Nat->Nat->tO (tL (Xx×Yl))|0,_=>none|f+1,a=>if a<s.length then(entD s a).bind λq=>(gm_ s f q.2.2).map λl=>(q.1,q.2.1)::l else some []
def ev_(q:Xx×Yl):Yv:=Yv.mk q.1 q.2
theorem P_entries{s:tR}(D:s.length<=2000000):∀(f a:Nat) (out:tL Yv) {d:Yc},DS s (some a) d->a<=s.length->s.length-a<f->out.length<=a ->
  ∃o,aj_ (cm_ s) (f+1) (d,out)=some o/\match gm_ s f a with|some l=>o.1.Jx=false/\o.2=out++l.map ev_|none=>o.1.Jx=true
 | 0,a,out,d,_,_,V,_=>by omega
 | f + 1,a,out,d,G,Y,V,ho=>by
  obtain⟨e1,O,C,M,_,e5⟩:=id G;obtain rfl:=e5 a rfl;unfold gm_;by_cases j:C<s.length
  .rw[qY j];obtain⟨x,y,h1,u,Z⟩:=d_entry D G;have h:cm_ s (d,out)=some (.next (y,out++[x])):=by
    unfold cm_;refine an_ (by simp only[O,M];simp;omega) (ae_ h1 (ae_ (cL_ (by simp;omega) (by simp;omega)) rfl))
   cases p:entD s C with
   | none=>
    simp only[qBs,p,zI]at u;have J:y.Jx=true:=u.2.1;refine⟨(y,out++[x]),dH_ h (bD_ (n:=f) ?_),J⟩;unfold cm_;exact am_ (by simp[J]) rfl
   | some q=>
    obtain⟨U,l2,_⟩:=tD_ Y p;simp only[qBs,p,qS]at u ⊢;obtain⟨o,g1,m⟩:=P_entries D f q.2.2 (out++[x]) u U (by omega) (by simp;omega);refine⟨o,dH_ h g1,?_⟩;have hx:=Z C q rfl p;cases F:gm_ s f q.2.2 with
    | none=>rw[F]at m;exact m
    | some l=>
     rw[F]at m;refine⟨m.1,?_⟩;rw[m.2,hx];simp[ev_]
  .rw[qG j];refine⟨(d,out),bD_ ?_,O,by simp⟩;unfold cm_;exact am_ (by simp only[M];simp;omega) rfl
def hh_(s:tR)(id:Int)(f a:Nat):tO (tL (Xx×Yl)):=(gm_ s f a).bind λl=>if l.all (λq=>q.1.Xn==id)then some l else none
theorem R_entries{s:tR}(G:s.length<=2000000)(n:Xx)(e:Int):∀(f a:Nat) (ns:tL Xx) (rs:tL Yl) {d:Zg},RS s (some a) d->a<=s.length->s.length-a<f->ns.length<=a->rs.length<=a ->
  aj_ (bW_ (s,e) n) f (ns,rs,d)=some (match hh_ s n.Id_ f a with|some l=>.fall (ns++l.map (·.1),rs++l.map (·.2))|none=>.ret ([],2))
 | 0,a,ns,rs,d,_,_,Y,_,_=>by omega
 | f + 1,a,ns,rs,d,J,Z,Y,hn,hr=>by
  obtain⟨e1,e2,F,y,_,e5⟩:=id J;obtain rfl:=e5 a rfl;unfold hh_ gm_;by_cases j:F<s.length
  .rw [qY j];obtain⟨m,r,D,h1,p,h3⟩:=r_entry G J;cases u:entD s F with
   | none=>
    simp only[qBs,u,zI]at p;have C:D.Zy=true:=p.2.1;refine bD_ ?_;unfold bW_;exact an_ (by simp only[y];simp;omega) (ae_ h1 (an_ (by simp[C]) rfl))
   | some q=>
    obtain⟨O,l2,_⟩:=tD_ Z u;simp only[qBs,u,qS]at p ⊢;obtain⟨rfl,rfl⟩:=h3 F q rfl u;have C:D.Zy=false:=p.2.1;by_cases x:q.1.Xn=n.Id_
    .have h:bW_ (s,e) n (ns,rs,d)=some (.next (ns++[q.1],rs++[q.2.1],D)):=by
      unfold bW_;exact an_ (by simp only[y];simp;omega) (ae_ h1 (am_ (by simp[C,x]) (ae_ (cL_ (by simp;omega) (by simp;omega)) (ae_ (cL_ (by simp;omega) (by simp;omega)) rfl))))
     have U:=R_entries G n e f q.2.2 (ns++[q.1]) (rs++[q.2.1]) p O (by omega) (by simp;omega) (by simp;omega);refine dH_ h (U.trans ?_);unfold hh_;cases gm_ s f q.2.2 with
     | none=>rfl
     | some l=>
      simp only[qBs,qS,jQ,x,beq_self_eq_true,jC];cases M:l.all (λq=>q.1.Xn==n.Id_)with
      | true=>simp
      | false=>simp
    .have V:((Option.map (λl=>(q.1,q.2.1)::l) (gm_ s f q.2.2)).bind λl=>if l.all (λq=>q.1.Xn==n.Id_)then some l else none)=none:=by
      cases gm_ s f q.2.2 with
      | none=>rfl
      | some l=>simp[x]
     rw[V];refine bD_ ?_;unfold bW_;exact an_ (by simp only[y];simp;omega) (ae_ h1 (an_ (by simp[x]) rfl))
  .rw[qG j];refine bD_ ?_;unfold bW_;refine am_ (by simp only[y];simp;omega) ?_;simp
abbrev Gn:=tL Xx×tL tR×Int
def fG(rec:Xx->Yl->Int->Gn)(left:Int)(acc:tL Xx×tL tR)(q:Xx×Yl):(tL Xx×tL tR) ⊕ Gn:=if(rec q.1 q.2 (left-(acc.1.length:Int))).2.2=0 then .inl (acc.1++(rec q.1 q.2 (left-(acc.1.length:Int))).1,acc.2++(rec q.1 q.2 (left-(acc.1.length:Int))).2.1)else .inr ([],acc.2++(rec q.1 q.2 (left-(acc.1.length:Int))).2.1,(rec q.1 q.2 (left-(acc.1.length:Int))).2.2)
def tE_(n:Xx)(d:tR):Xx:=Xx.mk n.Id_ n.Xn n.Yz n.Xk n.Xg n.Wh n.Wg n.Zr n.Ys n.Yt d
def aQ_(n:Xx):Int:=if n.Xg>=2147483648 then 3 else 1
def bt_ (s:Xs):Nat->Xx->Yl->Int->Gn
 | 0,_,_,_=>([],[],2)
 | f + 1,n,r,left=>if left<1 then([],[],2)else
   if (aD_ s (aQ_ n) r).2.2=0 then
    (if n.Xg>=2147483648 then
     (match hh_ (aD_ s (aQ_ n) r).1 n.Id_ ((aD_ s (aQ_ n) r).1.length+1) 0 with
      | none=>([],(aD_ s (aQ_ n) r).2.1,2)
      | some l=>outS (λacc=>(acc.1,acc.2,0)) (λe=>e) (cc_ (fG (bt_ s f) left) ([n],(aD_ s (aQ_ n) r).2.1) l))
    else([tE_ n (aD_ s (aQ_ n) r).1],(aD_ s (aQ_ n) r).2.1,0))
   else([],(aD_ s (aQ_ n) r).2.1,(aD_ s (aQ_ n) r).2.2)
theorem le_{s:Xs}(h:StOK s)(k:Int)(r:Yl):(aD_ s k r).1.length<=1048576/\(aD_ s k r).2.1.length<=1057:=by
 unfold aD_;split
 .have f:=hN_le (nP r.Yx.toNat);obtain⟨m,j⟩:=od_ h k (hN (nP r.Yx.toNat)) r.Ya r.Yx.toNat 0 r.Yx.toNat;exact⟨qN m (vm_ f),qN j (cntN_le f)⟩
 .simp
theorem mv_ {s:Xs} (u:StOK s):∀(f:Nat) {n:Xx} {r:Yl} {left:Int},(bt_ s f n r left).2.2=0->1<=(bt_ s f n r left).1.length/\((bt_ s f n r left).1.length:Int)<=left/\(bt_ s f n r left).2.1.length<=1057*(bt_ s f n r left).1.length
 | 0,n,r,left,h=>by cases h
 | f + 1,n,r,left,h=>by
  obtain⟨_,C⟩:=le_ u (aQ_ n) r;unfold bt_ at h ⊢;split at h
  .cases h
  .rename_i x;rw[qG x];split at h
   .rename_i p;rw[qY p];split at h
    .rename_i m;rw[qY m];split at h
     .cases h
     .rename_i l _;have hi:=s4_ (f:=fG (bt_ s f) left) (λ_ acc=>1<=acc.1.length/\(acc.1.length:Int)<=left/\acc.2.length<=1057*acc.1.length) (λe=>e.2.2≠0) (xs:=l) (k:=0) (s0:=([n],(aD_ s (aQ_ n) r).2.1)) ⟨by simp,by simp;omega,by simp;omega⟩ λi acc q _ ⟨J,a2,a3⟩=>by
       unfold fG;refine⟨λy j=>?_,λe j=>?_⟩
       .split at j
        .rename_i h0;obtain⟨G,F,D⟩:=mv_ u f h0;obtain rfl:=jL j;simp only[qLa];omega
        .cases j
       .split at j
        .cases j
        .rename_i h0;obtain rfl:=Sum.inr.inj j;exact h0
      cases hr:cc_ (fG (bt_ s f) left) ([n],(aD_ s (aQ_ n) r).2.1) l with
      | inl acc=>exact hi.1 acc hr
      | inr e=>
       rw[hr]at h;exact absurd h (hi.2 e hr)
    .rename_i m;rw[qG m];simp only[jZ];omega
   .rename_i p;exact absurd h p
theorem vn_(n:Xx):dv_ n=some (decide (n.Xg>=2147483648)):=rfl
theorem add_kids{l:tL (Xx×Yl)}{n:Xx}{r:Yl}(h:l.length<=1073741824):aL_ (l.map ev_) (λ(u1:Yv)=>Option.bind (bX_ u1 (Yv.mk n r)) λ(j:tV)=>some j)=some (!(l.all λq=>q.1.Xn==n.Id_)):=by
 unfold aL_;generalize s:(λ(u:Yv)=>u.Ur.Xn !=n.Id_)=p;refine ae_ (a:=at_ p (l.map ev_)) ?_ ?_
 .unfold bz_;have h:=b8_ (body:=aW_ (l.map ev_) (λ(u1:Yv)=>Option.bind (bX_ u1 (Yv.mk n r)) λ(j:tV)=>some j)) (l.map ev_) (λi x=>if p x then some ((i:Nat):Int)else none) (cp_ (by simp;omega)) (λi hi=>?_) ?_
  .rw[cI_ h (λr=>rfl) (x:=-1) rfl,pO_]
  .unfold aW_;refine an_ (fg_ hi) (ae_ (bb_ hi) (ae_ (a:=p (l.map ev_)[i]) (by rw[←s];rfl) ?_));cases p (l.map ev_)[i]with
   | true=>rfl
   | false=>
    rw[aS_ (by simp at hi;omega)];rfl
  .unfold aW_;exact am_ (fD_ _) rfl
 .congr 1
  rcases pP_ p (l.map ev_)with⟨h1,C⟩|⟨i,x,h1,C,D,y,_⟩
  .rw[C];have:l.all (λq=>q.1.Xn==n.Id_)=true:=by
    rw[qm];intro q m;have:=List.find?_eq_none.1 h1 (ev_ q) (zZ.2 ⟨q,m,rfl⟩);rw[←s]at this;simpa[ev_]using this
   rw[this];rfl
  .rw[C];have:l.all (λq=>q.1.Xn==n.Id_)=false:=by
    rw[←zm,qm];intro f;obtain⟨q,m,rfl⟩:=zZ.1 (qa D);have:=f q m;rw[←s]at y;simp only[ev_,jE,ne_eq,zQ]at y this;exact y this
   rw[this];simp
end Go.Proofs.YtokncnjohiobcaaGreatDoor
