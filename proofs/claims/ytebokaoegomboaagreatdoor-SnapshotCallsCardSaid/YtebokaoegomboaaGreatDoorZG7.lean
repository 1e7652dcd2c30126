/-
 What the statements of this seat hang on,part 7: Fa0 Ht Ua.
-/
import Derived.Test.YtebokaoegomboaaGreatDoorZG6
import Derived.KernelRfl
namespace Go.Proofs.YtebokaoegomboaaGreatDoor
open Go.Rt Go.RowKit
theorem bj_{σ β:Type}{body:σ->Option (Step σ β)}{s s':σ}{n:Nat}{r:Option β}(h:body s=some (.next s'))(hr:am_ body n s'=r):am_ body (n+1) s=r:=by
 simp only[am_,h];exact hr
theorem aR_{σ β:Type}{body:σ->Option (Step σ β)}{s:σ}{n:Nat}{b:β}(h:body s=some (.done b)):am_ body (n+1) s=some b:=by
 simp only[am_,h]
def aO_{α β:Type}(g:Nat->α->Option β):Nat->List α->Option β
 | _,[]=>none
 | i,x::l=>match g i x with
  | some r=>some r
  | none=>aO_ g (i+1) l
def di_{β:Type}:Option β->Out Unit β|some r => .ret r|none => .fall ()
theorem aT_{i n:Nat}(h:i<n):decide ((i:Int)<(n:Int))=true:=by simpa using h
theorem be_(n:Nat):decide ((n:Int)<(n:Int))=false:=by simp
theorem as_{i:Nat}(h:i<9223372036854775807):w64 ((i:Int)+1)=((i+1:Nat):Int):=by
 rw[ao_ ⟨by omega,by omega⟩];rfl
theorem w_pred{i:Nat}(f:0<i)(h:i<9223372036854775807):w64 ((i:Int)-1)=((i-1:Nat):Int):=by
 rw[ao_ ⟨by omega,by omega⟩];omega
def stepO{β:Type}(o:Option β)(i:Nat):Step Int (Out Unit β):=match o with|some r => .done (.ret r)|none => .next ((i+1:Nat):Int)
theorem bg_{α β:Type}{body:Int->Option (Step Int (Out Unit β))}(xs:List α)(g:Nat->α->Option β)(j:xs.length<BIG)
  (p:∀i (h:i<xs.length),body (i:Int)=some (stepO (g i xs[i]) i))
  (m:body (xs.length:Int)=some (.done (.fall ()))):am_ body BIG 0=some (di_ (aO_ g 0 xs)):=by
 refine ev_ (J:=λi s b=>s=(i:Int)/\b=di_ (aO_ g i (xs.drop i))) xs.length j (λs b f => ?_) (λi s b hi f => ?_) (by simp)
 .obtain⟨rfl,rfl⟩:=f;rw[m];simp[aO_,di_]
 .obtain⟨rfl,rfl⟩:=f;rw[p i hi,qw hi];simp only[aO_];cases q:g i xs[i]with
  | some r=>exact .inl rfl
  | none=>exact .inr ⟨_,rfl,rfl,rfl⟩
theorem bk_{β:Type}{L:Option (Out Unit β)}{k:Out Unit β->Option β}{o:Option β}{x:β}(h:L=some (di_ o))(j:∀r,k (.ret r)=some r)(f:k (.fall ())=some x):Option.bind L k=some (o.getD x):=by
 subst h;cases o with
 | some r=>exact j r
 | none=>exact f
theorem hM_{α β:Type}(p:α->Bool)(f:α->β):∀(k:Nat) (l:List α),aO_ (λ_ x=>if p x then some (f x)else none) k l=(l.find? p).map f
 | _,[]=>rfl
 | k,x::l=>by
  simp only[aO_,List.find?_cons];cases p x with
  | true=>rfl
  | false=>exact hM_ p f (k+1) l
theorem scan_idx{α:Type}(p:α->Bool):∀(k:Nat) (l:List α),aO_ (λi x=>if p x then some ((i:Nat):Int)else none) k l=(l.findIdx? p).map λi=>((k+i:Nat):Int)
 | _,[]=>rfl
 | k,x::l=>by
  simp only[aO_,List.findIdx?_cons];cases p x with
  | true=>rfl
  | false =>
   simp only[qu,jJ];rw[scan_idx p (k+1) l];cases l.findIdx? p with
   | none=>rfl
   | some i=>simp only[qO];congr 2;omega
theorem scan_none{α β:Type}{g:Nat->α->Option β}:∀{k:Nat} {l:List α},aO_ g k l=none↔∀i x,l[i]? = some x->g (k+i) x=none
 | _,[]=>⟨λ_ i x h=>by simp at h,λ_=>rfl⟩
 | k,x::l=>by
  simp only[aO_];constructor
  .intro h;split at h
   .cases h
   .rename_i j;intro i y f;cases i with
    | zero=>simp at f;subst f;exact j
    | succ i=>have:=(scan_none (k:=k+1)).1 h i y (by simpa using f);rwa [show k+1+i=k+(i+1)by omega]at this
  .intro h;have j:=h 0 x rfl;rw[jG]at j;rw[j];exact scan_none.2 λi y f=>by rw[show k+1+i=k+(i+1)by omega];exact h (i+1) y (by simpa using f)
theorem sl_{α β:Type}{g:Nat->α->Option β}{r:β}:∀{k:Nat} {l:List α},aO_ g k l=some r->∃i x,l[i]? = some x/\g (k+i) x=some r/\∀j y,j<i->l[j]? = some y->g (k+j) y=none
 | _,[],h=>by cases h
 | k,x::l,h=>by
  simp only[aO_]at h;split at h
  .rename_i r' m;obtain rfl:=qSj h;exact⟨0,x,rfl,m,λj y p=>by omega⟩
  .rename_i m;obtain⟨i,y,C,u,s⟩:=sl_ h;refine⟨i+1,y,by simpa using C,by rw[show k+(i+1)=k+1+i by omega];exact u,λj q p f => ?_⟩;cases j with
   | zero=>simp at f;subst f;exact m
   | succ j=>rw[show k+(j+1)=k+1+j by omega];exact s j q (by omega) (by simpa using f)
def bG_{α σ:Type}(f:σ->Nat->α->σ):σ->Nat->List α->σ|s,_,[]=>s|s,i,x::l=>bG_ f (f s i x) (i+1) l
theorem d4_{α σ τ β:Type}{body:τ->Option (Step τ β)}(xs:List α)(f:σ->Nat->α->σ)(mk:Nat->σ->τ)(Inv:Nat->σ->Prop)(fin:σ->β)(s0:σ)(p:xs.length<BIG)(C:Inv 0 s0)
  (u:∀i s (h:i<xs.length),Inv i s->body (mk i s)=some (.next (mk (i+1) (f s i xs[i])))/\Inv (i+1) (f s i xs[i]))
  (q:∀s,Inv xs.length s->body (mk xs.length s)=some (.done (fin s))):am_ body BIG (mk 0 s0)=some (fin (bG_ f s0 0 xs)):=by
 refine ev_ (J:=λi t b=>∃s,Inv i s/\t=mk i s/\b=fin (bG_ f s i (xs.drop i))) xs.length p (λt b j => ?_) (λi t b hi j => ?_) ⟨s0,C,rfl,by simp⟩
 .obtain⟨s,m,rfl,rfl⟩:=j;rw[q s m];simp[bG_]
 .obtain⟨s,m,rfl,rfl⟩:=j;obtain⟨y,x⟩:=u i s hi m;rw[qw hi];exact .inr ⟨_,y,_,x,rfl,rfl⟩
def at_{α:Type}(p:α->Bool)(l:List α):Int:=match l.findIdx? p with|some i=>(i:Int)|none => -1
theorem j7_{α:Type}(p:α->Bool)(l:List α):(aO_ (λi x=>if p x then some ((i:Nat):Int)else none) 0 l).getD (-1)=at_ p l:=by
 rw[scan_idx];unfold at_;cases l.findIdx? p<;>simp
theorem lE_{α:Type}(p:α->Bool)(l:List α):(l.find? p=none/\at_ p l = -1)\/∃(i:Nat) (x:α),l.find? p=some x/\at_ p l=(i:Int)/\l[i]? = some x/\p x=true/\∀j y,j<i->l[j]? = some y->p y=false:=by
 unfold at_;cases h:l.findIdx? p with
 | none =>
  refine .inl ⟨?_,rfl⟩;rw[zr];intro x C;rw[List.findIdx?_eq_none_iff]at h;simpa using h x C
 | some i =>
  obtain⟨m,u,f⟩:=List.findIdx?_eq_some_iff_getElem.1 h;refine .inr ⟨i,l[i],?_,rfl,qQ m,u,λj y q s => ?_⟩
  .rw[List.find?_eq_some_iff_getElem];exact⟨u,i,m,rfl,λj q=>by simpa using f j q⟩
  .have:=f j q;rw[qQ (by omega)]at s;obtain rfl:=qSj s;simpa using this
theorem kW_{α:Type}(p:α->Bool)(l:List α):decide (at_ p l<0)=(l.find? p).isNone:=by
 rcases lE_ p l with⟨h,f⟩|⟨i,x,h,f,_⟩
 .rw[h,f];rfl
 .rw[h,f];simp
theorem mD_{α:Type}(p:α->Bool)(l:List α)(h:(l.find? p).isNone=false):an_ l (at_ p l)=l.find? p:=by
 rcases lE_ p l with⟨f,j⟩|⟨i,x,f,j,m,_⟩
 .rw[f]at h;cases h
 .rw[f,j,bt_,m]
theorem hN_{α:Type}{n:Nat}{xs:List α}(h:xs.length*n<=140737488355328)(f:xs.length<=9223372036854775807):room n ([]:List α) xs=some xs :=
 bm_ (by simpa using f) (by simpa using h)
theorem bu_{α:Type}{l:List α}(h:l.length<=9223372036854775807):l.length<BIG:=by
 have:BIG=18446744073709551616:=rfl;omega
section
variable{α β:Type}{eq:α->α->Bool}
theorem q0_:∀{ks:List α} {vs:List β} {x:α} {v:β},ks.length=vs.length->(aY_ eq ks x).length=(bs_ eq ks vs x v).length
 | [],vs,x,v,h=>by cases vs with|nil=>rfl|cons a l=>simp at h
 | k::ks,[],x,v,h=>by simp at h
 | k::ks,w::vs,x,v,h=>by
  have f:=q0_ (ks:=ks) (vs:=vs) (x:=x) (v:=v) (by simpa using h);unfold aY_ at f ⊢;simp only[List.any_cons,bs_];cases m:eq x k with
  | true=>simpa using h
  | false =>
   simp only[jZ,qr,qLc];cases j:ks.any (eq x)with
   | true=>rw[j]at f;simp only[qm]at f ⊢;simpa using f
   | false=>rw[j]at f;simp only[qr]at f ⊢;simpa using f
theorem mputK_cons{k x:α}{ks:List α}(h:eq x k=false):aY_ eq (k::ks) x=k::aY_ eq ks x:=by
 unfold aY_;rw[List.any_cons,h,jZ];cases ks.any (eq x)<;>rfl
theorem q1_(j:∀x y,eq x y=true↔x=y):∀{ks:List α} {vs:List β} {x y:α} {v d:β},ks.length=vs.length->aE_ eq (aY_ eq ks x) (bs_ eq ks vs x v) y d=bif eq y x then v else aE_ eq ks vs y d
 | [],vs,x,y,v,d,h=>by
  cases vs with
  | nil=>rfl
  | cons a l=>simp at h
 | k::ks,[],x,y,v,d,h=>by simp at h
 | k :: ks,w::vs,x,y,v,d,h=>by
  have m:=q1_ j (ks:=ks) (vs:=vs) (x:=x) (y:=y) (v:=v) (d:=d) (by simpa using h);cases f:eq x k with
  | true =>
   obtain rfl:=(j x k).1 f;have e:aY_ eq (x::ks) x=x::ks:=by unfold aY_;rw[List.any_cons,f];rfl
   rw[e];simp only[bs_,f,qm,aE_];cases eq y x<;>rfl
  | false =>
   rw[mputK_cons f];simp only[bs_,f,qr,aE_];cases p:eq y k with
   | true =>
    obtain rfl:=(j y k).1 p;have:eq y x=false:=by
     cases q:eq y x with
     | false=>rfl
     | true=>rw[(j y x).1 q,(j x x).2 rfl]at f;cases f
    rw[this];rfl
   | false=>exact m
end
theorem eqI_iff(x y:Int):eqI x y=true↔x=y:=qF
theorem jM_{α:Type}{f:List α}{k:Nat}(d:α)(h:0<k)(m:k<f.length)(j:f.length<=9223372036854775807):an_ f (w64 ((k:Int)-1))=some (f.getD (k-1) d):=by
 rw[w_pred h (by omega),ap_ (by omega)];simp[qQ (by omega:k-1<f.length)]
theorem jz_{α:Type}{l:List α}{i:Nat}(h:i<l.length):l.take (i+1)=l.take i++[l[i]]:=List.take_succ_eq_append_getElem h
def al_(x:Int)(k:Nat):Bool:=decide (0<=x)&&x.toNat.testBit k
theorem tbit{n k:Nat}:(n/2^k%2==1)=n.testBit k:=by
 rw[Nat.testBit_eq_decide_div_mod_eq,qK];simp
theorem hO_(n k:Nat):al_ (n:Int) k=n.testBit k:=by
 unfold al_;rw[qTn];simp
theorem jN_{x:Int}(h:x<0)(k:Nat):al_ x k=false:=by
 unfold al_;have:decide (0<=x)=false:=by simp;omega
 rw[this];rfl
theorem p7_(x:Int)(k:Nat)(_:k<63)(u:x<=9223372036854775807):(Option.bind (bif decide (x>=0)then Option.bind (quoI .i64 x ((2^k:Nat):Int)) λ(m:Int)=>some ((m.tmod 2)==1)else some false) λ(j:Bool)=>some j)=some (al_ x k):=by
 by_cases y:0<=x
 .obtain⟨n,rfl⟩:∃n:Nat,x=(n:Int):=⟨x.toNat,by omega⟩;have h:=Nat.two_pow_pos k;have s:n/2^k<=n:=Nat.div_le_self _ _;have p:quoI .i64 (n:Int) ((2^k:Nat):Int)=some ((n/2^k:Nat):Int):=by
   unfold quoI;rw[qX (by omega)];have:(n:Int).tdiv ((2^k:Nat):Int)=((n/2^k:Nat):Int):=rfl;rw[this];generalize n/2^k=q at s;rw[dB_ (n:=(q:Int)) ⟨by omega,by omega⟩]
  have f:decide ((n:Int)>=0)=true:=by simp
  rw[f,p,hO_,←tbit];simp only[qm,qBs];have:((n/2^k:Nat):Int).tmod 2=((n/2^k%2:Nat):Int):=rfl;rw[this]
  congr 1
  rw[qK,qF,qF];omega
 .have f:decide (x>=0)=false:=by simp;omega
  rw[f,jN_ (by omega)];rfl
theorem has_lit(x:Int)(k:Nat)(p:k<63)(q:x<=9223372036854775807):(decide (x>=0)&&(((IntKind.i64.wrap (x.tdiv ((2^k:Nat):Int))).tmod 2)==1))=al_ x k:=by
 have h:=p7_ x k p q;by_cases s:0<=x
 .have f:decide (x>=0)=true:=by simp;omega
  rw[f]at h ⊢;have j:=Nat.two_pow_pos k;have m:quoI .i64 x ((2^k:Nat):Int)=some (IntKind.i64.wrap (x.tdiv ((2^k:Nat):Int))):=by
   unfold quoI;rw[qX (by omega)]
  rw[m]at h;exact qSj h
 .have f:decide (x>=0)=false:=by simp;omega
  rw[f,jN_ (by omega)];rfl
theorem eO_(x:Int)(f:x<=9223372036854775807):bN_ x=some (al_ x 31):=qL some (has_lit x 31 (by omega) f)
def topI(x:Int):Int:=x-x%512
def aF_(x:Int):Bool:=decide (0<=x)&&((topI x==0)||(topI x==2147483648)||(topI x==1073741824)||(topI x==536870912)||(topI x==1610612736))
theorem o4_{x:Int}(h:aF_ x=true):0<=x/\x<4294967296:=by
 unfold aF_ topI at h;simp only[qAn,qT,qDe,qF]at h;omega
theorem top_w{x:Int}(h:0<=x)(f:x<=9223372036854775807):w64 (x-(x.tmod 512))=topI x:=by
 obtain⟨n,rfl⟩:∃n:Nat,x=(n:Int):=⟨x.toNat,by omega⟩;have:(n:Int).tmod 512=(n:Int)%512:=rfl;rw[this,ao_ ⟨by omega,by omega⟩];rfl
theorem mZ_(x:Int)(m:x<=9223372036854775807):ig_ x=some (aF_ x):=by
 unfold ig_ aF_;by_cases j:0<=x
 .have h:decide (x<0)=false:=by simp;omega
  have f:decide (0<=x)=true:=by simpa using j
  rw[top_w j m,h,f];cases topI x==0<;>cases topI x==2147483648<;>cases topI x==1073741824<;>cases topI x==536870912<;>cases topI x==1610612736<;>rfl
 .have h:decide (x<0)=true:=by simp;omega
  have f:decide (0<=x)=false:=by simp;omega
  rw[h,f];rfl
theorem m0_(x:Int)(m:x<=9223372036854775807):h8_ x=some (aF_ x):=by
 unfold h8_;by_cases j:0<=x/\x<4294967296
 .refine ab_ (by simp;omega) ?_;rw[top_w j.1 m];unfold aF_;have f:decide (0<=x)=true:=by simpa using j.1
  rw[f];rfl
 .have:aF_ x=false:=by
   cases h:aF_ x with
   | false=>rfl
   | true=>exact absurd (o4_ h) j
  rw[this];exact ae_ (by simp;omega) rfl
theorem eY_{x:Int}(h:aF_ x=true):decide (x>=2147483648)=al_ x 31:=by
 obtain⟨j,f⟩:=o4_ h;obtain⟨n,rfl⟩:∃n:Nat,x=(n:Int):=⟨x.toNat,by omega⟩;rw[hO_,←tbit,qK,qDe,qF];omega
def mE_(b:UInt8):Bool:=decide (33<=b.toNat)&&decide (b.toNat<=126)&&(b.toNat != 47)
def bv_(s:Str):Bool:=decide (1<=s.length)&&decide (s.length<=64)&&(s != [46])&&(s != [46,46])&&s.all mE_
def gN(_:Nat)(b:UInt8):Option Bool:=if mE_ b then none else some false
theorem scan_gN:∀(k:Nat) (s:Str),aO_ gN k s=if s.all mE_ then none else some false
 | _,[]=>rfl
 | k,b::s=>by
  have j:=scan_gN (k+1) s;rw[jY];cases h:mE_ b with
  | true =>
   have f:gN k b=none:=by unfold gN;rw[h];rfl
   simp only[aO_,f];rw[j,zY]
  | false =>
   have f:gN k b=some false:=by unfold gN;rw[h];rfl
   simp only[aO_,f];rfl
theorem path_loop(s:Str)(h:s.length<=9223372036854775807):am_ (ji_ s) BIG 0=some (di_ (aO_ gN 0 s)):=by
 refine bg_ s gN (bu_ h) (λi hi => ?_) ?_
 .unfold ji_;rw[lD_ hi,aT_ hi,as_ (by omega)];have e:mE_ s[i] = !(decide ((s[i].toNat:Int)<33)||decide ((s[i].toNat:Int)>126)||(s[i].toNat:Int)==47):=by
   unfold mE_;rw[qK];simp only[qAn,qDe,zM,qH,qP,qDf,zZ];omega
  unfold gN;rw[e];simp only[qm,qBs];cases decide ((s[i].toNat:Int)<33)<;>cases decide ((s[i].toNat:Int)>126)<;>cases((s[i].toNat:Int)==47)<;>rfl
 .unfold ji_;rw[be_];rfl
theorem ref03_loop(s:Str)(h:s.length<=9223372036854775807):am_ (pU_ s) BIG 0=some (di_ (aO_ gN 0 s)):=by
 rw[←path_loop s h];rfl
theorem ip_(s:Str)(h:s.length<=9223372036854775807):du_ s=some (bv_ s):=by
 unfold du_ bv_;rw[path_loop s h,scan_gN];have j:(s==[]) = !decide (1<=s.length):=by cases s with|nil=>rfl|cons a l=>rw[qK];simp
 have f:decide ((s.length:Int)>64) = !decide (s.length<=64):=by rw[qK];simp;omega
 rw[j,f];simp only[bne,qBs];cases decide (1<=s.length)<;>cases decide (s.length<=64)<;>cases(s==[46])<;>cases(s==[46,46])<;>cases s.all mE_<;>rfl
theorem gY_(s:Str)(h:s.length<=9223372036854775807):dZ_ s=some (bv_ s):=by
 unfold dZ_ bv_;rw[ref03_loop s h,scan_gN];have j:decide ((s.length:Int)>=1)=decide (1<=s.length):=by rw[qK,qDe,qDe];omega
 have f:decide ((s.length:Int)<=64)=decide (s.length<=64):=by rw[qK,qDe,qDe];omega
 rw[j,f];simp only[bne,qBs];cases decide (1<=s.length)<;>cases decide (s.length<=64)<;>cases(s==[46])<;>cases(s==[46,46])<;>cases s.all mE_<;>rfl
theorem vy_{α β:Type}{body:Int->Option (Step Int (Out Unit β))}(xs:List α)(g:Nat->α->Option β)(k:Nat)(C:k<=xs.length)(y:xs.length<BIG)
  (x:∀i (h:i<xs.length),k<=i->body (i:Int)=some (stepO (g i xs[i]) i))
  (u:body (xs.length:Int)=some (.done (.fall ()))):am_ body BIG (k:Int)=some (di_ (aO_ g k (xs.drop k))):=by
 have key:∀(n i:Nat),i+n=xs.length->k<=i->am_ body (n+1) (i:Int)=some (di_ (aO_ g i (xs.drop i))):=by
  intro n
  induction n with
  | zero =>
   intro i hi _;obtain rfl:i=xs.length:=by omega
   rw[aR_ u];simp[aO_,di_]
  | succ n m =>
   intro i hi p;have f:i<xs.length:=by omega
   have j:=x i f p;rw[qw f];simp only[aO_];cases q:g i xs[i]with
   | some r=>rw[q]at j;exact aR_ j
   | none=>rw[q]at j;exact bj_ j (m (i+1) (by omega) (by omega))
 have big:∀{σ β:Type} {body:σ->Option (Step σ β)} {n k:Nat} {s:σ} {b:β},am_ body n s=some b->am_ body (k+n) s=some b:=by
  intro σ β body n
  induction n with
  | zero=>intro k s b h;cases h
  | succ n m =>
   intro k s b h;rw[show k+(n+1)=(k+n)+1 by omega];simp only[am_]at h ⊢;split at h
   .exact h
   .exact m h
   .exact h
 have h:=key (xs.length-k) k (by omega) (qA _);rw[show BIG=(BIG-(xs.length-k+1))+(xs.length-k+1)by omega];exact big h
theorem loop_foldN1{α σ τ β:Type}{body:τ->Option (Step τ β)}(xs:List α)(f:σ->Nat->α->σ)(mk:Nat->σ->τ)(Inv:Nat->σ->Prop)(fin:σ->β)(s0:σ)(k:Nat)(G:k<=xs.length)(F:xs.length<BIG)(D:Inv k s0)
  (x:∀i s (h:i<xs.length),k<=i->Inv i s->body (mk i s)=some (.next (mk (i+1) (f s i xs[i])))/\Inv (i+1) (f s i xs[i]))
  (u:∀s,Inv xs.length s->body (mk xs.length s)=some (.done (fin s))):am_ body BIG (mk k s0)=some (fin (bG_ f s0 k (xs.drop k))):=by
 have key:∀(n i:Nat) (s:σ),i+n=xs.length->k<=i->Inv i s->am_ body (n+1) (mk i s)=some (fin (bG_ f s i (xs.drop i))):=by
  intro n
  induction n with
  | zero =>
   intro i s hi _ q;obtain rfl:i=xs.length:=by omega
   rw[aR_ (u s q)];simp[bG_]
  | succ n m =>
   intro i s hi p q;have j:i<xs.length:=by omega
   obtain⟨C,y⟩:=x i s j p q;rw[qw j];exact bj_ C (m (i+1) _ (by omega) (by omega) y)
 have big:∀{σ β:Type} {body:σ->Option (Step σ β)} {n k:Nat} {s:σ} {b:β},am_ body n s=some b->am_ body (k+n) s=some b:=by
  intro σ β body n
  induction n with
  | zero=>intro k s b h;cases h
  | succ n m =>
   intro k s b h;rw[show k+(n+1)=(k+n)+1 by omega];simp only[am_]at h ⊢;split at h
   .exact h
   .exact m h
   .exact h
 have h:=key (xs.length-k) k s0 (by omega) (qA _) D;rw[show BIG=(BIG-(xs.length-k+1))+(xs.length-k+1)by omega];exact big h
abbrev eI_(id:Int)(n:Xq):Bool:=n.Id_==id
def zeroN:Xq:=Xq.mk 0 0 0 [] 0 [] [] [] 0 0 []
def ai_(l:List Xq)(id:Int):Xq×Bool:=match l.find? (eI_ id)with|some n=>(n,true)|none=>(zeroN,false)
theorem sm_(t:Xv)(f:Xq->Option Bool)(p:Xq->Bool)(j:∀n,f n=some (p n))(h:t.Xz.length<=2000):oW_ t f=some (at_ p t.Xz):=by
 rw[←j7_];refine bk_ (bg_ t.Xz _ (bu_ (by omega)) (λi hi => ?_) ?_) (λ_=>rfl) rfl
 .unfold od_;rw[ap_ hi,aT_ hi,as_ (by omega)];simp only[qm,qBs];refine aa_ (j _) ?_;cases p t.Xz[i]<;>rfl
 .unfold od_;rw[be_];rfl
theorem dD_(t:Xv)(id:Int)(h:t.Xz.length<=2000):dt_ t id=some (at_ (eI_ id) t.Xz):=by
 unfold dt_;exact aa_ (sm_ t _ (eI_ id) (λn=>rfl) h) rfl
theorem cV_(t:Xv)(id:Int)(h:t.Xz.length<=2000):dc_ t id=some (ai_ t.Xz id):=by
 unfold dc_ ai_;refine aa_ (dD_ t id h) ?_;rw[kW_];cases f:t.Xz.find? (eI_ id)with
 | none=>rfl
 | some n=>exact ab_ rfl (aa_ ((mD_ (eI_ id) _ (by rw[f];rfl)).trans f) rfl)
theorem wQ_(t:Xv)(id:Int)(h:t.Xz.length<=2000):pr_ t id=some (at_ (eI_ id) t.Xz):=by
 rw[←j7_];refine bk_ (bg_ t.Xz _ (bu_ (by omega)) (λi hi => ?_) ?_) (λ_=>rfl) rfl
 .unfold ly_;rw[ap_ hi,aT_ hi,as_ (by omega)];simp only[qm,qBs];unfold eI_;cases t.Xz[i].Id_==id<;>rfl
 .unfold ly_;rw[be_];rfl
theorem aK_(t:Xv)(id:Int)(h:t.Xz.length<=2000):aP_ t id=some (ai_ t.Xz id):=by
 unfold aP_ ai_;refine aa_ (wQ_ t id h) ?_;rw[kW_];cases f:t.Xz.find? (eI_ id)with
 | none=>rfl
 | some n=>exact ab_ rfl (aa_ ((mD_ (eI_ id) _ (by rw[f];rfl)).trans f) rfl)
def ax_(x:Int):Int:=bX_ (ci_ x 0) 1099511627776
def bb_(n:Xq):Bool:=aF_ n.Xk&&(decide (0<=n.Xo)&&decide (n.Xo<=2147483647))&&(decide (0<=n.Yw)&&decide (n.Yw<=1099511627776))&&(decide (0<=n.Xe)&&decide (n.Xe<=1099511627776))&&(decide (n.Yg.length<=64)&&(decide (n.Yj.length<=64)&&decide (n.Ym.length<=64)))&&decide (n.Xl.length<=65536)&&(!(al_ n.Xk 31)||n.Xl==[])
structure OkT(l:List Xq)(next:Int):Prop where
 srt:l.Pairwise λa b=>a.Id_<b.Id_
 root:∃r q,l=r::q/\r.Id_=1/\r.Xh=1/\r.Xg=[47]/\al_ r.Xk 31=true
 flds:∀n∈l,bb_ n=true
 nam:∀n∈l,n.Id_≠1->bv_ n.Xg=true
 par:∀n∈l,n.Id_≠1->∃p∈l,p.Id_=n.Xh/\p.Id_<n.Id_/\al_ p.Xk 31=true
 uniq:∀a∈l,∀b∈l,a.Id_≠1->b.Id_≠1->a.Xh=b.Xh->a.Xg=b.Xg->a.Id_=b.Id_
 nxt:∀n∈l,n.Id_<next
 nx2:next<=1048576
 len:l.length<=1024
theorem gZ_{n:Xq}(h:bb_ n=true):aF_ n.Xk=true:=by
 unfold bb_ at h;simp only[qAn]at h;exact h.1.1.1.1.1.1
theorem OkT.mode{l:List Xq}{next:Int}(h:OkT l next){n:Xq}(f:n∈l):0<=n.Xk/\n.Xk<4294967296:=o4_ (gZ_ (h.flds n f))
theorem OkT.ge{l:List Xq}{next:Int}(h:OkT l next){n:Xq}(f:n∈l):1<=n.Id_:=by
 obtain⟨r,q,rfl,j,_⟩:=h.root;rcases qW.1 f with rfl|f
 .omega
 .have:=(ze.1 h.srt).1 n f;omega
theorem kX_{l:List Xq}(u:l.Pairwise λa b=>a.Id_<b.Id_){a b:Xq}(p:a∈l)(m:b∈l)(h:a.Id_=b.Id_):a=b:=by
 induction l with
 | nil=>cases p
 | cons x l s =>
  obtain⟨q,y⟩:=ze.1 u;rcases qW.1 p with ea|j
  .rcases qW.1 m with eb|f
   .rw[ea,eb]
   .have:=q b f;rw[ea]at h;omega
  .rcases qW.1 m with eb|f
   .have:=q a j;rw[eb]at h;omega
   .exact s y j f
theorem aA_{l:List Xq}{id:Int}(h:(ai_ l id).2=true):(ai_ l id).1∈l/\(ai_ l id).1.Id_=id:=by
 unfold ai_ at h ⊢;cases f:l.find? (eI_ id)with
 | none=>rw[f]at h;cases h
 | some n=>exact⟨zH f,by simpa[eI_]using jW f⟩
theorem vz_{l:List Xq}{id:Int}(h:(ai_ l id).2=false):(∀n∈l,n.Id_≠id)/\(ai_ l id).1=zeroN:=by
 unfold ai_ at h ⊢;cases f:l.find? (eI_ id)with
 | none =>
  rw[zr]at f;exact⟨λn j e=>f n j (by simpa[eI_]using e),rfl⟩
 | some n=>rw[f]at h;cases h
theorem ca_{l:List Xq}(j:l.Pairwise λa b=>a.Id_<b.Id_){n:Xq}(h:n∈l):ai_ l n.Id_=(n,true):=by
 cases f:(ai_ l n.Id_).2 with
 | false=>exact absurd rfl ((vz_ f).1 n h)
 | true =>
  obtain⟨p,m⟩:=aA_ f;exact Prod.ext (kX_ j p h m) f
theorem OkT.hm{l:List Xq}{next:Int}(h:OkT l next){n:Xq}(f:n∈l):n.Xk<=9223372036854775807:=by have:=h.mode f;omega
def isD(l:List Xq)(id:Int):Bool:=(ai_ l id).2&&al_ (ai_ l id).1.Xk 31
def nO_(l:List Xq)(id:Int):Int:=bif !(ai_ l id).2 then 8 else bif !(al_ (ai_ l id).1.Xk 31)then 9 else 0
theorem iq_{l:List Xq}{next:Int}(h:OkT l next)(id:Int):(ai_ l id).1.Xk<=9223372036854775807:=by
 cases f:(ai_ l id).2 with
 | true=>exact h.hm (aA_ f).1
 | false=>rw[(vz_ f).2];decide
theorem sn_(t:Xv)(id:Int)(h:OkT t.Xz t.Xp):gS_ t id=some (nO_ t.Xz id):=by
 unfold gS_ nO_;have f:=h.len;refine aa_ (cV_ t id (by omega)) ?_;cases(ai_ t.Xz id).2 with
 | false=>rfl
 | true =>
  refine ab_ rfl (aa_ (eO_ _ (iq_ h id)) ?_);cases al_ (ai_ t.Xz id).1.Xk 31<;>rfl
def aQ_(l:List Xq)(dir:Int):List Int:=(l.filter λn=>n.Xh==dir&&n.Id_ != 1).map (·.Id_)
theorem mi_{α β:Type}(p:α->Bool)(f:α->β):∀(q:List α) (i:Nat) (acc:List β),bG_ (λ(s:List β) _ x=>bif p x then s++[f x]else s) acc i q=acc++(q.filter p).map f
 | [],i,acc=>by simp[bG_]
 | x::q,i,acc=>by
  simp only[bG_];rw[mi_ p f q,zJ];cases p x<;>simp
theorem ue_{β:Type}(c:Bool)(s:List β)(x:β)(i:Nat)(h:s.length<=i):(bif c then s++[x]else s).length<=i+1:=by
 cases c
 .simp;omega
 .simp;omega
theorem so_(t:Xv)(dir:Int)(h:t.Xz.length<=2000):am_ (go_ t dir) BIG (0,[])=some (aQ_ t.Xz dir):=by
 have f:=mi_ (λn:Xq=>n.Xh==dir&&n.Id_ != 1) (·.Id_) t.Xz 0 [];rw[zG]at f;unfold aQ_;rw[←f];refine d4_ (τ:=Int×List Int) t.Xz _ (λi s=>((i:Int),s)) (λi s=>s.length<=i) (λs=>s) [] (bu_ (by omega)) (qA _) (λi s hi j=>⟨?_,ue_ _ _ _ _ j⟩) (λs j => ?_)
 .unfold go_;simp only;rw[aT_ hi,ap_ hi,as_ (by omega)];refine ae_ rfl ?_;simp only[qBs];cases t.Xz[i].Xh==dir&&t.Xz[i].Id_ != 1 with
  | true=>exact aa_ (a:=s++[t.Xz[i].Id_]) (aa_ (bm_ (by simp;omega) (by simp;omega)) rfl) rfl
  | false=>rfl
 .unfold go_;simp only;rw[be_];rfl
theorem isD_par{l:List Xq}{next:Int}(h:OkT l next){dir:Int}{n:Xq}(s:n∈l)(q:n.Xh=dir)(u:n.Id_≠1):isD l dir=true:=by
 obtain⟨p,m,j,_,f⟩:=h.par n s u;have:=ca_ h.srt m;unfold isD;rw[←q,←j,this];exact f
theorem childT_nil{l:List Xq}{next:Int}(h:OkT l next){dir:Int}(j:isD l dir=false):aQ_ l dir=[]:=by
 unfold aQ_;rw[List.map_eq_nil_iff,jI];intro n m f;simp only[qAn,qF,zM]at f;rw[isD_par h m f.1 f.2]at j;cases j
theorem within_zero(l:List Xq)(dir:Int):(nO_ l dir != 0) = !(isD l dir):=by
 unfold nO_ isD;cases(ai_ l dir).2<;>cases al_ (ai_ l dir).1.Xk 31<;>rfl
theorem jP_(t:Xv)(dir:Int)(h:OkT t.Xz t.Xp):gI_ t dir=some (aQ_ t.Xz dir):=by
 have j:=h.len;unfold gI_;refine aa_ (sn_ t dir h) ?_;rw[within_zero];cases f:isD t.Xz dir with
 | false=>rw[childT_nil h f];rfl
 | true=>exact ab_ rfl (aa_ (so_ t dir (by omega)) rfl)
theorem iI_(t:Xv)(dir:Int)(h:OkT t.Xz t.Xp):fW_ t dir=some (aQ_ t.Xz dir):=by
 have F:=h.len;obtain⟨r,q,j,p,_⟩:=h.root;unfold fW_;refine aa_ (a:=aQ_ t.Xz dir) ?_ rfl;have x:=mi_ (λn:Xq=>n.Xh==dir) (·.Id_) (t.Xz.drop 1) 1 [];rw[zG]at x;have D:aQ_ t.Xz dir=((t.Xz.drop 1).filter λn=>n.Xh==dir).map (·.Id_):=by
  unfold aQ_;have f:=h.srt;rw[j]at f ⊢;obtain⟨m,_⟩:=ze.1 f;rw[zJ];have:(r.Xh==dir&&r.Id_ != 1)=false:=by simp[p]
  rw[this];simp only[qu,jJ,List.drop_succ_cons,zo]
  congr 1
  apply List.filter_congr;intro n C;have:=m n C;have u:(n.Id_ != 1)=true:=by rw[zM];omega
  rw[u,Bool.and_true]
 rw[D,←x];refine loop_foldN1 (τ:=Int×List Int) t.Xz _ (λi s=>((i:Int),s)) (λi s=>s.length<=i) (λs=>s) [] 1 (by rw[j];simp) (bu_ (by omega)) (by simp) (λi s hi _ y=>⟨?_,ue_ _ _ _ _ y⟩) (λs y => ?_)
 .unfold iH_;simp only;rw[aT_ hi,ap_ hi,as_ (by omega)];refine ae_ rfl ?_;simp only[qBs];cases t.Xz[i].Xh==dir with
  | true=>exact aa_ (a:=s++[t.Xz[i].Id_]) (aa_ (bm_ (by simp;omega) (by simp;omega)) rfl) rfl
  | false=>rfl
 .unfold iH_;simp only;rw[be_];rfl
theorem clock_ne(x:Int):(x != ax_ x)=(decide (x<0)||decide (x>1099511627776)):=by
 unfold ax_ bX_ ci_;rw[qK];simp only[zM,ne_eq,qT,qDe];split<;>split<;>omega
theorem max3(a b c:Nat)(k:Nat):decide (ci_ (ci_ (a:Int) (b:Int)) (c:Int)>(k:Int)) = !(decide (a<=k)&&(decide (b<=k)&&decide (c<=k))):=by
 unfold ci_;rw[qK];simp only[qDe,qH,zh,qDf];split<;>split<;>omega
theorem clock_le(x:Int):(x != ax_ x) = !(decide (0<=x)&&decide (x<=1099511627776)):=by
 rw[clock_ne,qK];simp only[qT,qDe,qH,zh,qDf];omega
theorem yx_(n:Xq)(hm:n.Xk<=9223372036854775807):kv_ n=some (bb_ n):=by
 unfold kv_ bb_;refine aa_ (mZ_ _ hm) ?_;have j:decide (n.Xo<0) = !(decide (0<=n.Xo)):=by rw[qK];simp
 have h:decide (n.Xo>2147483647) = !(decide (n.Xo<=2147483647)):=by rw[qK];simp
 rw[j,h];cases aF_ n.Xk with
 | false=>rfl
 | true =>
  cases decide (0<=n.Xo)with
  | false=>rfl
  | true =>
   cases decide (n.Xo<=2147483647)with
   | false=>rfl
   | true =>
    refine aa_ (a:=n.Yw != ax_ n.Yw) rfl ?_;rw[clock_le n.Yw];cases decide (0<=n.Yw)&&decide (n.Yw<=1099511627776)with
    | false=>rfl
    | true =>
     refine aa_ (a:=n.Xe != ax_ n.Xe) rfl ?_;rw[clock_le n.Xe];cases decide (0<=n.Xe)&&decide (n.Xe<=1099511627776)with
     | false=>rfl
     | true =>
      refine ab_ rfl ?_;rw[show(64:Int)=((64:Nat):Int)from rfl,max3];cases decide (n.Yg.length<=64)&&(decide (n.Yj.length<=64)&&decide (n.Ym.length<=64))with
      | false=>rfl
      | true =>
       have f:decide ((n.Xl.length:Int)>65536) = !(decide (n.Xl.length<=65536)):=by rw[qK];simp;omega
       rw[f];cases decide (n.Xl.length<=65536)with
       | false=>rfl
       | true=>exact ab_ rfl (aa_ (eO_ _ hm) (by simp))
def okNodeD(D:Bool)(n:Xq):Bool:=aF_ n.Xk&&(decide (0<=n.Xo)&&decide (n.Xo<=2147483647))&&(decide (0<=n.Yw)&&decide (n.Yw<=1099511627776))&&(decide (0<=n.Xe)&&decide (n.Xe<=1099511627776))&&(decide (n.Yg.length<=64)&&(decide (n.Yj.length<=64)&&decide (n.Ym.length<=64)))&&decide (n.Xl.length<=65536)&&(!D||n.Xl==[])
theorem o5_(n:Xq)(hm:n.Xk<=9223372036854775807):hw_ n=some (bb_ n):=by
 have C:bb_ n=okNodeD (decide (n.Xk>=2147483648)) n:=by
  unfold bb_ okNodeD;cases h:aF_ n.Xk with
  | false=>simp
  | true=>rw[eY_ h]
 rw[C];unfold hw_ okNodeD;refine aa_ (m0_ _ hm) ?_;have y:decide (n.Xo<0) = !(decide (0<=n.Xo)):=by rw[qK];simp
 have x:decide (n.Xo>2147483647) = !(decide (n.Xo<=2147483647)):=by rw[qK];simp
 have u:decide (n.Yw<0) = !(decide (0<=n.Yw)):=by rw[qK];simp
 have q:decide (n.Yw>1099511627776) = !(decide (n.Yw<=1099511627776)):=by rw[qK];simp
 have p:decide (n.Xe<0) = !(decide (0<=n.Xe)):=by rw[qK];simp
 have m:decide (n.Xe>1099511627776) = !(decide (n.Xe<=1099511627776)):=by rw[qK];simp
 have f:∀s:Str,decide ((s.length:Int)>64) = !(decide (s.length<=64)):=λs=>by rw[qK];simp;omega
 have j:decide ((n.Xl.length:Int)>65536) = !(decide (n.Xl.length<=65536)):=by rw[qK];simp;omega
 rw[y,x,u,q,p,m,f,f,f,j];cases aF_ n.Xk<;>cases decide (0<=n.Xo)<;>cases decide (n.Xo<=2147483647)<;>cases decide (0<=n.Yw)<;>cases decide (n.Yw<=1099511627776)<;>cases decide (0<=n.Xe)<;>cases decide (n.Xe<=1099511627776)<;>try rfl
 cases decide (n.Yg.length<=64)<;>cases decide (n.Yj.length<=64)<;>cases decide (n.Ym.length<=64)<;>cases decide (n.Xl.length<=65536)<;>rfl
def fG_(l:List Xq)(i:Nat):Xq:=l.getD (i-1) zeroN
def dJ_(a b:Xq):Bool:=a.Xh==b.Xh&&a.Xg==b.Xg
def StepOK(l:List Xq)(i:Nat)(n:Xq):Prop:=(fG_ l i).Id_<n.Id_/\bv_ n.Xg=true/\(∃p∈l.take i,p.Id_=n.Xh/\al_ p.Xk 31=true)/\∀c∈(l.take i).drop 1,dJ_ c n=false
def RootOK(n:Xq):Prop:=n.Id_=1/\n.Xh=1/\n.Xg=[47]/\al_ n.Xk 31=true
theorem mem_take{α:Type}{l:List α}{i:Nat}{x:α}:x∈l.take i↔∃j,j<i/\l[j]? = some x:=by
 rw[qM];constructor
 .rintro⟨j,f⟩;rw[zX]at f;split at f
  .exact⟨j,by assumption,f⟩
  .cases f
 .rintro⟨j,m,h⟩;exact⟨j,by rw[zX,qV m];exact h⟩
theorem mem_take_drop{α:Type}{l:List α}{i:Nat}{x:α}:x∈(l.take i).drop 1↔∃j,0<j/\j<i/\l[j]? = some x:=by
 rw[qM];constructor
 .rintro⟨j,f⟩;rw[zA,zX]at f;split at f
  .exact⟨1+j,by omega,by assumption,f⟩
  .cases f
 .rintro⟨j,p,m,h⟩;exact⟨j-1,by rw[zA,zX,show 1+(j-1)=j by omega,qV m];exact h⟩
theorem sq_{l:List Xq}{i:Nat}(f:0<i)(hi:i<l.length):l[i-1]? = some (fG_ l i):=by
 unfold fG_;rw[za,qQ (by omega)];rfl
theorem srt_iff{l:List Xq}:(l.Pairwise λa b=>a.Id_<b.Id_)↔∀i n,0<i->l[i]? = some n->(fG_ l i).Id_<n.Id_:=by
 rw[qq];constructor
 .intro h i n u p;obtain⟨hi,rfl⟩:=qZ.1 p;have:=sq_ u hi;obtain⟨_,e⟩:=qZ.1 this;rw[←e];exact h _ _ _ _ (by omega)
 .intro h;have key:∀(d i:Nat) (f:i+d+1<l.length),(l[i]'(by omega)).Id_<(l[i+d+1]'f).Id_:=by
   intro d
   induction d with
   | zero =>
    intro i f;have:=h (i+1) _ (by omega) (qQ (by omega));have e:=sq_ (l:=l) (i:=i+1) (by omega) (by omega);obtain⟨_,e⟩:=qZ.1 e;rw[←e]at this;exact this
   | succ d m =>
    intro i f;have s:=m i (by omega);have:=h (i+d+1+1) _ (by omega) (qQ (by omega));have e:=sq_ (l:=l) (i:=i+d+1+1) (by omega) (by omega);obtain⟨_,e⟩:=qZ.1 e;rw[←e]at this;simp only[jH]at this;exact Int.lt_trans s this
  intro i j hi f q;have:=key (j-i-1) i (by omega);simpa[show i+(j-i-1)+1=j by omega]using this
theorem OkT_iff{l:List Xq}{next:Int}:OkT l next↔1<=l.length/\l.length<=1024/\next<=1048576/\(∀n,l[0]? = some n->RootOK n)/\(∀n∈l,bb_ n=true)/\(∀n∈l,n.Id_<next)/\∀i n,0<i->l[i]? = some n->StepOK l i n:=by
 constructor
 .intro h;have s:∀{i:Nat} {n:Xq},l[i]? = some n->n∈l:=λh=>qM.2 ⟨_,h⟩
  have lt:∀{i j:Nat} {a b:Xq},l[i]? = some a->l[j]? = some b->a.Id_<b.Id_->i<j:=fun{i j a b} y u D=>by
   rcases Nat.lt_trichotomy i j with C|C|C
   .exact C
   .subst C;rw[y]at u;cases u;omega
   .have:=qq.1 h.srt j i (qZ.1 u).1 (qZ.1 y).1 C;rw[(qZ.1 y).2,(qZ.1 u).2]at this;omega
  have gt:∀{i j:Nat} {a b:Xq},l[i]? = some a->l[j]? = some b->i<j->a.Id_<b.Id_:=fun{i j a b} y u D=>by
   have:=qq.1 h.srt i j (qZ.1 y).1 (qZ.1 u).1 D;rw[(qZ.1 y).2,(qZ.1 u).2]at this;exact this
  obtain⟨r,q,hl,hr⟩:=h.root;have O:l[0]? = some r:=by rw[hl];rfl
  refine⟨by rw[hl];simp,h.len,h.nx2,λn f => ?_,h.flds,h.nxt,λi n hi f => ?_⟩
  .rw[O]at f;cases f;exact hr
  .have C:n.Id_≠1:=by have:=gt O f hi;rw[hr.1]at this;omega
   refine⟨srt_iff.1 h.srt i n hi f,h.nam n (s f) C,?_,λc hc => ?_⟩
   .obtain⟨p,Z,Y,p3,p4⟩:=h.par n (s f) C;obtain⟨j,m⟩:=qM.1 Z;exact⟨p,mem_take.2 ⟨j,lt m f p3,m⟩,Y,p4⟩
   .obtain⟨j,j0,j1,m⟩:=mem_take_drop.1 hc;cases U:dJ_ c n with
    | false=>rfl
    | true =>
     unfold dJ_ at U;rw[qAn,qF,qF]at U;have c1:c.Id_≠1:=by have:=gt O m j0;rw[hr.1]at this;omega
     have:=h.uniq c (s m) n (s f) c1 C U.1 U.2;have:=gt m f j1;omega
 .rintro⟨C,h2,h3,h4,h5,h6,M⟩;have srt:l.Pairwise λa b=>a.Id_<b.Id_:=srt_iff.2 λi n hi f=>(M i n hi f).1
  have gt:∀{i j:Nat} {a b:Xq},l[i]? = some a->l[j]? = some b->i<j->a.Id_<b.Id_:=fun{i j a b} y u D=>by
   have:=qq.1 srt i j (qZ.1 y).1 (qZ.1 u).1 D;rw[(qZ.1 y).2,(qZ.1 u).2]at this;exact this
  cases l with
  | nil=>exact absurd C (by simp)
  | cons r q =>
   have hr:=h4 r rfl;have pos:∀{i:Nat} {n:Xq},(r::q)[i]? = some n->n.Id_≠1->0<i:=fun{i n} f x=>by
    rcases qn i with rfl|O
    .cases f;exact absurd hr.1 x
    .exact O
   refine⟨srt,⟨r,q,rfl,hr⟩,h5,λn f x => ?_,λn f x => ?_,λa y b u J G V F => ?_,h6,h3,h2⟩
   .obtain⟨i,hi⟩:=qM.1 f;exact(M i n (pos hi x) hi).2.1
   .obtain⟨i,hi⟩:=qM.1 f;obtain⟨p,V,Z,Y⟩:=(M i n (pos hi x) hi).2.2.1;obtain⟨j,m,e⟩:=mem_take.1 V;exact⟨p,qM.2 ⟨_,e⟩,Z,gt e hi m,Y⟩
   .obtain⟨i,hi⟩:=qM.1 y;obtain⟨j,m⟩:=qM.1 u;rcases Nat.lt_trichotomy i j with h|h|h
    .have:=(M j b (pos m G) m).2.2.2 a (mem_take_drop.2 ⟨i,pos hi J,h,hi⟩);unfold dJ_ at this;rw[V,F]at this;simp at this
    .subst h;rw[hi]at m;cases m;rfl
    .have:=(M i a (pos hi J) hi).2.2.2 b (mem_take_drop.2 ⟨j,pos m G,h,m⟩);unfold dJ_ at this;rw[V,F]at this;simp at this
def CntP{κ α:Type}(eq : κ -> κ -> Bool)(P : κ -> α->Bool)(ks:List κ)(vs:List Int)(l:List α):Prop:=ks.length=vs.length/\∀k,aE_ eq ks vs k 0=((l.countP (P k):Nat):Int)
theorem CntP.nil{κ α:Type}{eq : κ -> κ -> Bool}{P : κ -> α->Bool}:CntP eq P [] [] []:=⟨rfl,λ_=>by simp[aE_]⟩
theorem CntP.put{κ α:Type}{eq : κ -> κ -> Bool}{P : κ -> α->Bool}(f:∀x y,eq x y=true↔x=y){ks:List κ}{vs:List Int}{l:List α}(h:CntP eq P ks vs l){x:α}{key : κ}(j:∀k,P k x=eq k key)(q:l.length<=2000) :
  CntP eq P (aY_ eq ks key) (bs_ eq ks vs key (w64 (aE_ eq ks vs key 0+1))) (l++[x]):=by
 refine⟨q0_ h.1,λn => ?_⟩;have s:=List.countP_le_length (p:=P key) (l:=l);rw[q1_ f h.1,h.2 key,h.2 n,as_ (by omega),List.countP_append];have e:List.countP (P n) [x]=if eq n key then 1 else 0:=by simp[List.countP_cons,j]
 rw[e];cases m:eq n key with
 | true=>obtain rfl:=(f _ _).1 m;rfl
 | false=>rfl
theorem CntP.skip{κ α:Type}{eq : κ -> κ -> Bool}{P : κ -> α->Bool}{ks:List κ}{vs:List Int}{l:List α}(h:CntP eq P ks vs l){x:α}(f:∀k,P k x=false):CntP eq P ks vs (l++[x]) :=
 ⟨h.1,λk=>by rw[h.2 k,List.countP_append];simp[f]⟩
theorem CntP.put2{κ α:Type}{eq : κ -> κ -> Bool}{P : κ -> α->Bool}(f:∀x y,eq x y=true↔x=y){ks:List κ}{vs:List Int}{l:List α}(h:CntP eq P ks vs l){x:α}{key : κ}(j:∀k,P k x=eq k key)(p:l.length<=2000) :
  CntP eq P (aY_ eq (aY_ eq ks key) key) (bs_ eq (aY_ eq ks key) (bs_ eq ks vs key (aE_ eq ks vs key 0)) key (w64 (aE_ eq ks vs key 0+1))) (l++[x]) /\
  aE_ eq (aY_ eq ks key) (bs_ eq ks vs key (aE_ eq ks vs key 0)) key 0=aE_ eq ks vs key 0:=by
 have e:∀n,aE_ eq (aY_ eq ks key) (bs_ eq ks vs key (aE_ eq ks vs key 0)) n 0=aE_ eq ks vs n 0:=λn=>by
  rw[q1_ f h.1];cases m:eq n key with
  | true=>obtain rfl:=(f _ _).1 m;rfl
  | false=>rfl
 have q:CntP eq P (aY_ eq ks key) (bs_ eq ks vs key (aE_ eq ks vs key 0)) l:=⟨q0_ h.1,λn=>by rw[e];exact h.2 n⟩;refine⟨?_,e key⟩;have:=q.put f j p;rw[e key]at this;exact this
theorem CntP.zero{κ α:Type}{eq : κ -> κ -> Bool}{P : κ -> α->Bool}{ks:List κ}{vs:List Int}{l:List α}(h:CntP eq P ks vs l)(k : κ):(aE_ eq ks vs k 0==0) = !(l.any (P k)):=by
 rw[h.2 k,qK,qF,qH,jO];have:((l.countP (P k):Nat):Int)=0↔l.countP (P k)=0:=by omega
 rw[this,List.countP_eq_zero]
theorem CntP.pos{κ α:Type}{eq : κ -> κ -> Bool}{P : κ -> α->Bool}{ks:List κ}{vs:List Int}{l:List α}(h:CntP eq P ks vs l)(k : κ):decide (aE_ eq ks vs k 0>0)=l.any (P k):=by
 rw[h.2 k,qK,qDe,zg];have:((l.countP (P k):Nat):Int)>0↔0<l.countP (P k):=by omega
 rw[this,List.countP_pos_iff]
def dirP(k:Int)(n:Xq):Bool:=k==n.Id_&&al_ n.Xk 31
abbrev eqPl(a b:Xd):Bool:=decide (a=b)
def plP(k:Xd)(n:Xq):Bool:=eqPl k (Xd.mk n.Xh n.Xg)
theorem plP_same(c n:Xq):plP (Xd.mk n.Xh n.Xg) c=dJ_ c n:=by
 unfold plP dJ_ eqPl;rw[qK];simp only[qDe,Xd.mk.injEq,qAn,qF];exact⟨λ⟨h,f⟩=>⟨h.symm,f.symm⟩,λ⟨h,f⟩=>⟨h.symm,f.symm⟩⟩
def okAt(l:List Xq)(i:Nat)(n:Xq):Bool:=bif i==0 then n.Id_==1&&(n.Xh==1&&(n.Xg==[47]&&al_ n.Xk 31))else bv_ n.Xg&&((l.take i).any (dirP n.Xh) && !(((l.take i).drop 1).any (plP (Xd.mk n.Xh n.Xg))))
def tB(l:List Xq)(next:Int)(i:Nat)(n:Xq):Bool:=bb_ n&&(decide (n.Id_<next)&&((i==0||decide ((fG_ l i).Id_<n.Id_))&&okAt l i n))
def gT(l:List Xq)(next:Int)(i:Nat)(n:Xq):Option Bool:=if tB l next i n then none else some false
theorem p8_{l:List Xq}{i:Nat}(hi:i<l.length)(f:0<i):(l.take (i+1)).drop 1=(l.take i).drop 1++[l[i]]:=by
 rw[jz_ hi,List.drop_append,qS,show(1-min i l.length)=0 by omega];rfl
theorem vA_(t:Xv)(i:Nat)(hi:i<t.Xz.length)(hl:t.Xz.length<=1024)(hm:∀n∈t.Xz,n.Xk<=9223372036854775807/\n.Xg.length<=9223372036854775807){dk:List Int}{dv:List Int}{pk:List Xd}{pv:List Int}
  (h1:CntP eqI dirP dk dv (t.Xz.take i)) (h2:CntP eqPl plP pk pv ((t.Xz.take i).drop 1)) :
  (tB t.Xz t.Xp i t.Xz[i]=false/\cY_ t ((i:Int),dk,dv,pk,pv)=some (.done (.ret false))) \/
  (tB t.Xz t.Xp i t.Xz[i]=true/\∃dk' dv' pk' pv',cY_ t ((i:Int),dk,dv,pk,pv)=some (.next (((i+1:Nat):Int),dk',dv',pk',pv'))/\CntP eqI dirP dk' dv' (t.Xz.take (i+1))/\CntP eqPl plP pk' pv' ((t.Xz.take (i+1)).drop 1)):=by
 have D:=qx hi;obtain⟨s,ZY⟩:=hm _ D;unfold cY_;simp only;rw[aT_ hi,ap_ hi,as_ (by omega)];simp only[qm,qBs];rw[yx_ _ s];simp only[qBs];have ZZ:decide (t.Xz[i].Id_>=t.Xp) = !(decide (t.Xz[i].Id_<t.Xp)):=by rw[qK];simp
 rw[ZZ];have C:t.Xz.take (i+1)=t.Xz.take i++[t.Xz[i]]:=jz_ hi;have f:∀{A B:Option (Out ((List Int)×(List Int)×(List Xd)×(List Int)) Bool)},(Option.bind (bN_ t.Xz[i].Xk) λ(M:Bool)=>bif M then A else B)=bif al_ t.Xz[i].Xk 31 then A else B:=by
  intro A B;rw[eO_ _ s];rfl
 -- the directories counted after this node
 have hD:∃dk' dv',(∀(p q:_),(bif al_ t.Xz[i].Xk 31 then some (.fall (aY_ eqI dk t.Xz[i].Id_,bs_ eqI dk dv t.Xz[i].Id_ (w64 (aE_ eqI dk dv t.Xz[i].Id_ 0+1)),p,q))else some (.fall (dk,dv,p,q)):Option (Out ((List Int)×(List Int)×(List Xd)×(List Int)) Bool))=some (.fall (dk',dv',p,q)))/\CntP eqI dirP dk' dv' (t.Xz.take (i+1)):=by
  rw[C];cases hh:al_ t.Xz[i].Xk 31 with
  | true=>exact⟨_,_,λp q=>rfl,h1.put eqI_iff (λk=>by unfold dirP eqI;rw[hh,Bool.and_true]) (by rw[qS];omega)⟩
  | false=>exact⟨dk,dv,λp q=>rfl,h1.skip (λk=>by unfold dirP;rw[hh,Bool.and_false])⟩
 obtain⟨dk',dv',J,G⟩:=hD;cases j:bb_ t.Xz[i]with
 | false=>exact .inl ⟨by unfold tB;rw[j];rfl,rfl⟩
 | true =>
  cases u:decide (t.Xz[i].Id_<t.Xp)with
  | false=>exact .inl ⟨by unfold tB;rw[j,u];rfl,rfl⟩
  | true =>
   simp only[jC,Bool.or_self,qr];rcases qn i with rfl|h0
   .
    have e0:decide (((0:Nat):Int)>0)=false:=rfl;have e1:(((0:Nat):Int)==0)=true:=rfl;rw[e0,e1];simp only[qr,qm,qBs];have h:(Option.bind (bif(((t.Xz[0].Id_ != 1)||(t.Xz[0].Xh != 1))||(!(t.Xz[0].Xg==[47])))then some true else Option.bind (bN_ t.Xz[0].Xk) λ(Z:Bool)=>some (!Z)) λ(Y:Bool)=>(bif Y then some (.ret (false))else some (.fall ())):Option (Out Unit Bool))=bif okAt t.Xz 0 t.Xz[0]then some (.fall ())else some (.ret false):=by
     rw[eO_ _ s];unfold okAt bne;simp only[qBs];cases t.Xz[0].Id_==1<;>cases t.Xz[0].Xh==1<;>cases t.Xz[0].Xg==[47]<;>cases al_ t.Xz[0].Xk 31<;>rfl
    rw[h];cases F:okAt t.Xz 0 t.Xz[0]with
    | false=>exact .inl ⟨by unfold tB;rw[j,u,F];rfl,rfl⟩
    | true =>
     refine .inr ⟨by unfold tB;rw[j,u,F];rfl,dk',dv',pk,pv,?_,G,?_⟩
     .simp only[qm,qBs];rw[f,J];rfl
     .have e:(t.Xz.take (0+1)).drop 1=(t.Xz.take 0).drop 1:=by rw[C];simp
      rw[e];exact h2
   .have e0:decide ((i:Int)>0)=true:=by simpa using h0
    have e1:((i:Int)==0)=false:=by simp;omega
    have e2:(i==0)=false:=by simp;omega
    have hp:an_ t.Xz (w64 ((i:Int)-1))=some (fG_ t.Xz i):=jM_ zeroN h0 hi (by omega);rw[e0,e1,hp];have ZX:decide (t.Xz[i].Id_<=(fG_ t.Xz i).Id_) = !(decide ((fG_ t.Xz i).Id_<t.Xz[i].Id_)):=by rw[qK];simp
    simp only[qm,qBs];rw[ZX];cases hs:decide ((fG_ t.Xz i).Id_<t.Xz[i].Id_)with
    | false=>exact .inl ⟨by unfold tB;rw[j,u,hs,e2];rfl,rfl⟩
    | true =>
     simp only[jC,qr];have m:(Option.bind (du_ t.Xz[i].Xg) λ(V:Bool)=>Option.bind (bif(!V)then some true else some ((aE_ eqI dk dv t.Xz[i].Xh 0)==0)) λ(U:Bool)=>Option.bind (bif U then some true else some (decide ((aE_ (λ(a b:Xd)=>decide (a=b)) pk pv (Xd.mk t.Xz[i].Xh t.Xz[i].Xg) 0)>0))) λ(O:Bool)=>(bif O then some (.ret (false))else some (.fall ())):Option (Out Unit Bool))=bif okAt t.Xz i t.Xz[i]then some (.fall ())else some (.ret false):=by
      rw[ip_ _ ZY];unfold okAt;rw[h1.zero,e2];have:=h2.pos (Xd.mk t.Xz[i].Xh t.Xz[i].Xg);unfold eqPl at this;rw[this];simp only[qBs,qr];cases bv_ t.Xz[i].Xg<;>cases(t.Xz.take i).any (dirP t.Xz[i].Xh)<;>cases((t.Xz.take i).drop 1).any (plP (Xd.mk t.Xz[i].Xh t.Xz[i].Xg))<;>rfl
     rw[m];cases F:okAt t.Xz i t.Xz[i]with
     | false=>exact .inl ⟨by unfold tB;rw[j,u,F];simp,rfl⟩
     | true =>
      obtain⟨c1,c2⟩:=h2.put2 (x:=t.Xz[i]) (key:=Xd.mk t.Xz[i].Xh t.Xz[i].Xg) (λx y=>decide_eq_true_iff) (λk=>rfl) (by rw[qc,qS];omega);refine .inr ⟨by unfold tB;rw[j,u,F,hs];simp,dk',dv',_,_,?_,G,by rw[p8_ hi h0];exact c1⟩;simp only[qm,qBs];rw[c2,bothC_self];simp only[qBs];rw[f,J];rfl
theorem vB_(t:Xv)(p:t.Xz.length<=1024)(hm:∀n∈t.Xz,n.Xk<=9223372036854775807/\n.Xg.length<=9223372036854775807) :
  am_ (cY_ t) BIG (0,([]:List Int),([]:List Int),([]:List Xd),([]:List Int))=some (di_ (aO_ (gT t.Xz t.Xp) 0 t.Xz)):=by
 refine ev_ (body:=cY_ t) (J:=λi s b=>∃dk dv pk pv,s=((i:Int),dk,dv,pk,pv)/\CntP eqI dirP dk dv (t.Xz.take i)/\CntP eqPl plP pk pv ((t.Xz.take i).drop 1)/\b=di_ (aO_ (gT t.Xz t.Xp) i (t.Xz.drop i))) t.Xz.length (bu_ (by omega)) (λs b h => ?_) (λi s b hi h => ?_) ⟨[],[],[],[],rfl,CntP.nil,by simp[CntP.nil],by simp⟩
 .obtain⟨dk,dv,pk,pv,rfl,_,_,rfl⟩:=h;unfold cY_;simp only;rw[be_];simp[aO_,di_]
 .obtain⟨dk,dv,pk,pv,rfl,u,q,rfl⟩:=h;rw[qw hi];rcases vA_ t i hi p hm u q with⟨f,hr⟩|⟨f,dk',dv',pk',pv',hr,m,j⟩
  .exact .inl (by rw[hr];simp[aO_,gT,f,di_])
  .exact .inr ⟨_,hr,dk',dv',pk',pv',rfl,m,j,by simp[aO_,gT,f]⟩
theorem oo_{α:Type}{g:Nat->α->Option Bool}{p:Nat->α->Bool}(s:∀i x,g i x=if p i x then none else some false)(l:List α)(k:Nat):(aO_ g k l).getD true=true↔∀i x,l[i]? = some x->p (k+i) x=true:=by
 cases q:aO_ g k l with
 | none =>
  refine⟨λ_ i x m => ?_,λ_=>rfl⟩;have:=scan_none.1 q i x m;rw[s]at this;cases f:p (k+i) x with
  | true=>rfl
  | false=>rw[f]at this;cases this
 | some r =>
  obtain⟨i,x,m,j,_⟩:=sl_ q;rw[s]at j;cases f:p (k+i) x with
  | true=>rw[f]at j;cases j
  | false =>
   rw[f]at j;obtain rfl:false=r:=by cases j;rfl
   refine⟨λh=>(nomatch h),λh => ?_⟩;rw[h i x m]at f;cases f
theorem f2_(t:Xv)(G:t.Xz.length<=1024)(hm:∀n∈t.Xz,n.Xk<=9223372036854775807/\n.Xg.length<=9223372036854775807):∃b,dv_ t=some b/\(b=true↔OkT t.Xz t.Xp):=by
 unfold dv_;cases C:(decide ((t.Xz.length:Int)<1)||decide ((t.Xz.length:Int)>1024))||(decide (t.Xp>1048576))with
 | true =>
  refine⟨false,ae_ rfl rfl,λh=>(nomatch h),λh => ?_⟩;obtain⟨q,O,m,_⟩:=OkT_iff.1 h;simp only[qT,qDe]at C;omega
 | false =>
  simp only[qP,qDf]at C;refine⟨(aO_ (gT t.Xz t.Xp) 0 t.Xz).getD true,ab_ rfl (bk_ (vB_ t G hm) (λ_=>rfl) rfl),?_⟩;rw[oo_ (g:=gT t.Xz t.Xp) (p:=tB t.Xz t.Xp) (λ_ _=>rfl),OkT_iff];simp only[qg];have tk:∀i (n:Xq),tB t.Xz t.Xp i n=true↔bb_ n=true/\n.Id_<t.Xp/\(i=0\/(fG_ t.Xz i).Id_<n.Id_)/\okAt t.Xz i n=true:=λi n=>by
   unfold tB;simp only[qAn,qT,qDe,qF]
  have j:∀n,okAt t.Xz 0 n=true↔RootOK n:=λn=>by
   unfold okAt RootOK;simp only[jX,qm,qAn,qF]
  have okS:∀i n,0<i->(okAt t.Xz i n=true↔bv_ n.Xg=true/\(∃p∈t.Xz.take i,p.Id_=n.Xh/\al_ p.Xk 31=true)/\∀c∈(t.Xz.take i).drop 1,dJ_ c n=false):=λi n s=>by
   unfold okAt;rw[show(i==0)=false by simp;omega];simp only[qr,qAn,qH,zg,jO,plP_same,dirP,qF,jp];constructor
   .rintro⟨q,⟨p,y,x,u⟩,m⟩;exact⟨q,⟨p,y,x.symm,u⟩,m⟩
   .rintro⟨q,⟨p,y,x,u⟩,m⟩;exact⟨q,⟨p,y,x.symm,u⟩,m⟩
  constructor
  .intro h;refine⟨by omega,by omega,by omega,λn f=>(j n).1 ((tk 0 n).1 (h 0 n f)).2.2.2,λn f => ?_,λn f => ?_,λi n s f => ?_⟩
   .obtain⟨i,hi⟩:=qM.1 f;exact((tk i n).1 (h i n hi)).1
   .obtain⟨i,hi⟩:=qM.1 f;exact((tk i n).1 (h i n hi)).2.1
   .obtain⟨a,b,c,d⟩:=(tk i n).1 (h i n f);exact⟨c.resolve_left (by omega),(okS i n s).1 d⟩
  .rintro⟨q,O,m,M,F,D,J⟩ i n f;have hm:=qM.2 ⟨_,f⟩;rcases qn i with rfl|s
   .exact(tk 0 n).2 ⟨F n hm,D n hm,.inl rfl,(j n).2 (M n f)⟩
   .obtain⟨a,b⟩:=J i n s f;exact(tk i n).2 ⟨F n hm,D n hm,.inr a,(okS i n s).2 b⟩
def dirD(n c:Xq):Bool:=c.Id_==n.Xh&&decide (c.Xk>=2147483648)
theorem ref10_inner(t:Xv)(i:Nat)(hi:i<t.Xz.length)(F:t.Xz.length<=1024) :
  am_ (eQ_ (i:Int) t) BIG (false,0)=some (bif((t.Xz.take i).drop 1).any (λc=>dJ_ c t.Xz[i])then .ret false else .fall ((t.Xz.take i).any (dirD t.Xz[i]))):=by
 refine ev_ (body:=eQ_ (i:Int) t) (J:=λj s b=>j<=i/\s=((t.Xz.take j).any (dirD t.Xz[i]),(j:Int))/\((t.Xz.take j).drop 1).any (λc=>dJ_ c t.Xz[i])=false/\b=bif((t.Xz.take i).drop 1).any (λc=>dJ_ c t.Xz[i])then .ret false else .fall ((t.Xz.take i).any (dirD t.Xz[i]))) i (by show i<18446744073709551616;omega) (λs b u => ?_) (λj s b y u => ?_) ⟨zV _,rfl,by simp,rfl⟩
 .obtain⟨_,rfl,x,rfl⟩:=u;rw[x];unfold eQ_;simp only;rw[be_];rfl
 .obtain⟨_,rfl,x,rfl⟩:=u;have h:j<t.Xz.length:=by omega
  have p:t.Xz.take (j+1)=t.Xz.take j++[t.Xz[j]]:=jz_ h;have q:(t.Xz.take (j+1)).any (dirD t.Xz[i])=((t.Xz.take j).any (dirD t.Xz[i])||dirD t.Xz[i] t.Xz[j]):=by rw[p,List.any_append];simp
  have f:eQ_ (i:Int) t ((t.Xz.take j).any (dirD t.Xz[i]),(j:Int))=bif(decide (0<j)&&dJ_ t.Xz[j] t.Xz[i])then some (.done (.ret false))else some (.next ((t.Xz.take (j+1)).any (dirD t.Xz[i]),((j+1:Nat):Int))):=by
   unfold eQ_;simp only;rw[aT_ y,ap_ h,ap_ hi,as_ (by omega),q];have D:decide ((j:Int)>0)=decide (0<j):=by rw[qK];simp
   rw[D];unfold dirD dJ_ bh_;simp only[qm,qBs];cases(t.Xz.take j).any λc=>c.Id_==t.Xz[i].Xh&&decide (c.Xk>=2147483648)<;>cases t.Xz[j].Id_==t.Xz[i].Xh<;>cases decide (t.Xz[j].Xk>=2147483648)<;>cases decide (0<j)<;>cases t.Xz[j].Xh==t.Xz[i].Xh<;>cases t.Xz[j].Xg==t.Xz[i].Xg<;>rfl
  cases m:decide (0<j)&&dJ_ t.Xz[j] t.Xz[i]with
  | true =>
   rw[m]at f;refine .inl ?_;rw[f];rw[qAn,qDe]at m;have:((t.Xz.take i).drop 1).any (λc=>dJ_ c t.Xz[i])=true:=zg.2 ⟨_,mem_take_drop.2 ⟨j,m.1,y,qQ h⟩,m.2⟩;rw[this];rfl
  | false =>
   rw[m]at f;refine .inr ⟨_,f,by omega,rfl,?_,rfl⟩;rcases qn j with rfl|C
   .rw[p];simp
   .rw[p8_ h C,List.any_append,x];rw[show decide (0<j)=true by simpa using C,zY]at m;simpa using m
def rB(l:List Xq)(i:Nat)(n:Xq):Bool:=decide ((fG_ l i).Id_<n.Id_)&&(decide (n.Xh<n.Id_)&&(bv_ n.Xg&&(bb_ n&&(!(((l.take i).drop 1).any λc=>dJ_ c n)&&(l.take i).any (dirD n)))))
def gR(l:List Xq)(i:Nat)(n:Xq):Option Bool:=if rB l i n then none else some false
theorem uf_(t:Xv)(p:t.Xz.length<=1024)(q:1<=t.Xz.length)(hm:∀n∈t.Xz,n.Xk<=9223372036854775807/\n.Xg.length<=9223372036854775807) :
  am_ (fN_ t) BIG 1=some (di_ (aO_ (gR t.Xz) 1 (t.Xz.drop 1))):=by
 refine vy_ t.Xz (gR t.Xz) 1 q (bu_ (by omega)) (λi hi s => ?_) ?_
 .have f:=qx hi;obtain⟨j,h⟩:=hm _ f;unfold fN_;have m:an_ t.Xz (w64 ((i:Int)-1))=some (fG_ t.Xz i):=jM_ zeroN s hi (by omega);rw[aT_ hi,ap_ hi,m,as_ (by omega)];simp only[qm,qBs];rw[gY_ _ h,o5_ _ j];simp only[qBs];rw[ref10_inner t i hi p];have x:decide (t.Xz[i].Id_<=(fG_ t.Xz i).Id_) = !(decide ((fG_ t.Xz i).Id_<t.Xz[i].Id_)):=by rw[qK];simp
  have u:decide (t.Xz[i].Xh>=t.Xz[i].Id_) = !(decide (t.Xz[i].Xh<t.Xz[i].Id_)):=by rw[qK];simp
  rw[x,u];unfold gR rB;cases decide ((fG_ t.Xz i).Id_<t.Xz[i].Id_)<;>cases decide (t.Xz[i].Xh<t.Xz[i].Id_)<;>cases bv_ t.Xz[i].Xg<;>cases bb_ t.Xz[i]<;>try rfl
  cases((t.Xz.take i).drop 1).any λc=>dJ_ c t.Xz[i]<;>cases(t.Xz.take i).any (dirD t.Xz[i])<;>rfl
 .unfold fN_;rw[be_];rfl
theorem last_lt{l:List Xq}(m:l.Pairwise λa b=>a.Id_<b.Id_){x:Xq}(f:l[l.length-1]? = some x)(next:Int):(∀n∈l,n.Id_<next)↔x.Id_<next:=by
 constructor
 .exact λh=>h x (qM.2 ⟨_,f⟩)
 .intro h n p;obtain⟨i,hi⟩:=qM.1 p;obtain⟨u,C⟩:=qZ.1 hi;obtain⟨s,y⟩:=qZ.1 f;rcases qN i (l.length-1)with j|q
  .have:=qq.1 m i (l.length-1) u s j;rw[C,y]at this;omega
  .obtain rfl:i=l.length-1:=by omega
   rw[hi]at f;cases f;exact h
def rootD(r:Xq):Bool:=r.Id_==1&&(r.Xh==1&&(r.Xg==[47]&&(decide (2147483648<=r.Xk)&&bb_ r)))
theorem hp_(t:Xv)(hl:t.Xz.length<=1024)(hm:∀n∈t.Xz,n.Xk<=9223372036854775807/\n.Xg.length<=9223372036854775807):∃b,cS_ t=some b/\(b=true↔OkT t.Xz t.Xp):=by
 rcases qn t.Xz.length with m|m
 .refine⟨false,?_,λh=>(nomatch h),λh => ?_⟩
  .unfold cS_;rw[show decide ((t.Xz.length:Int)<1)=true by simp;omega];rfl
  .have:=(OkT_iff.1 h).1;omega
 .obtain⟨r,hr⟩:∃r,t.Xz[0]? = some r:=⟨_,qQ m⟩;obtain⟨z,U⟩:∃z,t.Xz[t.Xz.length-1]? = some z:=⟨_,qQ (by omega)⟩;have gr:an_ t.Xz 0=some r:=(bt_ t.Xz 0).trans hr;have gz:an_ t.Xz (w64 ((t.Xz.length:Int)-1))=some z:=by rw[w_pred m (by omega),bt_];exact U
  have C:=qM.2 ⟨_,hr⟩;have D:(decide ((t.Xz.length:Int)<1)||decide ((t.Xz.length:Int)>1024))=false:=by simp;omega
  have ev:cS_ t=bif rootD r then(bif(decide (t.Xp<=z.Id_)||decide (t.Xp>1048576))then some false else some ((aO_ (gR t.Xz) 1 (t.Xz.drop 1)).getD true))else some false:=by
   unfold cS_;rw[D,gr,gz];have e1:decide (r.Xk<2147483648) = !(decide (2147483648<=r.Xk)):=by rw[qK];simp
   simp only[qr,qBs];rw[o5_ _ (hm r C).1,e1];simp only[qBs];unfold rootD bne;cases r.Id_==1<;>cases r.Xh==1<;>cases r.Xg==[47]<;>cases decide (2147483648<=r.Xk)<;>cases bb_ r<;>try rfl
   cases hN:(decide (t.Xp<=z.Id_))||(decide (t.Xp>1048576))with
   | true=>rfl
   | false =>
    show(Option.bind (am_ (fN_ t) BIG 1) λ(O:Out Unit Bool)=>match O with | .ret r3=>some r3 | .fall _=>some true)=some ((aO_ (gR t.Xz) 1 (t.Xz.drop 1)).getD true);exact bk_ (uf_ t hl m hm) (λ_=>rfl) rfl
  have q:rootD r=true↔RootOK r/\bb_ r=true:=by
   unfold rootD RootOK;simp only[qAn,qF,qDe];constructor
   .rintro⟨h1,Z,M,F,s⟩;have:=eY_ (gZ_ s);exact⟨⟨h1,Z,M,by rw[←this];simpa using F⟩,s⟩
   .rintro⟨⟨h1,Z,M,F⟩,s⟩;have:=eY_ (gZ_ s);rw[F]at this;exact⟨h1,Z,M,by simpa using this,s⟩
  rw[OkT_iff];cases y:rootD r with
  | false =>
   refine⟨false,by rw[ev,y];rfl,λh=>(nomatch h),λ⟨_,_,_,F,s,_⟩ => ?_⟩;rw[q.2 ⟨F r hr,s r C⟩]at y;cases y
  | true =>
   obtain⟨Y,V⟩:=q.1 y;cases hN:(decide (t.Xp<=z.Id_))||(decide (t.Xp>1048576))with
   | true =>
    refine⟨false,by rw[ev,y,hN];rfl,λh=>(nomatch h),λ⟨_,_,M,_,_,h6,_⟩ => ?_⟩;have:=h6 z (qM.2 ⟨_,U⟩);simp only[qT,qDe]at hN;omega
   | false =>
    refine⟨(aO_ (gR t.Xz) 1 (t.Xz.drop 1)).getD true,by rw[ev,y,hN];rfl,?_⟩;simp only[qP,qDf]at hN;rw[oo_ (g:=gR t.Xz) (p:=rB t.Xz) (λ_ _=>rfl)];have rk:∀i (n:Xq),rB t.Xz i n=true↔(fG_ t.Xz i).Id_<n.Id_/\n.Xh<n.Id_/\bv_ n.Xg=true/\bb_ n=true/\(∀c∈(t.Xz.take i).drop 1,dJ_ c n=false)/\∃p∈t.Xz.take i,p.Id_=n.Xh/\2147483648<=p.Xk:=λi n=>by
     unfold rB;simp only[qAn,qDe,qH,zg,jO,dirD,qF,jp,ge_iff_le]
    have nth:∀i n,(t.Xz.drop 1)[i]? = some n↔t.Xz[1+i]? = some n:=λi n=>by rw[zA]
    constructor
    .intro h;have h':∀i n,0<i->t.Xz[i]? = some n->rB t.Xz i n=true:=λi n m f=>by
      have:=h (i-1) n ((nth _ _).2 (by rw[show 1+(i-1)=i by omega];exact f))
      rwa [show 1+(i-1)=i by omega]at this
     have flds:∀n∈t.Xz,bb_ n=true:=λn f=>by
      obtain⟨i,hi⟩:=qM.1 f;rcases qn i with rfl|m
      .rw[hr]at hi;cases hi;exact V
      .exact((rk i n).1 (h' i n m hi)).2.2.2.1
     refine⟨m,by omega,by omega,λn f=>by rw[hr]at f;cases f;exact Y,flds,?_,λi n m f => ?_⟩
     .exact(last_lt (srt_iff.2 λi n m f=>((rk i n).1 (h' i n m f)).1) U _).2 (by omega)
     .obtain⟨a,b,c,d,e,p,x,J,G⟩:=(rk i n).1 (h' i n m f);refine⟨a,c,⟨p,x,J,?_⟩,e⟩;rw[←eY_ (gZ_ (flds p (zd x)))];simpa using G
    .intro h i n f;have ht:=OkT_iff.2 h;obtain⟨_,_,_,_,s,_,h7⟩:=h;have u:=(nth _ _).1 f;obtain⟨a,b,⟨p,x,J,G⟩,d⟩:=h7 (1+i) n (by omega) u;refine(rk (1+i) n).2 ⟨a,?_,b,s n (qM.2 ⟨_,u⟩),d,p,x,J,?_⟩
     .obtain⟨j,j1,j2⟩:=mem_take.1 x;rw[←J];obtain⟨q1,e1⟩:=qZ.1 j2;obtain⟨q2,e2⟩:=qZ.1 u;have:=qq.1 ht.srt j (1+i) q1 q2 j1
      rwa [e1,e2]at this
     .rw[←eY_ (gZ_ (s p (zd x)))]at G;simpa using G
theorem px_{xs:List Str}(h:xs.length<=1000):bM_ xs=some xs:=hN_ (n:=16) (by omega) (by omega)
def okU(i:Nat)(b:UInt8):Bool:=(decide (97<=b.toNat)&&decide (b.toNat<=122))||(!(i==0)&&((decide (48<=b.toNat)&&decide (b.toNat<=57))||b.toNat==45||b.toNat==95))
def gU(i:Nat)(b:UInt8):Option Bool:=if okU i b then none else some false
def vU(s:Str):Bool:=decide (1<=s.length)&&(decide (s.length<=32)&&((aO_ gU 0 s).getD true))
theorem gU_if(i:Nat)(b:UInt8){c:Bool}(h:c = !(okU i b)):(bif c then some (Step.done (Out.ret false))else some (Step.next ((i+1:Nat):Int)):Option (Step Int (Out Unit Bool)))=some (stepO (gU i b) i):=by
 subst h;unfold gU;cases okU i b<;>rfl
theorem okU_a(i:Nat)(b:UInt8):((!(decide ((b.toNat:Int)>=97)&&decide ((b.toNat:Int)<=122)))&&(((i:Int)==0)||(!(((decide ((b.toNat:Int)>=48)&&decide ((b.toNat:Int)<=57))||((b.toNat:Int)==45))||((b.toNat:Int)==95))))) = !(okU i b):=by
 unfold okU;rw[qK];simp only[qAn,qT,qH,zh,qP,qDf,qF,zZ,Bool.not_eq_false'];omega
theorem vD_(s:Str)(h:s.length<=9223372036854775807):am_ (jd_ s) BIG 0=some (di_ (aO_ gU 0 s)):=by
 refine bg_ s gU (bu_ h) (λi hi => ?_) ?_
 .unfold jd_;rw[lD_ hi,aT_ hi,as_ (by omega)];simp only[qm,qBs];exact gU_if i s[i] (okU_a i s[i])
 .unfold jd_;rw[be_];rfl
theorem q4_(s:Str)(h:s.length<=9223372036854775807):gl_ s=some (vU s):=by
 unfold gl_ vU;have j:(s==[]) = !decide (1<=s.length):=by cases s with|nil=>rfl|cons a l=>rw[qK];simp
 have f:decide ((s.length:Int)>32) = !decide (s.length<=32):=by rw[qK];simp only[qDe,qH,qDf];omega
 rw[j,f];cases decide (1<=s.length)with
 | false=>rfl
 | true =>
  cases decide (s.length<=32)with
  | false=>rfl
  | true =>
   refine ab_ rfl ?_;exact bk_ (vD_ s h) (λ_=>rfl) rfl
theorem ug_(s:Str)(h:s.length<=9223372036854775807):am_ (h6_ s) BIG 0=some (di_ (aO_ gU 0 s)):=by
 refine bg_ s gU (bu_ h) (λi hi => ?_) ?_
 .unfold h6_;rw[lD_ hi,aT_ hi,as_ (by omega)];simp only[qm,qBs];refine gU_if i s[i] ?_;rw[←okU_a];rw[qK];simp only[qAn,qT,qH,zh,qP,qDf,qF,zZ,zM,ne_eq]
 .unfold h6_;rw[be_];rfl
theorem eP_(s:Str)(h:s.length<=9223372036854775807):cR_ s=some (vU s):=by
 unfold cR_ vU;have j:decide ((s.length:Int)<1) = !decide (1<=s.length):=by rw[qK];simp only[qDe,qH,qDf];omega
 have f:decide ((s.length:Int)>32) = !decide (s.length<=32):=by rw[qK];simp only[qDe,qH,qDf];omega
 rw[j,f];cases decide (1<=s.length)with
 | false=>rfl
 | true =>
  cases decide (s.length<=32)with
  | false=>rfl
  | true =>
   refine ab_ rfl ?_;exact bk_ (ug_ s h) (λ_=>rfl) rfl
abbrev dj_(name:Str)(u:Xc):Bool:=u.Xg==name
def d5_(l:List Xc)(name:Str):Xc×Bool:=match l.find? (dj_ name)with|some u=>(u,true)|none=>(Xc.mk [] [] [],false)
theorem mj_(l:List Xc)(name:Str)(h:l.length<=1000):jI_ l name=some (at_ (dj_ name) l):=by
 rw[←j7_];refine bk_ (bg_ l _ (bu_ (by omega)) (λi hi => ?_) ?_) (λ_=>rfl) rfl
 .unfold pq_;rw[ap_ hi,aT_ hi,as_ (by omega)];simp only[qm,qBs];unfold dj_;cases l[i].Xg==name<;>rfl
 .unfold pq_;rw[be_];rfl
def smallM(l:List Xc):Prop:=∀u∈l,u.Yn.length<=1000
def fitM(l:List Xc):Prop:=∀u∈l,u.Yn.length<=9223372036854775807
theorem smallM.fit{l:List Xc}(h:smallM l):fitM l:=λu f=>qt (h u f) (by decide)
theorem rt_(l:List Xc)(name:Str)(h:l.length<=1000):kB_ l name=some (d5_ l name):=by
 unfold kB_ d5_;refine aa_ (mj_ l name h) ?_;rw[kW_];cases f:l.find? (dj_ name)with
 | none=>rfl
 | some u =>
  refine ab_ rfl ?_;refine aa_ ((mD_ (dj_ name) l (by rw[f];rfl)).trans f) rfl
theorem sr_(l:List Xc)(name:Str)(h:l.length<=1000)(hm:smallM l):oX_ l name=some (d5_ l name):=by
 have e:d5_ l name=((l.find? (dj_ name)).map λu=>(u,true)).getD (Xc.mk [] [] [],false):=by
  unfold d5_;cases l.find? (dj_ name)<;>rfl
 rw[e,←hM_ _ _ 0];refine bk_ (bg_ l _ (bu_ (by omega)) (λi hi => ?_) ?_) (λ_=>rfl) rfl
 .unfold oe_;rw[ap_ hi,aT_ hi,as_ (by omega)];simp only[qm,qBs];unfold dj_;cases l[i].Xg==name with
  | false=>rfl
  | true =>
   refine ae_ rfl ?_;refine aa_ (px_ (hm _ (qx hi))) rfl
 .unfold oe_;rw[be_];rfl
theorem tD_(l:List Xc)(name:Str)(hm:smallM l):(d5_ l name).1.Yn.length<=1000:=by
 unfold d5_;cases f:l.find? (dj_ name)with
 | none=>exact zV _
 | some u=>exact hm u (zH f)
def hasM(l:List Str)(s:Str):Bool:=l.any λm=>m==s
def dS_(l:List Xc)(user group:Str):Bool:=user==group||hasM (d5_ l group).1.Yn user
theorem index_texts(l:List Str)(s:Str)(h:l.length<=1000):eH_ l s=some (at_ (λm=>m==s) l):=by
 rw[←j7_];refine bk_ (bg_ l _ (bu_ (by omega)) (λi hi => ?_) ?_) (λ_=>rfl) rfl
 .unfold dP_;rw[ap_ hi,aT_ hi,as_ (by omega)];simp only[qm,qBs];have e:(s==l[i])=(l[i]==s):=by rw[qK,qF,qF];exact⟨Eq.symm,Eq.symm⟩
  rw[e];cases l[i]==s<;>rfl
 .unfold dP_;rw[be_];rfl
theorem at_any{α:Type}(p:α->Bool)(l:List α):decide (at_ p l>=0)=l.any p:=by
 have h:=kW_ p l;have e:l.any p=(l.find? p).isSome:=by
  rw[qK,List.find?_isSome,zg]
 rw[e];have:decide (at_ p l>=0) = !decide (at_ p l<0):=by rw[qK];simp
 rw[this,h];cases l.find? p<;>rfl
theorem wT_(l:List Str)(s:Str)(h:l.length<=1000):cK_ l s=some (hasM l s):=by
 unfold cK_ hasM;refine aa_ (index_texts l s h) ?_;rw[at_any]
theorem ir_(l:List Xc)(user group:Str)(h:l.length<=1000)(hm:smallM l):gR_ l user group=some (dS_ l user group):=by
 unfold gR_ dS_;cases user==group with
 | true=>rfl
 | false =>
  refine ab_ rfl ?_;refine aa_ (sr_ l group h hm) ?_;have j:=tD_ l group hm;have f:(d5_ l group).2=false->(d5_ l group).1.Yn=[]:=by
   unfold d5_;cases l.find? (dj_ group)with
   | none=>exact λ_=>rfl
   | some u=>exact λh=>nomatch h
  cases m:(d5_ l group).2 with
  | true=>exact aa_ (ae_ rfl (aa_ (wT_ _ user j) rfl)) rfl
  | false=>rw[f m];exact aa_ (a:=false) rfl rfl
theorem kY_(l:List Xc)(user group:Str)(h:l.length<=1000)(hm:smallM l):fV_ l user group=some (dS_ l user group):=by
 unfold fV_ dS_;cases user==group with
 | true=>rfl
 | false =>
  refine ab_ rfl ?_;refine aa_ (rt_ l group h) ?_;have j:=tD_ l group hm;generalize d5_ l group=q at j;have e:(false||hasM q.1.Yn user)=((q.1.Yn.find? λm=>m==user).map λ_=>true).getD false:=by
   unfold hasM;rw[jZ,qK,zg];cases f:q.1.Yn.find? λm=>m==user with
   | none =>
    rw[zr]at f;simp only[zf,jn];exact⟨λ⟨x,s,p⟩=>absurd p (f x s),λh=>nomatch h⟩
   | some x=>exact⟨λ_=>rfl,λ_=>⟨x,zH f,by simpa using jW f⟩⟩
  rw[e,←hM_ _ _ 0];refine bk_ (bg_ _ _ (bu_ (by omega)) (λi hi => ?_) ?_) (λ_=>rfl) rfl
  .unfold kC_;rw[ap_ hi,aT_ hi,as_ (by omega)];simp only[qm,qBs];cases q.1.Yn[i]==user<;>rfl
  .unfold kC_;rw[be_];rfl
theorem eqS_iff(x y:Str):eqS x y=true↔x=y:=qF
def Cnt(ks:List Str)(vs:List Int)(l:List Xc):Prop:=ks.length=vs.length/\∀n,aE_ eqS ks vs n 0=((l.countP (dj_ n):Nat):Int)
theorem Cnt.put{ks:List Str}{vs:List Int}{l:List Xc}{u:Xc}(h:Cnt ks vs l)(m:l.length<=1000):Cnt (aY_ eqS ks u.Xg) (bs_ eqS ks vs u.Xg (w64 (aE_ eqS ks vs u.Xg 0+1))) (l++[u]):=by
 refine⟨q0_ h.1,λn => ?_⟩;have q:=List.countP_le_length (p:=dj_ u.Xg) (l:=l);rw[q1_ eqS_iff h.1,h.2 u.Xg,h.2 n,as_ (by omega),List.countP_append];have e:List.countP (dj_ n) [u]=if u.Xg==n then 1 else 0:=by simp[List.countP_cons,dj_]
 rw[e];have j:eqS n u.Xg=(u.Xg==n):=by unfold eqS;rw[qK,qF,qF];exact⟨Eq.symm,Eq.symm⟩
 rw[j];cases f:u.Xg==n with
 | true=>obtain rfl:=qF.1 f;rfl
 | false=>rfl
def em_(l:List Xc)(n:Str):Bool:=l.any (dj_ n)
def gM(l:List Xc)(f:List Str)(k:Nat)(m:Str):Option Int:=if !(em_ l m)||(decide (0<k) && !(Op.bytesLess (f.getD (k-1) []) m))then some 26 else none
def memE(l:List Xc)(f:List Str):Int:=(aO_ (gM l f) 0 f).getD 0
def gC(l:List Xc)(i:Nat)(u:Xc):Option Int:=if !(vU u.Xg)then some 25 else if(l.take i).any (dj_ u.Xg)then some 7 else if !(u.Yr==[]) && !(em_ l u.Yr)then some 26 else if memE l u.Yn != 0 then some (memE l u.Yn)else none
def mF_(l:List Xc):Int:=if l.length>64 then 22 else(aO_ (gC l) 0 l).getD 0
def op_(l:List Xc):Prop:=∀u∈l,u.Xg.length<=9223372036854775807
theorem any_find{α:Type}(p:α->Bool)(l:List α):l.any p = !((l.find? p).isNone):=by
 rw[qK,zg];cases f:l.find? p with
 | none =>
  rw[zr]at f;exact⟨λ⟨x,m,j⟩=>absurd j (f x m),λh=>nomatch h⟩
 | some x=>exact⟨λ_=>rfl,λ_=>⟨x,zH f,by simpa using jW f⟩⟩
theorem at_absent(l:List Xc)(n:Str):decide (at_ (dj_ n) l<0) = !(em_ l n):=by
 unfold em_;rw[kW_,any_find,Bool.not_not]
theorem at_before(l:List Xc)(i:Nat)(hi:i<l.length):decide (at_ (dj_ l[i].Xg) l<(i:Int))=(l.take i).any (dj_ l[i].Xg):=by
 rw[qK,qDe,zg];rcases lE_ (dj_ l[i].Xg) l with⟨f,_⟩|⟨j,x,f,F,p,D,C⟩
 .rw[zr]at f;exact absurd (jX l[i].Xg) (f _ (qx hi))
 .rw[F];constructor
  .intro h;have J:j<i:=by omega
   refine⟨x,?_,D⟩;rw[List.mem_take_iff_getElem];have u:=(qZ.1 p).1;exact⟨j,by omega,(qZ.1 p).2⟩
  .rintro⟨y,m,s⟩;rw[List.mem_take_iff_getElem]at m;obtain⟨q,G,rfl⟩:=m;rcases qN q j with h|h
   .have:=C q _ h (qQ (by omega));rw[s]at this;cases this
   .omega
theorem yy_(l:List Xc)(u:Xc)(h:l.length<=1000)(m:u.Yn.length<=9223372036854775807):am_ (fE_ u l) BIG 0=some (di_ (aO_ (gM l u.Yn) 0 u.Yn)):=by
 refine bg_ _ _ (bu_ (by omega)) (λi hi => ?_) ?_
 .unfold fE_;rw[ap_ hi,aT_ hi,as_ (by omega)];simp only[qm,qBs];refine aa_ (mj_ l _ h) ?_;rw[at_absent];unfold gM;cases p:em_ l u.Yn[i]with
  | false=>rfl
  | true =>
   rcases qn i with rfl|f
   .rfl
   .have e:decide ((i:Int)>0)=true:=by simpa using f
    have j:decide (0<i)=true:=by simpa using f
    rw[e,j,jM_ [] f hi (by omega)];simp only[jC,qr,qm,qBs,jZ,zY];cases Op.bytesLess (u.Yn.getD (i-1) []) u.Yn[i]<;>rfl
 .unfold fE_;rw[be_];rfl
theorem ref05_one(l:List Xc)(i:Nat)(hi:i<l.length)(h:l.length<=1000)(hm:fitM l)(m:op_ l):h7_ l (i:Int)=some ((gC l i l[i]).getD 0):=by
 unfold h7_ gC;rw[ap_ hi];refine aa_ rfl (aa_ (eP_ _ (m _ (qx hi))) ?_);cases p:vU l[i].Xg with
 | false=>rfl
 | true =>
  refine ab_ rfl (aa_ (mj_ l _ h) ?_);rw[at_before l i hi];cases s:(l.take i).any (dj_ l[i].Xg)with
  | true=>rfl
  | false =>
   refine ab_ rfl ?_;have e:Option.bind (bif(!(l[i].Yr==[]))then Option.bind (jI_ l l[i].Yr) λ(f:Int)=>some (decide (f<0))else some false)=Option.bind (some (!(l[i].Yr==[]) && !(em_ l l[i].Yr)):Option Bool) (β:=Int):=by
    congr 1
    cases l[i].Yr==[]with
    | true=>rfl
    | false =>
     refine ae_ rfl (aa_ (mj_ l _ h) ?_);rw[at_absent];rfl
   rw[e];refine aa_ rfl ?_;cases q : !(l[i].Yr==[]) && !(em_ l l[i].Yr)with
   | true=>rfl
   | false =>
    refine ab_ rfl ?_;refine(bk_ (yy_ l l[i] h (hm _ (qx hi))) (λ_=>rfl) rfl).trans ?_;show some (memE l l[i].Yn)=_;cases j:memE l l[i].Yn != 0 with
    | true=>simp
    | false=>simp;simpa using j
theorem gC_ne(l:List Xc)(i:Nat)(u:Xc):(if(gC l i u).getD 0 != 0 then some ((gC l i u).getD 0)else none)=gC l i u:=by
 unfold gC;split
 .rfl
 .split
  .rfl
  .split
   .rfl
   .split
    .rename_i h;simpa using h
    .rfl
theorem wU_(l:List Xc)(h:l.length<=1000)(hm:fitM l)(m:op_ l):lW_ l=some (mF_ l):=by
 unfold lW_ mF_;by_cases f:l.length>64
 .rw[qV f];exact ae_ (by simp;omega) rfl
 .rw[qX f];refine ab_ (by simp;omega) ?_;refine bk_ (bg_ l _ (bu_ (by omega)) (λi hi => ?_) ?_) (λ_=>rfl) rfl
  .unfold lw_;rw[aT_ hi,as_ (by omega)];refine ae_ rfl (aa_ (ref05_one l i hi h hm m) ?_);rw[←gC_ne l i l[i]];cases j:(gC l i l[i]).getD 0 != 0 with
   | true=>simp[j,stepO]
   | false=>simp[stepO]
  .unfold lw_;rw[be_];rfl
theorem to_(l:List Xc)(f:List Str)(ks:List Str)(vs:List Int)(x:Cnt ks vs l)(C:f.length<=9223372036854775807):ks_ (ks,vs) f=some (memE l f,ks,vs):=by
 have s:∀n,(aE_ eqS ks vs n 0==0) = !(em_ l n):=λn=>by
  rw[x.2 n];unfold em_;rw[qK,qF,qH,jO];have:((l.countP (dj_ n):Nat):Int)=0↔l.countP (dj_ n)=0:=by omega
  rw[this,List.countP_eq_zero]
 have u:am_ (he_ f (ks,vs)) BIG 0=some (di_ ((aO_ (gM l f) 0 f).map λe=>(e,ks,vs))):=by
  have h:∀(k:Nat) (q:List Str),(aO_ (gM l f) k q).map (λe=>(e,ks,vs))=aO_ (λi m=>(gM l f i m).map λe=>(e,ks,vs)) k q:=by
   intro k q
   induction q generalizing k with
   | nil=>rfl
   | cons a q p =>
    simp only[aO_];cases gM l f k a with
    | some r=>rfl
    | none=>exact p (k+1)
  rw[h];refine bg_ _ _ (bu_ (by omega)) (λi hi => ?_) ?_
  .unfold he_;rw[ap_ hi,aT_ hi,as_ (by omega)];simp only[qm,qBs];rw[s];unfold gM;cases D:em_ l f[i]with
   | false=>rfl
   | true =>
    rcases qn i with rfl|j
    .rfl
    .have e:decide ((i:Int)>0)=true:=by simpa using j
     have y:decide (0<i)=true:=by simpa using j
     rw[e,y,jM_ [] j hi (by omega)];simp only[jC,qr,qm,qBs,jZ,zY];cases Op.bytesLess (f.getD (i-1) []) f[i]<;>rfl
  .unfold he_;rw[be_];rfl
 unfold ks_ memE;rw[u];cases aO_ (gM l f) 0 f<;>rfl
theorem ui_(l:List Xc)(h:l.length<=1000):∃ks vs,am_ (je_ l) BIG (0,([]:List Str),([]:List Int))=some (ks,vs)/\Cnt ks vs l:=by
 let f:List Str×List Int->Nat->Xc->List Str×List Int:=λs _ u=>(aY_ eqS s.1 u.Xg,bs_ eqS s.1 s.2 u.Xg (w64 (aE_ eqS s.1 s.2 u.Xg 0+1)))
 have key:∀(i:Nat) (q:List Xc) (s:List Str×List Int) (p:List Xc),p.length+q.length<=1000->Cnt s.1 s.2 p->Cnt (bG_ f s i q).1 (bG_ f s i q).2 (p++q):=by
  intro i q
  induction q generalizing i with
  | nil=>intro s p _ j;simpa[bG_]using j
  | cons u q m =>
   intro s p x j;simp only[qLc]at x;have:=m (i+1) (f s i u) (p++[u]) (by simp;omega) (j.put (by omega));simpa[bG_]using this
 refine⟨(bG_ f ([],[]) 0 l).1,(bG_ f ([],[]) 0 l).2,?_,by simpa using key 0 l ([],[]) [] (by simpa using h) ⟨rfl,λn=>rfl⟩⟩;refine d4_ (τ:=Int×List Str×List Int) l f (λi s=>((i:Int),s.1,s.2)) (λ_ _=>True) (λs=>(s.1,s.2)) ([],[]) (bu_ (by omega)) trivial (λi s hi _=>⟨?_,trivial⟩) (λs _ => ?_)
 .unfold je_;simp only;rw[aT_ hi,ap_ hi,as_ (by omega)];rfl
 .unfold je_;simp only;rw[be_];rfl
theorem yz_(l:List Xc)(h:l.length<=1000)(hm:fitM l)(F:op_ l):kt_ l=some (mF_ l):=by
 unfold kt_ mF_;by_cases C:l.length>64
 .rw[qV C];exact ae_ (by simp;omega) rfl
 .rw [qX C];refine ab_ (by simp;omega) ?_;obtain⟨ka,va,G,s⟩:=ui_ l h;refine aa_ G ?_;refine bk_ (o:=aO_ (gC l) 0 l) ?_ (λ_=>rfl) rfl;refine ev_ (body:=gG_ l) (J:=λi t b=>∃ks vs,t=((i:Int),ka,va,ks,vs)/\Cnt ks vs (l.take i)/\b=di_ (aO_ (gC l) i (l.drop i))) l.length (bu_ (by omega)) (λt b y => ?_) (λi t b hi y => ?_) ⟨[],[],rfl,⟨rfl,λn=>by simp[aE_]⟩,by simp⟩
  .obtain⟨ks,vs,rfl,_,rfl⟩:=y;unfold gG_;simp only;rw[be_];simp[aO_,di_]
  .obtain⟨ks,vs,rfl,D,rfl⟩:=y;have m:=qx hi;have j:=D.put (u:=l[i]) (by rw[qS];omega);rw[←jz_ hi]at j;rw[qw hi];have q:decide (aE_ eqS ks vs l[i].Xg 0>0)=(l.take i).any (dj_ l[i].Xg):=by
    rw[D.2 l[i].Xg,qK,qDe,zg];have:((List.countP (dj_ l[i].Xg) (l.take i):Nat):Int)>0↔0<List.countP (dj_ l[i].Xg) (l.take i):=by omega
    rw[this,List.countP_pos_iff]
   have p:Option.bind (bif(!(l[i].Yr==[]))then some ((aE_ eqS ka va l[i].Yr 0)==0)else some false)=Option.bind (some (!(l[i].Yr==[]) && !(em_ l l[i].Yr)):Option Bool) (β:=Step (Int×(List Str)×(List Int)×(List Str)×(List Int)) (Out Unit Int)):=by
    congr 1
    cases l[i].Yr==[]with
    | true=>rfl
    | false =>
     have:(aE_ eqS ka va l[i].Yr 0==0) = !(em_ l l[i].Yr):=by
      rw[s.2 l[i].Yr];unfold em_;rw[qK,qF,qH,jO];have:((l.countP (dj_ l[i].Yr):Nat):Int)=0↔l.countP (dj_ l[i].Yr)=0:=by omega
      rw[this,List.countP_eq_zero]
     rw[this];rfl
   have f:gG_ l ((i:Int),ka,va,ks,vs)=some (match gC l i l[i]with|some r => .done (.ret r)|none => .next (((i+1:Nat):Int),ka,va,aY_ eqS ks l[i].Xg,bs_ eqS ks vs l[i].Xg (w64 (aE_ eqS ks vs l[i].Xg 0+1)))):=by
    unfold gG_ gC;simp only;rw[aT_ hi,ap_ hi];refine ae_ rfl (aa_ rfl (aa_ (q4_ _ (F _ m)) ?_));cases vU l[i].Xg with
    | false=>rfl
    | true =>
     refine ab_ rfl ?_;rw[q];cases(l.take i).any (dj_ l[i].Xg)with
     | true=>rfl
     | false =>
      refine ab_ rfl ?_;rw[p];refine aa_ rfl ?_;cases !(l[i].Yr==[]) && !(em_ l l[i].Yr)with
      | true=>rfl
      | false =>
       refine ab_ rfl (aa_ (to_ l _ ka va s (hm _ m)) ?_);simp only;cases M:memE l l[i].Yn != 0 with
       | true=>simp
       | false=>simp only[qr];rw[as_ (by omega)];rfl
   cases x:gC l i l[i]with
   | some r =>
    rw[x]at f;exact .inl (by rw[f];simp[aO_,x,di_])
   | none =>
    rw[x]at f;exact .inr ⟨_,f,_,_,rfl,j,by simp[aO_,x]⟩
theorem has_and(x:Int)(k:Nat)(j:k<63)(p:x<=9223372036854775807):(decide (x>=0)&&(bL_ .i64 x ((2^k:Nat):Int)) != 0)=al_ x k:=by
 by_cases q:0<=x
 .obtain⟨n,rfl⟩:∃n:Nat,x=(n:Int):=⟨x.toNat,by omega⟩;have h:2^k<2^63:=Nat.pow_lt_pow_right (by omega) j;have f:decide ((n:Int)>=0)=true:=by simp
  have m:(((n&&&2^k:Nat):Int) != 0)=(n&&&2^k != 0):=by
   rw[qK];simp only[zM,ne_eq];omega
  rw[f,lC_ (by omega) h,m,bit_and,hO_,tbit];rfl
 .have f:decide (x>=0)=false:=by simp;omega
  rw[f,jN_ (by omega)];rfl
theorem i3_(x:Int)(k:Nat)(f:k<63)(h:x<=9223372036854775807):aB_ x ((2^k:Nat):Int)=some (al_ x k):=qL some (has_and x k f h)
theorem cF_(x:Int)(k:Nat)(f:k<63)(h:x<=9223372036854775807):aW_ x ((2^k:Nat):Int)=some (al_ x k):=p7_ x k f h
theorem kZ_(x:Int)(k:Nat)(f:k<63)(h:x<=9223372036854775807):ge_ x ((2^k:Nat):Int)=some (al_ x k):=p7_ x k f h
theorem uj_:BIG=18446744073709551610+6:=rfl
theorem orI_i64{a b:Nat}(h:a<2^63)(f:b<2^63):orI .i64 a b=((a|||b:Nat):Int):=by
 have j:a|||b<2^63:=Nat.or_lt_two_pow h f
 show IntKind.i64.wrap (((BitVec.ofInt 64 (a:Int)|||BitVec.ofInt 64 (b:Int)).toNat:Nat):Int)=_;rw[BitVec.toNat_or,gf_ (by omega),gf_ (by omega)];exact dB_ ⟨by omega,by omega⟩
def grB(n:Nat)(mem own:Bool)(i:Nat):Bool:=(n.testBit i||(n.testBit (i+3)&&mem))||(n.testBit (i+6)&&own)
def allowsN(n:Nat)(mem own:Bool)(w:Nat):Bool:=(!(w.testBit 0)||grB n mem own 0)&&((!(w.testBit 1)||grB n mem own 1)&&(!(w.testBit 2)||grB n mem own 2))
def nP_(l:List Xc)(user uid gid:Str)(mode want:Int):Bool:=decide (0<=mode)&&(decide (0<=want)&&(decide (want<=7)&&allowsN mode.toNat (dS_ l user gid) (user==uid) want.toNat))
theorem and_self_iff(a w:Nat)(f:w<8):(a&&&w==w)=((!(w.testBit 0)||a.testBit 0)&&((!(w.testBit 1)||a.testBit 1)&&(!(w.testBit 2)||a.testBit 2))):=by
 rw[qK,qF];constructor
 .intro h;have k:∀i,(!(w.testBit i)||a.testBit i)=true:=λi=>by
   have:=qL (λq=>q.testBit i) h;simp only[jA]at this;cases f:w.testBit i<;>cases j:a.testBit i<;>simp_all
  simp only[k,Bool.and_self]
 .intro h;simp only[qAn]at h
  apply jK;intro i;rw[jA];have k:∀{x y:Bool},(!x||y)=true->(y&&x)=x:=fun{x y}=>by cases x<;>cases y<;>simp
  match i with
  | 0=>exact k h.1
  | 1=>exact k h.2.1
  | 2=>exact k h.2.2
  | i+3 =>
   have:w.testBit (i+3)=false:=zw (zK (by omega:w<2^3) (zI (by omega) (by omega)));simp[this]
theorem oq_(n i:Nat)(hi:i<3):(n%8).testBit i=n.testBit i:=by
 rw[show(8:Nat)=2^3 from rfl,Nat.testBit_mod_two_pow];simp[hi]
theorem granted_bits(n:Nat)(mem own:Bool)(i:Nat)(hi:i<3):((if own then(if mem then n%8|||n/8%8 else n%8)|||n/64%8 else(if mem then n%8|||n/8%8 else n%8)):Nat).testBit i=grB n mem own i:=by
 have h:(n/8%8).testBit i=n.testBit (i+3):=by rw[oq_ _ _ hi,show(8:Nat)=2^3 from rfl,jD]
 have f:(n/64%8).testBit i=n.testBit (i+6):=by rw[oq_ _ _ hi,show(64:Nat)=2^6 from rfl,jD]
 unfold grB;cases mem<;>cases own<;>simp[Nat.testBit_or,h,f,oq_ _ _ hi]
theorem p9_(l:List Xc)(user uid gid:Str)(mode want:Int)(h:l.length<=1000)(hm:smallM l)(G:mode<=9223372036854775807):iX_ l user uid gid mode want=some (nP_ l user uid gid mode want):=by
 unfold iX_ nP_;by_cases J:0<=mode/\0<=want/\want<=7
 .obtain⟨n,rfl⟩:∃n:Nat,mode=(n:Int):=⟨mode.toNat,by omega⟩;obtain⟨w,rfl⟩:∃w:Nat,want=(w:Int):=⟨want.toNat,by omega⟩;refine ab_ (by simp;omega) ?_;rw[ir_ l user gid h hm];have x:(n:Int).tmod 8=((n%8:Nat):Int):=rfl;have u:(IntKind.i64.wrap ((n:Int).tdiv 8)).tmod 8=((n/8%8:Nat):Int):=by
   rw[show(n:Int).tdiv 8=((n/8:Nat):Int)from rfl,dB_ ⟨by omega,by omega⟩];rfl
  have j:(IntKind.i64.wrap ((n:Int).tdiv 64)).tmod 8=((n/64%8:Nat):Int):=by
   rw[show(n:Int).tdiv 64=((n/64:Nat):Int)from rfl,dB_ ⟨by omega,by omega⟩];rfl
  rw[x,u,j];generalize dS_ l user gid=mem;have Y:n%8<8:=jd _ (by omega);have V:n/8%8<8:=jd _ (by omega);have U:n/64%8<8:=jd _ (by omega);have O:n%8|||n/8%8<2^3:=Nat.or_lt_two_pow (by omega) (by omega)
  refine aa_ (a:=((if mem then n%8|||n/8%8 else n%8:Nat):Int)) ?_ ?_
  .refine aa_ rfl ?_;cases mem with
   | true=>rw[qm,orI_i64 (by omega) (by omega)];rfl
   | false=>rfl
  .have p:(if mem then n%8|||n/8%8 else n%8:Nat)<2^3:=by split<;>omega
   have m:=λown i hi=>granted_bits n mem own i hi
   generalize(if mem then n%8|||n/8%8 else n%8:Nat)=q at p m;have M:q|||n/64%8<2^3:=Nat.or_lt_two_pow p (by omega)
   refine aa_ (a:=((if user==uid then q|||n/64%8 else q:Nat):Int)) ?_ ?_
   .cases user==uid with
    | true=>rw[qm,orI_i64 (by omega) (by omega)];rfl
    | false=>rfl
   .have f:=m (user==uid);have F:(if user==uid then q|||n/64%8 else q:Nat)<8:=by split<;>omega
    generalize(if user==uid then q|||n/64%8 else q:Nat)=g at f F;rw[lC_ (by omega) (by omega)];have e:(((g&&&w:Nat):Int)==(w:Int))=(g&&&w==w):=by rw[qK,qF,qF];omega
    rw[e,and_self_iff g w (by omega),f 0 (by omega),f 1 (by omega),f 2 (by omega)];have D:decide (0<=(n:Int))=true:=by simp
    have C:decide (0<=(w:Int))=true:=by simp
    have y:decide ((w:Int)<=7)=true:=by simp;omega
    rw[D,C,y,qTn,qTn];rfl
 .refine ae_ (by simp;omega) ?_;have:(decide (0<=mode)&&(decide (0<=want)&&decide (want<=7)))=false:=by
   cases s:(decide (0<=mode)&&(decide (0<=want)&&decide (want<=7)))with
   | false=>rfl
   | true=>simp at s;omega
  congr 1
  revert this;cases decide (0<=mode)<;>cases decide (0<=want)<;>cases decide (want<=7)<;>simp
theorem ref06_body(l:List Xc)(user uid gid:Str)(n w i:Nat)(hi:i<=2)(h:l.length<=1000)(hm:smallM l)(F:n<2^63)(C:w<8) :
  kD_ (n:Int) l user gid uid (w:Int) ((2^i:Nat):Int)=some (if !(w.testBit i)||grB n (dS_ l user gid) (user==uid) i then .next ((2^(i+1):Nat):Int)else .done (.ret false)):=by
 have D:2^i<=4:=by
  have:2^i<=2^2:=zI (by omega) hi;omega
 have s:=Nat.two_pow_pos i;have x:w64 (8*((2^i:Nat):Int))=((2^(i+3):Nat):Int):=by
  rw[Nat.pow_add];rw[ao_ ⟨by omega,by omega⟩];omega
 have j:w64 (64*((2^i:Nat):Int))=((2^(i+6):Nat):Int):=by
  rw[Nat.pow_add];rw[ao_ ⟨by omega,by omega⟩];omega
 have y:w64 (2*((2^i:Nat):Int))=((2^(i+1):Nat):Int):=by
  rw[Nat.pow_add];rw[ao_ ⟨by omega,by omega⟩];omega
 have f:=λk u=>kZ_ (n:Int) k u (by omega)
 have p:quoI .i64 (w:Int) ((2^i:Nat):Int)=some ((w/2^i:Nat):Int):=by
  unfold quoI;rw[qX (by omega),show(w:Int).tdiv ((2^i:Nat):Int)=((w/2^i:Nat):Int)from rfl];have:=Nat.div_le_self w (2^i);generalize w/2^i=q at this;rw[dB_ ⟨by omega,by omega⟩]
 have m:(((w/2^i:Nat):Int).tmod 2==1)=w.testBit i:=by
  rw[←tbit,show((w/2^i:Nat):Int).tmod 2=((w/2^i%2:Nat):Int)from rfl,qK,qF,qF];omega
 unfold kD_;rw[x,j,y,f i (by omega),f (i+3) (by omega),f (i+6) (by omega),p];simp only[hO_];refine ae_ (by rw[qDe];omega) ?_;rw[kY_ l user gid h hm];simp only[qBs];rw[m];unfold grB;cases n.testBit i<;>cases n.testBit (i+3)<;>cases dS_ l user gid<;>cases n.testBit (i+6)<;>cases user==uid<;>cases w.testBit i<;>rfl
theorem o6_(l:List Xc)(user uid gid:Str)(mode want:Int)(h:l.length<=1000)(hm:smallM l)(D:mode<=9223372036854775807):hE_ l user uid gid mode want=some (nP_ l user uid gid mode want):=by
 unfold hE_ nP_;by_cases F:0<=mode/\0<=want/\want<=7
 .obtain⟨n,rfl⟩:∃n:Nat,mode=(n:Int):=⟨mode.toNat,by omega⟩;obtain⟨w,rfl⟩:∃w:Nat,want=(w:Int):=⟨want.toNat,by omega⟩;refine ab_ (by simp;omega) ?_;have C:decide (0<=(n:Int))=true:=by simp
  have y:decide (0<=(w:Int))=true:=by simp
  have x:decide ((w:Int)<=7)=true:=by simp;omega
  rw[C,y,x,qTn,qTn];have p:=λi hi=>ref06_body l user uid gid n w i hi h hm (by omega) (by omega)
  unfold allowsN;rw[uj_];have f:=p 0 (by omega);have j:=p 1 (by omega);have m:=p 2 (by omega);cases s:(!(w.testBit 0)||grB n (dS_ l user gid) (user==uid) 0)with
  | false=>rw[s]at f;exact aa_ (aR_ f) rfl
  | true =>
   rw[s]at f;cases k1:(!(w.testBit 1)||grB n (dS_ l user gid) (user==uid) 1)with
   | false=>rw[k1]at j;exact aa_ (bj_ f (aR_ j)) rfl
   | true =>
    rw[k1]at j;cases q:(!(w.testBit 2)||grB n (dS_ l user gid) (user==uid) 2)with
    | false=>rw[q]at m;exact aa_ (bj_ f (bj_ j (aR_ m))) rfl
    | true=>rw[q]at m;exact aa_ (bj_ f (bj_ j (bj_ m (aR_ rfl)))) rfl
 .refine ae_ (by simp;omega) ?_;have:(decide (0<=mode)&&(decide (0<=want)&&decide (want<=7)))=false:=by
   cases u:(decide (0<=mode)&&(decide (0<=want)&&decide (want<=7)))with
   | false=>rfl
   | true=>simp at u;omega
  congr 1
  revert this;cases decide (0<=mode)<;>cases decide (0<=want)<;>cases decide (want<=7)<;>simp
theorem trich:∀(a b:Str),(Op.bytesLess a b||a==b) = !(Op.bytesLess b a)
 | [],[]=>rfl
 | [],_::_=>rfl
 | _::_,[]=>rfl
 | x::a,y::b=>by
  have p:=trich a b;simp only[Op.bytesLess,List.cons_beq_cons];rcases Nat.lt_trichotomy x.toNat y.toNat with h|h|h
  .have f:decide (x<y)=true:=by simpa[UInt8.lt_iff_toNat_lt]using h
   have m:decide (y<x)=false:=by simp[UInt8.lt_iff_toNat_lt];omega
   have j:(y==x)=false:=by rw[zZ];intro e;subst e;omega
   simp[f,m,j]
  .obtain rfl:x=y:=UInt8.toNat_inj.1 h;have f:decide (x<x)=false:=by simp
   simp only[f,jX,zY,jZ];exact p
  .have f:decide (x<y)=false:=by simp[UInt8.lt_iff_toNat_lt];omega
   have m:decide (y<x)=true:=by simpa[UInt8.lt_iff_toNat_lt]using h
   have j:(x==y)=false:=by rw[zZ];intro e;subst e;omega
   simp[f,m,j]
def gQ(l:List Yq)(i:Nat)(q:Yq):Option Int:=if !(vU q.Yt)then some 25 else if decide (0<i) && !(Op.bytesLess (l.getD (i-1) default).Yt q.Yt)then some 2 else if decide (q.Xf<0)||decide (q.Xf>9007199254740991)||decide (q.Zx<0)||decide (q.Zx>9007199254740991)then some 5 else none
def mG_(l:List Yq):Int:=if l.length>64 then 22 else(aO_ (gQ l) 0 l).getD 0
def qa_(l:List Yq):Prop:=∀q∈l,q.Yt.length<=9223372036854775807
theorem wX_(l:List Yq)(h:l.length<=1000)(q:qa_ l):iW_ l=some (mG_ l):=by
 unfold iW_ mG_;by_cases p:l.length>64
 .rw[qV p];exact ae_ (by simp;omega) rfl
 .rw [qX p];refine ab_ (by simp;omega) ?_;refine bk_ (bg_ l _ (bu_ (by omega)) (λi hi => ?_) ?_) (λ_=>rfl) rfl
  .unfold lB_ gQ;rw[aT_ hi,ap_ hi,as_ (by omega)];refine ae_ rfl (aa_ rfl (aa_ (q4_ _ (q _ (qx hi))) ?_));cases vU l[i].Yt with
   | false=>rfl
   | true =>
    refine ab_ rfl ?_;have f:(decide ((bX_ l[i].Xf l[i].Zx)<0)||decide ((ci_ l[i].Xf l[i].Zx)>9007199254740991))=(decide (l[i].Xf<0)||decide (l[i].Xf>9007199254740991)||decide (l[i].Zx<0)||decide (l[i].Zx>9007199254740991)):=by
     unfold bX_ ci_;rw[qK];simp only[qT,qDe];constructor
     .rintro(j|j)<;>split at j<;>omega
     .intro j;split<;>split<;>omega
    rw[f];rcases qn i with rfl|m
    .cases(decide (l[0].Xf<0)||decide (l[0].Xf>9007199254740991)||decide (l[0].Zx<0)||decide (l[0].Zx>9007199254740991))<;>rfl
    .have e:decide ((i:Int)>0)=true:=by simpa using m
     have s:decide (0<i)=true:=by simpa using m
     rw[e,s,jM_ default m hi (by omega)];simp only[qm,qBs,zY,trich];cases Op.bytesLess (l.getD (i-1) default).Yt l[i].Yt<;>cases(decide (l[i].Xf<0)||decide (l[i].Xf>9007199254740991)||decide (l[i].Zx<0)||decide (l[i].Zx>9007199254740991))<;>rfl
  .unfold lB_;rw[be_];rfl
theorem wY_(l:List Yq)(h:l.length<=1000)(m:qa_ l):lX_ l=some (mG_ l):=by
 unfold lX_ mG_;by_cases j:l.length>64
 .rw[qV j];exact ae_ (by simp;omega) rfl
 .rw [qX j];refine ab_ (by simp;omega) ?_;refine bk_ (bg_ l _ (bu_ (by omega)) (λi hi => ?_) ?_) (λ_=>rfl) rfl
  .unfold lx_ gQ;rw[aT_ hi,ap_ hi,as_ (by omega)];refine ae_ rfl (aa_ rfl (aa_ (eP_ _ (m _ (qx hi))) ?_));cases vU l[i].Yt with
   | false=>rfl
   | true =>
    refine ab_ rfl ?_;rcases qn i with rfl|f
    .cases(decide (l[0].Xf<0)||decide (l[0].Xf>9007199254740991)||decide (l[0].Zx<0)||decide (l[0].Zx>9007199254740991))<;>rfl
    .have e:decide ((i:Int)>0)=true:=by simpa using f
     have p:decide (0<i)=true:=by simpa using f
     rw[e,p,jM_ default f hi (by omega)];simp only[qm,qBs,zY];cases Op.bytesLess (l.getD (i-1) default).Yt l[i].Yt<;>cases(decide (l[i].Xf<0)||decide (l[i].Xf>9007199254740991)||decide (l[i].Zx<0)||decide (l[i].Zx>9007199254740991))<;>rfl
  .unfold lx_;rw[be_];rfl
def cb_(l:List Int):Prop:=l.Pairwise (· < ·)
theorem i4_{n:Xq}(h:bb_ n=true):n.Xl.length<=65536:=by
 unfold bb_ at h;simp only[qAn,qDe]at h;exact h.1.2
theorem at_id{l:List Xq}{id:Int}(h:(ai_ l id).2=true):∃i:Nat,at_ (eI_ id) l=(i:Int)/\l[i]? = some (ai_ l id).1/\i<l.length:=by
 rcases lE_ (eI_ id) l with⟨f,_⟩|⟨i,x,f,m,j,_⟩
 .unfold ai_ at h;rw[f]at h;cases h
 .refine⟨i,m,?_,(qZ.1 j).1⟩;unfold ai_;rw[f];exact j
theorem nE_{l:List Xq}{id:Int}(h:(ai_ l id).2=false):at_ (eI_ id) l = -1:=by
 rcases lE_ (eI_ id) l with⟨_,f⟩|⟨i,x,j,_⟩
 .exact f
 .unfold ai_ at h;rw[j]at h;cases h
theorem ta_{l:List Xq}{next:Int}(h:OkT l next){n:Xq}(f:n∈l):bh_ n.Xk=some (al_ n.Xk 31):=by
 unfold bh_;rw[eY_ (gZ_ (h.flds n f))]
def cf_(dir:Int)(name:Str)(n:Xq):Bool:=(n.Xh==dir&&n.Id_ != 1)&&n.Xg==name
def gv_(l:List Xq)(dir:Int)(name:Str):Int×Int:=bif !(ai_ l dir).2 then(0,8)else bif !(al_ (ai_ l dir).1.Xk 31)then(0,9)else bif name==[46,46]then((ai_ l dir).1.Xh,0)else match l.find? (cf_ dir name)with|some c=>(c.Id_,0)|none=>(0,8)
theorem uk_(t:Xv)(dir:Int)(name:Str)(h:t.Xz.length<=2000):ie_ t dir name=some (at_ (cf_ dir name) t.Xz):=by
 unfold ie_;exact aa_ (sm_ t _ (cf_ dir name) (λn=>rfl) h) rfl
theorem or_(t:Xv)(dir:Int)(name:Str)(h:OkT t.Xz t.Xp):j4_ t dir name=some (gv_ t.Xz dir name):=by
 have j:=h.len;unfold j4_ gv_;refine aa_ (sn_ t dir h) ?_;unfold nO_;cases p:(ai_ t.Xz dir).2 with
 | false=>rfl
 | true =>
  cases m:al_ (ai_ t.Xz dir).1.Xk 31 with
  | false=>rfl
  | true =>
   refine ab_ rfl ?_;cases name==[46,46]with
   | true=>exact aa_ (cV_ t dir (by omega)) rfl
   | false =>
    refine ab_ rfl (aa_ (uk_ t dir name (by omega)) ?_);rw[kW_];cases f:t.Xz.find? (cf_ dir name)with
    | none=>rfl
    | some c=>exact ab_ rfl (aa_ ((mD_ _ _ (by rw[f];rfl)).trans f) rfl)
theorem jA_(t:Xv)(dir:Int)(name:Str)(h:OkT t.Xz t.Xp):gq_ t dir name=some (gv_ t.Xz dir name):=by
 have G:=h.len;obtain⟨r,q,p,x,_⟩:=h.root;unfold gq_ gv_;refine aa_ (aK_ t dir (by omega)) ?_;cases F:(ai_ t.Xz dir).2 with
 | false=>rfl
 | true =>
  refine ab_ rfl (aa_ (ta_ h (aA_ F).1) ?_);cases M:al_ (ai_ t.Xz dir).1.Xk 31 with
  | false=>rfl
  | true =>
   refine ab_ rfl ?_;cases name==[46,46]with
   | true=>rfl
   | false =>
    refine ab_ rfl ?_;have m:=vy_ (body:=jo_ t dir name) t.Xz (λ_ n=>if(n.Xh==dir&&n.Xg==name)then some (n.Id_,(0:Int))else none) 1 (by rw[p];simp) (bu_ (by omega)) (λi hi _=>by
     unfold jo_;rw[aT_ hi,ap_ hi,as_ (by omega)];refine ae_ rfl ?_;simp only[qBs];cases t.Xz[i].Xh==dir<;>cases t.Xz[i].Xg==name<;>rfl) (by unfold jo_;rw[be_];rfl)
    rw[hM_]at m;refine(bk_ m (λ_=>rfl) rfl).trans ?_;have s:(t.Xz.drop 1).find? (λn=>n.Xh==dir&&n.Xg==name)=t.Xz.find? (cf_ dir name):=by
     have f:=h.srt;rw[p]at f ⊢;obtain⟨u,_⟩:=ze.1 f;rw[List.find?_cons];have:cf_ dir name r=false:=by unfold cf_;simp[x]
     rw[this];show q.find? _=q.find? _;have:∀(j:List Xq),(∀n∈j,r.Id_<n.Id_)->j.find? (λn=>n.Xh==dir&&n.Xg==name)=j.find? (cf_ dir name):=by
      intro j
      induction j with
      | nil=>intro _;rfl
      | cons a j C =>
       intro s;have J:=s a (qE ..);have y:(a.Id_ != 1)=true:=by rw[zM];omega
       rw[List.find?_cons,List.find?_cons,C λn D=>s n (qC _ D)];unfold cf_;rw[y,Bool.and_true]
     exact this q u
    rw[s];cases t.Xz.find? (cf_ dir name)<;>rfl
def e3_(l:List Xq)(id:Int):Int:=bif !(ai_ l id).2 then 8 else bif al_ (ai_ l id).1.Xk 31 then 10 else 0
theorem ss_(t:Xv)(id:Int)(h:OkT t.Xz t.Xp):∃i:Int,j5_ t id=some (i,e3_ t.Xz id)/\((e3_ t.Xz id != 0)=false->∃k:Nat,i=(k:Int)/\t.Xz[k]? = some (ai_ t.Xz id).1):=by
 have q:=h.len;unfold j5_ e3_;rw[dD_ t id (by omega)];cases m:(ai_ t.Xz id).2 with
 | false =>
  rw[nE_ m];exact⟨0,rfl,λh=>nomatch h⟩
 | true =>
  obtain⟨i,p,f,s⟩:=at_id m;rw[p];cases j:al_ (ai_ t.Xz id).1.Xk 31 with
  | true =>
   refine⟨0,aa_ rfl (ab_ (by simp) (aa_ (a:=(ai_ t.Xz id).1) (by rw[bt_,f]) (aa_ (eO_ _ (iq_ h id)) ?_))),λh=>nomatch h⟩;rw[j];rfl
  | false =>
   refine⟨(i:Int),aa_ rfl (ab_ (by simp) (aa_ (a:=(ai_ t.Xz id).1) (by rw[bt_,f]) (aa_ (eO_ _ (iq_ h id)) ?_))),λ_=>⟨i,rfl,f⟩⟩;rw[j];rfl
theorem q6_(a:Int)(b:Nat)(h:0<=a):bX_ a (b:Int)=((min a.toNat b:Nat):Int):=by
 unfold bX_;split<;>omega
structure FileOK(s:Xj):Prop where
 us:mF_ s.Yz=0
 qs:mG_ s.Yx=0
 tr:OkT s.Xy.Xz s.Xy.Xp
 srt:cb_ s.Xt
 exc:∀x∈s.Xt,(ai_ s.Xy.Xz x).2=true/\al_ (ai_ s.Xy.Xz x).1.Xk 29=true
structure SizeOK(s:Xj):Prop where (ul:s.Yz.length<=1000) (um:smallM s.Yz) (us:op_ s.Yz) (ql:s.Yx.length<=1000) (qs:qa_ s.Yx) (nl:s.Xy.Xz.length<=1024) (el:s.Xt.length<=500)
def qb_(s:Xj):Prop:=∀n∈s.Xy.Xz,n.Xk<=9223372036854775807/\n.Xg.length<=9223372036854775807
def fn_(l:List Int)(i:Nat):Int:=(0::l).getD i 0
theorem mH_{l:List Int}{i:Nat}(f:0<i)(hi:i<=l.length):l[i-1]? = some (fn_ l i):=by
 unfold fn_;obtain⟨k,rfl⟩:∃k,i=k+1:=⟨i-1,by omega⟩;rw[List.getD_cons_succ,za,jH,qQ (by omega)];rfl
theorem sorted_iff{l:List Int}:cb_ l↔∀i x,0<i->l[i]? = some x->fn_ l i<x:=by
 unfold cb_;rw[qq];constructor
 .intro h i n u p;obtain⟨hi,rfl⟩:=qZ.1 p;have:=mH_ u (jS hi);obtain⟨_,e⟩:=qZ.1 this;rw[←e];exact h _ _ _ _ (by omega)
 .intro h;have key:∀(d i:Nat) (f:i+d+1<l.length),(l[i]'(by omega))<(l[i+d+1]'f):=by
   intro d
   induction d with
   | zero =>
    intro i f;have:=h (i+1) _ (by omega) (qQ (by omega));have e:=mH_ (l:=l) (i:=i+1) (by omega) (by omega);obtain⟨_,e⟩:=qZ.1 e;rw[←e]at this;exact this
   | succ d m =>
    intro i f;have s:=m i (by omega);have:=h (i+d+1+1) _ (by omega) (qQ (by omega));have e:=mH_ (l:=l) (i:=i+d+1+1) (by omega) (by omega);obtain⟨_,e⟩:=qZ.1 e;rw[←e]at this;simp only[jH]at this;exact Int.lt_trans s this
  intro i j hi f q;have:=key (j-i-1) i (by omega);simpa[show i+(j-i-1)+1=j by omega]using this
def eB(t:List Xq)(l:List Int)(i:Nat)(x:Int):Bool:=((ai_ t x).2&&al_ (ai_ t x).1.Xk 29)&&decide (fn_ l i<x)
def gE(t:List Xq)(l:List Int)(i:Nat)(x:Int):Option Bool:=if eB t l i x then none else some false
theorem st_(s:Xj)(h:OkT s.Xy.Xz s.Xy.Xp)(x:s.Xt.length<=1000):am_ (dR_ s) BIG (0,0)=some (di_ (aO_ (gE s.Xy.Xz s.Xt) 0 s.Xt)):=by
 refine ev_ (body:=dR_ s) (J:=λi t b=>t=(fn_ s.Xt i,(i:Int))/\b=di_ (aO_ (gE s.Xy.Xz s.Xt) i (s.Xt.drop i))) s.Xt.length (bu_ (by omega)) (λt b m => ?_) (λi t b hi m => ?_) ⟨rfl,by simp⟩
 .obtain⟨rfl,rfl⟩:=m;unfold dR_;simp only;rw[be_];simp[aO_,di_]
 .obtain⟨rfl,rfl⟩:=m;rw[qw hi];have q:s.Xt[i]=fn_ s.Xt (i+1):=by
   have:=mH_ (l:=s.Xt) (i:=i+1) (by omega) (by omega);rw[jH,qQ hi]at this;exact qSj this
  have f:dR_ s (fn_ s.Xt i,(i:Int))=some (match gE s.Xy.Xz s.Xt i s.Xt[i]with|some r => .done (.ret r)|none => .next (fn_ s.Xt (i+1),((i+1:Nat):Int))):=by
   unfold dR_;simp only;rw[aT_ hi,ap_ hi,as_ (by omega)];refine ae_ rfl (aa_ rfl (aa_ (cV_ _ _ (by have:=h.len;omega)) ?_));unfold gE eB;have u:decide (s.Xt[i]<=fn_ s.Xt i) = !(decide (fn_ s.Xt i<s.Xt[i])):=by rw[qK];simp
   rw[u,←q];have p:=i3_ (ai_ s.Xy.Xz s.Xt[i]).1.Xk 29 (by omega) (iq_ h _);simp only[Nat.reducePow,zz]at p;rw[p];cases(ai_ s.Xy.Xz s.Xt[i]).2<;>cases al_ (ai_ s.Xy.Xz s.Xt[i]).1.Xk 29<;>cases decide (fn_ s.Xt i<s.Xt[i])<;>rfl
  cases j:gE s.Xy.Xz s.Xt i s.Xt[i]with
  | some r =>
   rw[j]at f;exact .inl (by rw[f];simp[aO_,j,di_])
  | none =>
   rw[j]at f;exact .inr ⟨_,f,rfl,by simp[aO_,j]⟩
theorem ul_(s:Xj)(h:OkT s.Xy.Xz s.Xy.Xp)(D:s.Xt.length<=1000):am_ (h9_ s) BIG 0=some (di_ (aO_ (gE s.Xy.Xz s.Xt) 0 s.Xt)):=by
 refine bg_ s.Xt _ (bu_ (by omega)) (λi hi => ?_) ?_
 .unfold h9_;rw[aT_ hi,ap_ hi,as_ (by omega)];refine ae_ rfl (aa_ rfl (aa_ (aK_ _ _ (by have:=h.len;omega)) ?_));unfold gE eB;have j:=cF_ (ai_ s.Xy.Xz s.Xt[i]).1.Xk 29 (by omega) (iq_ h _);simp only[Nat.reducePow,zz]at j;rw[j];simp only[qBs];cases p:(ai_ s.Xy.Xz s.Xt[i]).2 with
  | false=>rfl
  | true =>
   have q:1<=s.Xt[i]:=by
    obtain⟨x,u⟩:=aA_ p;rw[←u];exact h.ge x
   cases al_ (ai_ s.Xy.Xz s.Xt[i]).1.Xk 29 with
   | false=>rfl
   | true =>
    rcases qn i with rfl|f
    .have:decide (fn_ s.Xt 0<s.Xt[0])=true:=by
      rw[qDe];show(0:Int)<_;omega
     rw[this];rfl
    .have C:decide ((i:Int)>0)=true:=by simpa using f
     have m:an_ s.Xt (w64 ((i:Int)-1))=some (fn_ s.Xt i):=by
      rw[w_pred f (by omega),bt_];exact mH_ f (jS hi)
     have y:decide (fn_ s.Xt i>=s.Xt[i]) = !(decide (fn_ s.Xt i<s.Xt[i])):=by rw[qK];simp
     rw[C,m];simp only[qm,qBs];rw[y];cases decide (fn_ s.Xt i<s.Xt[i])<;>rfl
 .unfold h9_;rw[be_];rfl
theorem excl_iff(s:Xj)(h:OkT s.Xy.Xz s.Xy.Xp):(aO_ (gE s.Xy.Xz s.Xt) 0 s.Xt).getD true=true↔cb_ s.Xt/\∀x∈s.Xt,(ai_ s.Xy.Xz x).2=true/\al_ (ai_ s.Xy.Xz x).1.Xk 29=true:=by
 rw[oo_ (g:=gE s.Xy.Xz s.Xt) (p:=eB s.Xy.Xz s.Xt) (λ_ _=>rfl),sorted_iff];have ek:∀i x,eB s.Xy.Xz s.Xt i x=true↔((ai_ s.Xy.Xz x).2=true/\al_ (ai_ s.Xy.Xz x).1.Xk 29=true)/\fn_ s.Xt i<x:=λi x=>by
  unfold eB;simp only[qAn,qDe]
 simp only[qg,ek];constructor
 .intro j;refine⟨λi x _ f=>(j i x f).2,λx f => ?_⟩;obtain⟨i,hi⟩:=qM.1 f;exact(j i x hi).1
 .rintro⟨u,q⟩ i x f;have hm:=q x (qM.2 ⟨_,f⟩);refine⟨hm,?_⟩;rcases qn i with rfl|y
  .obtain⟨m,C⟩:=aA_ hm.1;have:=h.ge m;show(0:Int)<x;omega
  .exact u i x y f
theorem vE_(s:Xj):FileOK s↔mF_ s.Yz=0/\mG_ s.Yx=0/\OkT s.Xy.Xz s.Xy.Xp/\cb_ s.Xt/\∀x∈s.Xt,(ai_ s.Xy.Xz x).2=true/\al_ (ai_ s.Xy.Xz x).1.Xk 29=true :=
 ⟨λh=>⟨h.us,h.qs,h.tr,h.srt,h.exc⟩,λ⟨a,b,c,d,e⟩=>⟨a,b,c,d,e⟩⟩
theorem tp_(s:Xj)(z:SizeOK s)(u:qb_ s):∃b,jm_ s=some b/\(b=true↔FileOK s):=by
 rw[vE_];unfold jm_;rw[yz_ _ z.ul z.um.fit z.us,wX_ _ z.ql z.qs];simp only[qBs];cases j:mF_ s.Yz != 0 with
 | true=>exact⟨false,rfl,λh=>(nomatch h),λh=>by rw[h.1]at j;cases j⟩
 | false =>
  simp only[qr,qBs];cases p:mG_ s.Yx != 0 with
  | true=>exact⟨false,rfl,λh=>(nomatch h),λh=>by rw[h.2.1]at p;cases p⟩
  | false =>
   obtain⟨b,q,f⟩:=f2_ s.Xy (by have:=z.nl;omega) u;rw[q];cases b with
   | false=>exact⟨false,rfl,λh=>(nomatch h),λh=>f.2 h.2.2.1⟩
   | true =>
    have m:=f.1 rfl;refine⟨_,ab_ (A:=some false) rfl (bk_ (st_ s m (by have:=z.el;omega)) (λ_=>rfl) rfl),?_⟩;rw[excl_iff s m];exact⟨λh=>⟨by simpa using j,by simpa using p,m,h⟩,λh=>h.2.2.2⟩
theorem vF_(s:Xj)(z:SizeOK s)(u:qb_ s):∃b,lY_ s=some b/\(b=true↔FileOK s):=by
 rw[vE_];unfold lY_;rw[wU_ _ z.ul z.um.fit z.us,wY_ _ z.ql z.qs];simp only[qBs];cases j:mF_ s.Yz != 0 with
 | true=>exact⟨false,rfl,λh=>(nomatch h),λh=>by rw[h.1]at j;cases j⟩
 | false =>
  simp only[qr,qBs];cases p:mG_ s.Yx != 0 with
  | true=>exact⟨false,rfl,λh=>(nomatch h),λh=>by rw[h.2.1]at p;cases p⟩
  | false =>
   obtain⟨b,q,f⟩:=hp_ s.Xy (by have:=z.nl;omega) u;rw[q];cases b with
   | false=>exact⟨false,rfl,λh=>(nomatch h),λh=>f.2 h.2.2.1⟩
   | true =>
    have m:=f.1 rfl;refine⟨_,ab_ (A:=some false) rfl (bk_ (ul_ s m (by have:=z.el;omega)) (λ_=>rfl) rfl),?_⟩;rw[excl_iff s m];exact⟨λh=>⟨by simpa using j,by simpa using p,m,h⟩,λh=>h.2.2.2⟩
abbrev ak_(s:Xj)(id:Int):Xq:=(ai_ s.Xy.Xz id).1
abbrev isS(s:Xj)(id:Int):Bool:=(ai_ s.Xy.Xz id).2
def bR_(s:Xj)(user:Str)(id:Int):Int:=bif !(vU user)then 25 else bif !(isS s id)then 8 else 0
def dirC(s:Xj)(user:Str)(id:Int):Int:=bif !(vU user)then 25 else bif !(isS s id)then 8 else bif !(al_ (ak_ s id).Xk 31)then 9 else 0
def mayS(s:Xj)(user:Str)(n:Xq)(want:Int):Bool:=nP_ s.Yz user n.Yg n.Yj n.Xk want
theorem nl2{s:Xj}(z:SizeOK s):s.Xy.Xz.length<=2000:=by have:=z.nl;omega
theorem ch_{s:Xj}(f:FileOK s)(id:Int):(ak_ s id).Xk<=9223372036854775807:=iq_ f.tr id
theorem gw_(x:Int)(f:x<=9223372036854775807):aB_ x 2147483648=some (al_ x 31)/\aB_ x 1073741824=some (al_ x 30)/\aB_ x 536870912=some (al_ x 29)/\aB_ x 64=some (al_ x 6) :=
 ⟨i3_ x 31 (by omega) f,i3_ x 30 (by omega) f,i3_ x 29 (by omega) f,i3_ x 6 (by omega) f⟩
theorem fH_(x:Int)(f:x<=9223372036854775807):aW_ x 2147483648=some (al_ x 31)/\aW_ x 1073741824=some (al_ x 30)/\aW_ x 536870912=some (al_ x 29)/\aW_ x 64=some (al_ x 6)/\aW_ x 16=some (al_ x 4) :=
 ⟨cF_ x 31 (by omega) f,cF_ x 30 (by omega) f,cF_ x 29 (by omega) f,cF_ x 6 (by omega) f,cF_ x 4 (by omega) f⟩
theorem qc_{s:Xj}(z:SizeOK s)(user:Str)(id:Int)(f:user.length<=9223372036854775807):∃n,d8_ s user id=some (n,bR_ s user id)/\(bR_ s user id=0->n=ak_ s id):=by
 unfold d8_ bR_ isS;rw[q4_ _ f,cV_ _ _ (nl2 z)];cases vU user with
 | false=>exact⟨_,rfl,λh=>by cases h⟩
 | true =>
  simp only[qBs,jC,qr];cases(ai_ s.Xy.Xz id).2 with
  | false=>exact⟨_,rfl,λh=>by cases h⟩
  | true=>exact⟨_,rfl,λ_=>rfl⟩
theorem su_{s:Xj}(f:FileOK s)(z:SizeOK s)(user:Str)(id:Int)(q:user.length<=9223372036854775807):∃n,ez_ s user id=some (n,dirC s user id)/\(dirC s user id=0->n=ak_ s id):=by
 obtain⟨n,m,j⟩:=qc_ z user id q;unfold ez_ dirC;rw[m];unfold bR_ at m j ⊢;cases p:vU user with
 | false=>exact⟨n,rfl,λh=>by cases h⟩
 | true =>
  rw[p]at j;cases hi:isS s id with
  | false=>exact⟨n,rfl,λh=>by cases h⟩
  | true =>
   rw[hi]at j;obtain rfl:=j rfl;refine⟨ak_ s id,aa_ rfl (aa_ (a:=bif !(al_ (ak_ s id).Xk 31)then 9 else 0) (aa_ (a := !(al_ (ak_ s id).Xk 31)) (ae_ rfl (aa_ (gw_ _ (ch_ f id)).1 rfl)) ?_) rfl),λ_=>rfl⟩;cases al_ (ak_ s id).Xk 31<;>rfl
theorem may_eq{s:Xj}(z:SizeOK s)(user:Str){n:Xq}(f:n.Xk<=9223372036854775807)(want:Int):eL_ s user n want=some (mayS s user n want):=by
 unfold eL_ mayS;exact aa_ (p9_ _ _ _ _ _ _ z.ul z.um f) rfl
theorem k0_{s:Xj}(f:FileOK s)(z:SizeOK s)(user:Str)(id want:Int):eM_ s user id want=some (isS s id&&mayS s user (ak_ s id) want):=by
 unfold eM_ mayS isS;refine aa_ (aK_ _ _ (nl2 z)) ?_;cases(ai_ s.Xy.Xz id).2 with
 | false=>rfl
 | true=>exact aa_ (aa_ (o6_ _ _ _ _ _ _ z.ul z.um (iq_ f.tr _)) rfl) rfl
theorem um_{s:Xj}{id:Int}(h:isS s id=true):ak_ s id∈s.Xy.Xz:=(aA_ h).1
def walkS(s:Xj)(user:Str)(id:Int)(name:Str):Int×Int:=bif dirC s user id != 0 then(0,dirC s user id)else bif !(mayS s user (ak_ s id) 1)then(0,11)else gv_ s.Xy.Xz id name
theorem sw_{s:Xj}{user:Str}{id:Int}(h:(dirC s user id != 0)=false):dirC s user id=0/\vU user=true/\isS s id=true/\al_ (ak_ s id).Xk 31=true:=by
 have f:dirC s user id=0:=by simpa using h
 refine⟨f,?_⟩;unfold dirC at f;cases j:vU user with
 | false=>rw[j]at f;cases f
 | true =>
  rw[j]at f;cases hi:isS s id with
  | false=>rw[hi]at f;cases f
  | true =>
   rw[hi]at f;cases m:al_ (ak_ s id).Xk 31 with
   | false=>rw[m]at f;cases f
   | true=>exact⟨rfl,rfl,rfl⟩
theorem walk_eq{s:Xj}(f:FileOK s)(z:SizeOK s)(user:Str)(id:Int)(name:Str)(h:user.length<=9223372036854775807):hy_ s user id name=some (walkS s user id name):=by
 obtain⟨n,p,m⟩:=su_ f z user id h;unfold hy_ walkS;refine aa_ p ?_;cases j:dirC s user id != 0 with
 | true=>rfl
 | false =>
  obtain rfl:=m (sw_ j).1;refine ab_ rfl (aa_ (may_eq z user (ch_ f _) 1) ?_);cases mayS s user (ak_ s id) 1 with
  | false=>rfl
  | true=>exact ab_ rfl (aa_ (or_ _ _ _ f.tr) rfl)
structure Keep(t t':Xv)(id:Int):Prop where
 ok:OkT t'.Xz t'.Xp
 is:(ai_ t'.Xz id).2=true
 mode:(ai_ t'.Xz id).1.Xk=(ai_ t.Xz id).1.Xk
theorem Keep.trans{a b c:Xv}{id:Int}(h:Keep a b id)(g:Keep b c id):Keep a c id:=⟨g.ok,g.is,g.mode.trans h.mode⟩
def Sm(l f:List Xq):Prop:=∀x,(ai_ l x).2=true->(ai_ f x).2=true/\(ai_ f x).1.Xk=(ai_ l x).1.Xk
theorem Sm.trans{a b c:List Xq}(h:Sm a b)(g:Sm b c):Sm a c:=λx f=>by
 obtain⟨m,j⟩:=h x f;obtain⟨q,p⟩:=g x m;exact⟨q,p.trans j⟩
structure After(s s':Xj):Prop where
 users:s'.Yz=s.Yz
 quotas:s'.Yx=s.Yx
 tr:OkT s'.Xy.Xz s'.Xy.Xp
 srt:cb_ s'.Xt
 exc:∀x∈s'.Xt,(ai_ s'.Xy.Xz x).2=true/\al_ (ai_ s'.Xy.Xz x).1.Xk 29=true
 nl:s'.Xy.Xz.length<=s.Xy.Xz.length+1
 el:s'.Xt.length<=s.Xt.length+1
theorem After.ok{s s':Xj}(f:FileOK s)(h:After s s'):FileOK s':=⟨by rw[h.users];exact f.us,by rw[h.quotas];exact f.qs,h.tr,h.srt,h.exc⟩
theorem scan_nil{α β:Type}:∀(k:Nat) (l:List α),aO_ (λ_ _=>(none:Option β)) k l=none
 | _,[]=>rfl
 | k,_::l=>scan_nil (k+1) l
theorem mI_{α:Type}{body:Int->Option (Step Int (Out Unit Bool))}(l:List α)(j:l.length<=2000)(h:∀i,i<l.length->body (i:Int)=some (.next ((i+1:Nat):Int)))(f:body (l.length:Int)=some (.done (.fall ()))):am_ body BIG 0=some (.fall ()):=by
 have:=bg_ (body:=body) l (λ_ _=>(none:Option Bool)) (bu_ (by omega)) (λi hi=>h i hi) f;rw[this,scan_nil];rfl
theorem same_texts(l:List Str)(f:l.length<=1000):hh_ l l=some true:=by
 unfold hh_;refine ab_ (by simp) (aa_ (mI_ l (by omega) (λi hi => ?_) ?_) rfl)
 .unfold hC_;rw[aT_ hi,ap_ hi,as_ (by omega)];simp
 .unfold hC_;rw[be_];rfl
theorem same_users(l:List Xc)(f:l.length<=1000)(hm:smallM l):hj_ l l=some true:=by
 unfold hj_;refine ab_ (by simp) (aa_ (mI_ l (by omega) (λi hi => ?_) ?_) rfl)
 .unfold hD_;rw[aT_ hi,ap_ hi,as_ (by omega)];simp[same_texts _ (hm _ (qx hi))]
 .unfold hD_;rw[be_];rfl
theorem same_quotas(l:List Yq)(f:l.length<=1000):gp_ l l=some true:=by
 unfold gp_;refine ab_ (by simp) (aa_ (mI_ l (by omega) (λi hi => ?_) ?_) rfl)
 .unfold g7_;rw[aT_ hi,ap_ hi,as_ (by omega)];simp
 .unfold g7_;rw[be_];rfl
theorem same_tree13(t:Xv)(f:t.Xz.length<=2000):ij_ t t=some true:=by
 unfold ij_;refine ab_ (by simp) (aa_ (mI_ t.Xz (by omega) (λi hi => ?_) ?_) rfl)
 .unfold iF_;rw[aT_ hi,ap_ hi,as_ (by omega)];simp
 .unfold iF_;rw[be_];rfl
theorem same_ints(l:List Int)(f:l.length<=1000):il_ l l=some true:=by
 unfold il_;refine ab_ (by simp) (aa_ (mI_ l (by omega) (λi hi => ?_) ?_) rfl)
 .unfold iG_;rw[aT_ hi,ap_ hi,as_ (by omega)];simp
 .unfold iG_;rw[be_];rfl
theorem same_eq(s:Xj)(f:s.Yz.length<=1000)(hm:smallM s.Yz)(h:s.Yx.length<=1000)(m:s.Xy.Xz.length<=1000)(j:s.Xt.length<=1000):nu_ s s=some true:=by
 unfold nu_;rw[same_users _ f hm,same_quotas _ h,same_tree13 _ (by omega),same_ints _ j];rfl
end Go.Proofs.YtebokaoegomboaaGreatDoor
