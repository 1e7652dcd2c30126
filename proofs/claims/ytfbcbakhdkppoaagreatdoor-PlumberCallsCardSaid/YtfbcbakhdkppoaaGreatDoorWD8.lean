/-
 What the statements of this seat hang on,part 8: Ap Aq Ar Ba Bb Bc Bd Be Bf Bg Bh Bi Bj Bk Bl Bm Bn.
-/
import Derived.Test.YtfbcbakhdkppoaaGreatDoorWD7
namespace Go.Proofs.YtfbcbakhdkppoaaGreatDoor
open Go.Rt Go.RowKit
theorem jZ_{c:UInt8}:∀{t:tX} {n:Nat},(t.take n).contains c=false->t[n]? = some c->ae_ [c] t=n/\t.contains c=true
 | [],n,_,h=>by simp at h
 | b::t,0,_,h=>by
  have q:b=c:=by simpa using h
  subst q;constructor
  .unfold ae_;rw[zM];simp
  .rw[zB];simp
 | b::t,n+1,j,u=>by
  rw[zx,zB,zS]at j;obtain⟨p,s⟩:=jZ_ (t:=t) (n:=n) j.2 (by simpa using u);have f:b≠c:=λe=>by
   have:=j.1;rw[e]at this;simp at this
  constructor
  .unfold ae_ at p ⊢;rw[zM];have:([c]:tX).contains b=false:=by
    rw[zB,jD,za];exact qX.2 f
   rw[this];simp only[qf,zT,qLc,p]
  .rw[zB,s,jE]
theorem refSplit_go{s:tX}(hs:s.length<=1000000000):∀(k fr i:Nat) (l:tL tX) (f:Nat),s.length-i<=k->k<f->fr<=i->i<=s.length->l.length<=6->((s.drop fr).take (i-fr)).contains 10=false->splitK 6 s=l++splitK (6-l.length) (s.drop fr) ->
  ∃(fr':Nat) (q:tL tX),af_ (cU_ s) f ((fr:Int),(i:Int),l)=some ((fr':Int),q)/\fr'<=s.length/\q.length<=6/\splitK 6 s=q++[s.drop fr']:=by
 intro k
 induction k with
 | zero =>
  intro fr i l f V Y F hi y u j;obtain⟨f,rfl⟩:∃g,f=g+1:=⟨f-1,by omega⟩;obtain rfl:i=s.length:=by omega
  refine⟨fr,l,aj_ ?_,by omega,y,?_⟩
  .unfold cU_;simp only[];rw[aM_];rfl
  .rw[qr (by rw[qC];omega)]at u;rw[j,e4_ u]
 | succ k O =>
  intro fr i l f V Y F hi y u j;obtain⟨f,rfl⟩:∃g,f=g+1:=⟨f-1,by omega⟩;rcases qR i s.length with h|h
  .by_cases Z:l.length=6
   .refine⟨fr,l,aj_ ?_,by omega,y,by rw[j,Z];rfl⟩;unfold cU_;simp only[];rw[aB_ h,qV (by omega)];rfl
   .have C:((s[i].toNat:Int)==10)=(s[i]==10):=aV_ s[i] 10;have p:(s.drop fr)[i-fr]? = some s[i]:=by
     rw[zW,show fr+(i-fr)=i by omega,qY h]
    by_cases D:s[i]=10
    .obtain⟨U,G⟩:=jZ_ u (D▸p);have e1:(s.take i).drop fr=(s.drop fr).take (i-fr):=by rw[jC]
     obtain⟨fr',q,M,J⟩:=O (i+1) (i+1) (l++[(s.drop fr).take (i-fr)]) f (by omega) (by omega) (qE _) (by omega) (by rw[qLa];simp only[qLc,qQ];omega) (by rw[jd];rfl) (by
      have e2:(s.drop fr).drop (i-fr+1)=s.drop (i+1):=by rw[zz];congr 1;omega
      rw[j,show 6-l.length=(6-(l++[(s.drop fr).take (i-fr)]).length)+1 by rw[qLa];simp only[qLc,qQ];omega,k5_ G,U,e2,qS];rfl)
     refine⟨fr',q,an_ ?_ M,J⟩;unfold cU_;simp only[];rw[aB_ h,qK (by omega),aJ_ h];simp only[jX,qW,qBs];rw[C,D];simp only[zV,qW];rw[ax_ (by omega) (by omega) (by omega)];simp only[qBs,qTn];rw[e1,az_ (by simp only[qLc,qQ];omega) (by simp only[qLc,qQ];omega),ai_ (by omega)];rfl
    .obtain⟨fr',q,M,J⟩:=O fr (i+1) l f (by omega) (by omega) (by omega) (by omega) y (by
      have x:i-fr<(s.drop fr).length:=by rw[qC];omega
      rw[show i+1-fr=i-fr+1 by omega,aW_ x];have e3:(s.drop fr)[i-fr]=s[i]:=by
       rw[qY x]at p;exact qSj p
      rw[e3];have:((s.drop fr).take (i-fr)++[s[i]]).contains 10=(((s.drop fr).take (i-fr)).contains 10||([s[i]]:tX).contains 10):=by
       rw[zL,zh];simp only[zl,qF]
      rw[this,u,zX,zB,jD,za];exact qX.2 λe=>D e.symm) j
     refine⟨fr',q,an_ ?_ M,J⟩;unfold cU_;simp only[];rw[aB_ h,qK (by omega),aJ_ h];simp only[jX,qW,qBs];rw[C,qX.2 D];simp only[qZ,qBs];rw[ai_ (by omega)]
  .obtain rfl:i=s.length:=by omega
   refine⟨fr,l,aj_ ?_,by omega,y,?_⟩
   .unfold cU_;simp only[];rw[aM_];rfl
   .rw[qr (by rw[qC];omega)]at u;rw[j,e4_ u]
theorem PR.lens{s:tX}{i:Nat}{out:tL Xx}{r:tL Xx×Int×Int}(h:PR s i out r):out.length<=32->(∀a∈out,a.Xg.length<=s.length/\a.Xr.length<=s.length)->r.1.length<=32/\∀a∈r.1,a.Xg.length<=s.length/\a.Xr.length<=s.length:=by
 induction h with
 | done=>exact λq p=>⟨q,p⟩
 | blank _ _ _ j=>exact j
 | err=>exact λ_ _=>⟨qO _,λa f=>nomatch f⟩
 | @next i out r h D C _ j =>
  intro q p;obtain⟨z0,u⟩:=n0_ C;have y:=iB_ z0;rw[qC]at y;have x:=out_len u;refine j (by rw[qLa];simp only[qLc,qQ];omega) λa f => ?_
  rcases qF.1 f with f|f
  .exact p a f
  .obtain rfl:=qH.1 f;exact⟨by omega,by omega⟩
theorem p6_:∀(k:Nat) (s:tX),∀x∈splitK k s,x.length<=s.length
 | 0,s,x,f=>by obtain rfl:=qH.1 f;exact qE _
 | k+1,s,x,f=>by
  unfold splitK at f;split at f
  .rcases qD.1 f with rfl|f
   .rw[qA];omega
   .have:=p6_ k _ x f;rw[qC]at this;omega
  .obtain rfl:=qH.1 f;exact qE _
theorem rQ_{s:tX}(D:s.length<=1000000000):∃q,jI_ s=some q/\jU_ s=some q/\AttrL q.1.Xm:=by
 have u:AttrL ([]:tL Xx):=⟨qO _,λa p=>(nomatch p),λa p=>(nomatch p)⟩;obtain⟨fr,l,h1,h2,h3,J⟩:=refSplit_go D s.length 0 0 [] BIG (by omega) (au_ (by omega)) (qE _) (qO _) (by simp) rfl rfl;have y:af_ (cU_ s) BIG (0,0,[])=some ((fr:Int),l):=h1;have f:=p6_ 6 s;rw[J]at f;unfold jI_ jU_;rw[splitN_eq D,J,y];simp only[qBs,qLa,qLc,qQ];by_cases h6:l.length=6
 .rw [qV (by omega),qV (by omega)];simp only[qZ]
  match l,h6,f with
  | [x0,x1,x2,x3,j,h],_,f =>
   have ZY:j.length<=s.length:=f j (by simp);have ZZ:h.length<=s.length:=f h (by simp);have g0:ah_ ([x0,x1,x2,x3,j,h]++[s.drop fr]) 0=some x0:=rfl;have g1:ah_ ([x0,x1,x2,x3,j,h]++[s.drop fr]) 1=some x1:=rfl;have g2:ah_ ([x0,x1,x2,x3,j,h]++[s.drop fr]) 2=some x2:=rfl;have g3:ah_ ([x0,x1,x2,x3,j,h]++[s.drop fr]) 3=some x3:=rfl;have g4:ah_ ([x0,x1,x2,x3,j,h]++[s.drop fr]) 4=some j:=rfl;have g5:ah_ ([x0,x1,x2,x3,j,h]++[s.drop fr]) 5=some h:=rfl;have g6:ah_ ([x0,x1,x2,x3,j,h]++[s.drop fr]) 6=some (s.drop fr):=rfl;have Z:ah_ [x0,x1,x2,x3,j,h] 0=some x0:=rfl;have Y:ah_ [x0,x1,x2,x3,j,h] 1=some x1:=rfl;have V:ah_ [x0,x1,x2,x3,j,h] 2=some x2:=rfl
   have U:ah_ [x0,x1,x2,x3,j,h] 3=some x3:=rfl;have O:ah_ [x0,x1,x2,x3,j,h] 4=some j:=rfl;have M:ah_ [x0,x1,x2,x3,j,h] 5=some h:=rfl;rw[g0,g1,g2,g3,g4,g5,g6,Z,Y,V,U,O,M];simp only[qBs];obtain⟨r,hr⟩:=PR.ex j.length 0 [] (by omega) (qO _) (s:=j);rw[parse_eq (by omega) hr,p5_ (by omega) hr];simp only[qBs];by_cases G:r.2.2=0
   .rw [G];simp only[qy,qZ];rw[num_eq (by omega),refNum_eq (by omega)];simp only[qBs];by_cases F:(numR h).2=0
    .rw[F];simp only[qy,qZ];have ZX:(s.drop fr).length=s.length-fr:=qC;rw[ar_ (n:=(s.length:Int)-(fr:Int)) ⟨by omega,by omega⟩,show(s.length:Int)-(fr:Int)=((s.drop fr).length:Int)by omega];cases decide (((s.drop fr).length:Int)<(numR h).1)with
     | true=>exact⟨_,rfl,rfl,u⟩
     | false =>
      simp only[qZ];cases decide (((s.drop fr).length:Int)>(numR h).1)with
      | true=>exact⟨_,rfl,rfl,u⟩
      | false =>
       simp only[qZ];rw[ax_ (by omega) (by omega) (qt _)];simp only[qBs,qTn,qb];obtain⟨k1,C⟩:=hr.lens (qO _) (λa p=>nomatch p);have x:AttrL r.1:=⟨by omega,λa p=>by have:=(C a p).1;omega,λa p=>by have:=(C a p).2;omega⟩;rw[fW_ (m:=Xq.mk x0 x1 x2 x3 r.1 (s.drop fr)) x,fF_ (m:=Xq.mk x0 x1 x2 x3 r.1 (s.drop fr)) x];simp only[qBs];cases(bf_ (Xq.mk x0 x1 x2 x3 r.1 (s.drop fr)) != 0)with
       | true=>exact⟨_,rfl,rfl,u⟩
       | false=>exact⟨_,rfl,rfl,x⟩
    .rw[show((numR h).2 != 0)=true from zt.2 F];exact⟨_,rfl,rfl,u⟩
   .rw[show(r.2.2 != 0)=true from zt.2 G];exact⟨_,rfl,rfl,u⟩
 .rw[qK (by omega),qK (by omega)];exact⟨_,rfl,rfl,u⟩
theorem rR_{σ β:Type}{body:σ->tO (Step σ β)}{b:β}:∀{n m:Nat} {s:σ},af_ body n s=some b->n<=m->af_ body m s=some b
 | 0,_,_,h,_=>by cases h
 | n+1,0,_,_,j=>by omega
 | n+1,m+1,s,h,j=>by
  simp only[af_]at h ⊢;cases f:body s with
  | none=>rw[f]at h;cases h
  | some x =>
   rw[f]at h;cases x with
   | done p=>exact h
   | next s'=>exact rR_ (n:=n) (m:=m) (s:=s') h (by omega)
theorem text_eq{n:Int}(h:0<=n)(f:n<=9223372036854775807):nM_ n 10=some (digF 20 n.toNat):=by
 unfold nM_;exact al_ (a:=true) rfl (er_ rfl (al_ (by unfold dQ_;rw[qL ⟨rfl,h,f⟩]) rfl))
theorem rS_(u:Nat)(s:tX)(x:u<=9223372036854775807)(y:s.length<=1000)(j:(decide (-(u:Int)<0)||(s==[]))=true):dF_ 10 (-(u:Int),s)=some (.next (-((u/10:Nat):Int),UInt8.ofNat (48+u%10)::s)):=by
 unfold dF_;have f:u%10<10:=Nat.mod_lt _ (by omega);have q:remI (-(u:Int)) 10=some (-((u%10:Nat):Int)):=by
  unfold remI;rw[qP (by decide),Int.neg_tmod,Int.tmod_eq_emod_of_nonneg (by omega)];rfl
 have p:quoI .i64 (-(u:Int)) 10=some (-((u/10:Nat):Int)):=by
  unfold quoI;rw[qP (by decide),Int.neg_tdiv,Int.tdiv_eq_ediv_of_nonneg (by omega),lj_ ⟨by omega,by omega⟩];rfl
 refine ki_ j (al_ q (al_ (a:=[UInt8.ofNat (48+u%10)]) ?_ (al_ (a:=UInt8.ofNat (48+u%10)::s) ?_ (al_ p rfl))))
 .generalize u%10=d at f;have h:d=0\/d=1\/d=2\/d=3\/d=4\/d=5\/d=6\/d=7\/d=8\/d=9:=by omega
  rcases h with rfl|rfl|rfl|rfl|rfl|rfl|rfl|rfl|rfl|rfl<;>rfl
 .rw[bq_ (by simp;omega)];rfl
theorem pc_(f u:Nat):digF (f+1) u=if u<10 then[UInt8.ofNat (48+u)]else digF f (u/10)++[UInt8.ofNat (48+u%10)]:=rfl
theorem p7_:∀(f u:Nat) (s:tX),u<10^f->u<=9223372036854775807->s≠[]->s.length+f<=1000->af_ (dF_ 10) (f+1) (-(u:Int),s)=some ((if u=0 then[]else digF f u)++s)
 | 0,u,s,h,_,j,_=>by
  have:u=0:=by simpa using h
  subst this;refine aj_ ?_;unfold dF_;refine er_ ?_ rfl;cases s with
  | nil=>exact absurd rfl j
  | cons a l=>rfl
 | f+1,u,s,h,x,j,C=>by
  by_cases q:u=0
  .subst q;rw[qL rfl];refine aj_ ?_;unfold dF_;refine er_ ?_ rfl;cases s with
   | nil=>exact absurd rfl j
   | cons a l=>rfl
  .rw[qP q];have y:(decide (-(u:Int)<0)||(s==[]))=true:=by
    have:decide (-(u:Int)<0)=true:=by simp;omega
    rw[this];rfl
   refine an_ (rS_ u s x (by omega) y) ((p7_ f (u/10) (UInt8.ofNat (48+u%10)::s) (by rw[Nat.pow_succ]at h;omega) (by omega) (by simp) (by simp;omega)).trans ?_);rw[pc_ f u];by_cases p:u<10
   .rw[qL p,qL (by omega),Nat.mod_eq_of_lt p];rfl
   .rw[qP p,qP (by omega)];simp
theorem ref_text_eq{n:Int}(s:0<=n)(q:n<=9223372036854775807):kW_ n 10=some (digF 20 n.toNat):=by
 obtain⟨u,rfl⟩:∃u:Nat,n=(u:Int):=⟨n.toNat,by omega⟩;rw[qTn];unfold kW_ iZ_;refine al_ (a:=true) rfl (er_ rfl (er_ (by simp) ?_));rw[ar_ ⟨by omega,by omega⟩,Int.zero_sub];have f:=rS_ u [] (by omega) (by simp) (by simp);have j:=p7_ 19 (u/10) [UInt8.ofNat (48+u%10)] (by omega) (by omega) (by simp) (by simp);have h:=rR_ (an_ f j) (show 19+1+1<=BIG by decide);refine al_ (al_ h rfl) (qa some ?_);rw[show digF 20 u=_ from pc_ 19 u];by_cases p:u<10
 .rw[qL p,qL (by omega),Nat.mod_eq_of_lt p];rfl
 .rw[qP p,qP (by omega)]
theorem qE_:∀(f u:Nat),(digF f u).length<=f
 | 0,_=>qE _
 | f+1,u=>by
  rw[pc_];split
  .simp
  .have:=qE_ f (u/10);rw[qLa];simp only[qLc,qQ];omega
def cj_(m:Xq):tX:=cF_ [10] [m.Xu,m.Xe,m.Yz,m.Xt,nc_ m.Xm,digF 20 m.Xl.length,m.Xl]
theorem f5_{m:Xq}(h:bf_ m=0):(∀s∈[m.Xu,m.Xe,m.Yz,m.Xt],s.length<=1024/\s.contains 10=false)/\bU_ m.Xm=0/\m.Xm.any (·.Xi)=false/\m.Xl.length<=65536:=by
 unfold bf_ at h;cases p:bh_ jY_ 0 [m.Xu,m.Xe,m.Yz,m.Xt]with
 | some r =>
  rw[p,zu]at h;obtain⟨i,x,y,j,_⟩:=ix_ p;unfold jY_ at j;split at j
  .cases j
  .rename_i q;have:=qSj j;omega
 | none =>
  rw[p,jh]at h;have key:=scan_none.1 p;refine⟨λs C => ?_,?_⟩
  .obtain⟨i,hi⟩:=jW.1 C;have u:=key i s hi;unfold jY_ at u;split at u
   .rename_i f;unfold gl_ at f;split at f
    .cases f
    .split at f
     .cases f
     .rename_i F D;exact⟨by omega,by simpa using D⟩
   .cases u
  .split at h
   .rename_i q;refine⟨q,?_⟩;split at h
    .cases h
    .rename_i y;split at h
     .cases h
     .rename_i j;exact⟨by simpa using y,by omega⟩
   .rename_i q;exact absurd h q
theorem printM_len{m:Xq}(h:bf_ m=0):(cj_ m).length<=150000:=by
 obtain⟨f,j,_,p⟩:=f5_ h;have s:=(f m.Xu (by simp)).1;have a2:=(f m.Xe (by simp)).1;have a3:=(f m.Yz (by simp)).1;have a4:=(f m.Xt (by simp)).1;have a5:=nZ_ (iy_ j);have q:=qE_ 20 m.Xl.length;unfold cj_;rw[lJ_];simp only[zw,List.flatten_nil,qLa,qLc,qQ];omega
theorem kv_{m:Xq}(h:AttrL m.Xm):d8_ m=some (if bf_ m=0 then(cj_ m,0)else([],bf_ m)):=by
 unfold d8_;rw[fW_ h];simp only[qBs];by_cases f:bf_ m=0
 .have j:=f5_ f;rw[qL f,f];simp only[qy,qZ];rw[attrPrint_eq h,qL j.2.1];simp only[qBs,qy,qZ];rw[text_eq (by omega) (by have:=j.2.2.2;omega)];simp only[qBs,qTn];have p:=printM_len f;unfold cj_ at p;rw[Join_eq (by simp) (by omega) (by simp) (by simp)];rfl
 .rw[qP f,show(bf_ m != 0)=true from zt.2 f];rfl
theorem fH_{m:Xq}(h:AttrL m.Xm):e1_ m=some (if bf_ m=0 then(cj_ m,0)else([],bf_ m)):=by
 unfold e1_;rw[fF_ h];simp only[qBs];by_cases j:bf_ m=0
 .have f:=f5_ j;rw[qL j,j];simp only[qy,qZ];rw[refPrint_eq h,qL f.2.1];have u:=(f.1 m.Xu (by simp)).1;have a2:=(f.1 m.Xe (by simp)).1;have a3:=(f.1 m.Yz (by simp)).1;have a4:=(f.1 m.Xt (by simp)).1;have a5:=nZ_ (iy_ f.2.1);have s:=qE_ 20 m.Xl.length;have q:=f.2.2.2;have p:=ref_text_eq (n:=(m.Xl.length:Int)) (by omega) (by omega);rw[qTn]at p;rw[p];simp only[qBs]
  repeat (rw[bq_ (by simp only[qLa,qLc,qQ];omega)];simp only[qBs])
  unfold cj_;simp[cF_]
 .rw[qP j,show(bf_ m != 0)=true from zt.2 j];rfl
theorem sA_{l:tL Xx}(j:l.length<=9223372036854775807):gi_ l l=some true:=by
 unfold gi_;rw[show((l.length:Int) != (l.length:Int))=false from qy _,qZ];have f:=bw_ (body:=eP_ l l) l (λ_ _=>(none:tO tV)) (au_ j) (λi hi=>by
  unfold eP_;rw[aB_ hi,qW,aq_ hi];simp only[qBs];rw[qK trivial,qN,qZ,ai_ (by omega)];rfl) (by
  unfold eP_;rw[aM_];rfl)
 have h:bh_ (λ_ _=>(none:tO tV)) 0 l=none:=scan_none.2 λ_ _ _=>rfl
 rw[h]at f;exact al_ f rfl
theorem same_refl{m:Xq}(f:m.Xm.length<=9223372036854775807):kT_ m m=some true:=by
 unfold kT_;rw[zV,zV,zV,zV,zV];simp only[jX,qW];rw[sA_ f];rfl
theorem until_app0{p a:tX}(h:∀b∈a,p.contains b=false):ae_ p a=a.length:=by
 unfold ae_
 induction a with
 | nil=>rfl
 | cons b a f =>
  rw[zM,h b (by simp)];simp only[qf,zT,qLc];rw[f λx j=>h x (qG _ j)]
theorem splitK_app{k:Nat}{x t:tX}(j:x.contains 10=false):splitK (k+1) (x++10::t)=x::splitK k t:=by
 obtain⟨h,f⟩:=jZ_ (c:=10) (t:=x++10::t) (n:=x.length) (by rwa [List.take_left]) (by rw[zZ (qE _),jd];rfl);rw[k5_ f,h,List.take_left,show x++10::t=(x++[10])++t by simp,List.drop_left' (by simp)]
inductive CR|err (p:Nat)|ok (b:UInt8) (q:Nat)
inductive PR2|err (p:Nat)|ok (a b:UInt8) (q:Nat)
inductive SR|err (p:Nat)|ok (set:tX) (q:Nat)
def escB(d:UInt8):UInt8:=if d=110 then 10 else if d=116 then 9 else d
def escS(s:tX)(i:Nat):CR:=match s[i+1]? with|none => .err (i+1)|some d => .ok (escB d) (i+2)
def chS(s:tX)(i:Nat):CR:=match s[i]? with|none => .err i|some c=>if c=93\/c=45 then .err i else if c=92 then escS s i else .ok c (i+1)
def fI_(s:tX)(i:Nat):PR2:=match chS s i with
 | .err e => .err e
 | .ok a p=>if s[p]? = some 45 then(match chS s (p+1)with
   | .err e => .err e
   | .ok b q=>if b.toNat<a.toNat then .err (q-1)else .ok a b q)
  else .ok a a p
inductive Cx(s:tX):Nat->tX->SR->Prop
 | done {i set} (h0:set≠[]) (h:s[i]? = some 93):Cx s i set (.ok set (i+1))
 | err {i set e} (h0:¬(set≠[]/\s[i]? = some 93)) (h:fI_ s i = .err e):Cx s i set (.err e)
 | next {i set a b q r} (h0:¬(set≠[]/\s[i]? = some 93)) (h:fI_ s i = .ok a b q) (t:Cx s q (set++[a,b]) r):Cx s i set r
theorem aI_{s:tX}{i:Nat}{c:UInt8}(h:s[i]? = some c):i<s.length:=by
 rcases qR i s.length with f|f
 .exact f
 .rw[qe f]at h;cases h
theorem escS_len{s:tX}{i:Nat}{b:UInt8}{q:Nat}(h:escS s i = .ok b q):i<q/\q<=s.length:=by
 unfold escS at h;split at h
 .cases h
 .rename_i d f;have:=aI_ f;injection h with _ h;omega
theorem escS_err{s:tX}{i e:Nat}(hi:i<s.length)(h:escS s i = .err e):e<=s.length:=by
 unfold escS at h;split at h
 .injection h;omega
 .cases h
theorem iC_{s:tX}{i:Nat}{b:UInt8}{q:Nat}(h:chS s i = .ok b q):i<q/\q<=s.length:=by
 unfold chS at h;split at h
 .cases h
 .rename_i c f;have:=aI_ f;split at h
  .cases h
  .split at h
   .exact escS_len h
   .injection h with _ h;omega
theorem chS_err{s:tX}{i e:Nat}(hi:i<=s.length)(h:chS s i = .err e):e<=s.length:=by
 unfold chS at h;split at h
 .injection h;omega
 .rename_i c f;have:=aI_ f;split at h
  .injection h;omega
  .split at h
   .exact escS_err (by omega) h
   .cases h
theorem mh_{s:tX}{i:Nat}{a b:UInt8}{q:Nat}(h:fI_ s i = .ok a b q):i<q/\q<=s.length:=by
 unfold fI_ at h;split at h
 .cases h
 .rename_i a p j;have:=iC_ j;split at h
  .split at h
   .cases h
   .rename_i b q f;have:=iC_ f;split at h
    .cases h
    .injection h with _ _ h;omega
  .injection h with _ _ h;omega
theorem pairS_err{s:tX}{i e:Nat}(hi:i<=s.length)(h:fI_ s i = .err e):e<=s.length:=by
 unfold fI_ at h;split at h
 .rename_i u;injection h with h;have:=chS_err hi u;omega
 .rename_i a p u;have:=iC_ u;split at h
  .rename_i f;have:=aI_ f;split at h
   .rename_i j;injection h with h;have:=chS_err (by omega) j;omega
   .rename_i b q j;have:=iC_ j;split at h
    .injection h;omega
    .cases h
  .cases h
theorem Cx.ex{s:tX}:∀(k i:Nat) (set:tX),s.length-i<=k->i<=s.length->∃r,Cx s i set r:=by
 intro k
 induction k with
 | zero =>
  intro i set x hi;have p:s[i]? = none:=qe (by omega);refine⟨_,.err (e:=i) (λh=>by rw[p]at h;cases h.2) ?_⟩;unfold fI_ chS;rw[p]
 | succ k u =>
  intro i set x hi;by_cases f:set≠[]/\s[i]? = some 93
  .exact⟨_,.done f.1 f.2⟩
  .cases j:fI_ s i with
   | err e=>exact⟨_,.err f j⟩
   | ok a b q =>
    have:=mh_ j;obtain⟨r,hr⟩:=u q (set++[a,b]) (by omega) (by omega);exact⟨r,.next f j hr⟩
theorem Cx.len{s:tX}{i:Nat}{set:tX}{r:SR}(h:Cx s i set r):(∀e,r = .err e->i<=s.length->e<=s.length)/\∀x q,r = .ok x q->i<q/\q<=s.length/\x.length+2*(s.length-q)<=set.length+2*(s.length-i):=by
 induction h with
 | done p h =>
  refine⟨λe f=>(by cases f),λx q f => ?_⟩;injection f with D C;subst D;subst C;have:=aI_ h;omega
 | err p h =>
  refine⟨λM f hi => ?_,λx q f=>(by cases f)⟩;injection f with f;have:=pairS_err hi h;omega
 | next p h t j =>
  have J:=mh_ h;refine⟨λe f hi=>j.1 e f (by omega),λx u f => ?_⟩;obtain⟨G,F,y⟩:=j.2 x u f;simp only[qLa,qLc,qQ]at y;omega
def ps(s:tX)(i g:Nat)(C:tL Xz)(bad:Int):regex_parser:=regex_parser.mk s (i:Int) (g:Int) C bad
theorem cd_{s:tX}{i g:Nat}{C:tL Xz}{bad:Int}{c:UInt8}(h:s[i]? = some c):bE_ (ps s i g C bad)=some ((c.toNat:Int),true,ps s i g C bad):=by
 have hi:=aI_ h;unfold bE_ ps;simp only[];rw[qV (by omega),qZ,aJ_ hi];simp only[qBs];rw[qY hi]at h;rw[qSj h]
theorem mi_{s:tX}{i g:Nat}{C:tL Xz}{bad:Int}(h:s[i]? = none):bE_ (ps s i g C bad)=some (0,false,ps s i g C bad):=by
 unfold bE_ ps;simp only[];rw[qK (by have:=ja.1 h;omega)];rfl
theorem jw_{s:tX}{i g:Nat}{C:tL Xz}{bad:Int}(p:s.length<=1000){c:UInt8}{k:Int}(j:k=(c.toNat:Int)):aS_ (ps s i g C bad) k=some (if s[i]? = some c then(true,ps s (i+1) g C bad)else(false,ps s i g C bad)):=by
 subst j;unfold aS_;cases h:s[i]? with
 | none =>
  rw[mi_ h];simp
 | some d =>
  have hi:=aI_ h;rw[cd_ h];simp only[qBs,qN,zX];by_cases f:d=c
  .subst f;rw[qy,qZ,qL rfl];unfold ps;simp only[];rw[ai_ (by omega)]
  .rw[show((d.toNat:Int) != (c.toNat:Int))=true from zt.2 λe=>f (UInt8.toNat_inj.1 (by omega)),qW,qP λe=>f (qSj e)]
theorem rT_{s:tX}{i g:Nat}{C:tL Xz}{bad:Int}(F:s.length<=1000)(hi:i<s.length):c8_ (ps s i g C bad)=some (match escS s i with
  | .err e=>(0,false,ps s e g C (e:Int))
  | .ok b q=>((b.toNat:Int),true,ps s q g C bad)):=by
 unfold c8_ escS;have D:regex_parser.mk (ps s i g C bad).s_ (w64 ((ps s i g C bad).at_+1)) (ps s i g C bad).groups_ (ps s i g C bad).code_ (ps s i g C bad).bad_=ps s (i+1) g C bad:=by
  unfold ps;simp only[];rw[ai_ (by omega)]
 rw[D];cases h:s[i+1]? with
 | none =>
  rw[mi_ h];rfl
 | some d =>
  have x:=aI_ h;rw[cd_ h];simp only[qBs,qN,qZ];have u:((d.toNat:Int)==110)=(d==110):=aV_ d 110;have p:((d.toNat:Int)==116)=(d==116):=aV_ d 116;have y:regex_parser.mk (ps s (i+1) g C bad).s_ (w64 ((ps s (i+1) g C bad).at_+1)) (ps s (i+1) g C bad).groups_ (ps s (i+1) g C bad).code_ (ps s (i+1) g C bad).bad_=ps s (i+2) g C bad:=by
   unfold ps;simp only[];rw[ai_ (by omega)]
  rw[u,p,y];unfold escB;by_cases j:d=110
  .subst j;rfl
  .rw[qX.2 j,qP j,qZ];by_cases f:d=116
   .subst f;rfl
   .rw[qX.2 f,qP f,qZ]
theorem pP_{s:tX}{i g:Nat}{C:tL Xz}{bad:Int}(D:s.length<=1000):cv_ (ps s i g C bad)=some (match chS s i with
  | .err e=>(0,false,ps s e g C (e:Int))
  | .ok b q=>((b.toNat:Int),true,ps s q g C bad)):=by
 unfold cv_ chS;cases h:s[i]? with
 | none =>
  rw[mi_ h];rfl
 | some d =>
  have j:=aI_ h;rw[cd_ h];simp only[qBs,qN,zX];have y:((d.toNat:Int)==93)=(d==93):=aV_ d 93;have x:((d.toNat:Int)==45)=(d==45):=aV_ d 45;have u:((d.toNat:Int)==92)=(d==92):=aV_ d 92;rw[y,x,u];by_cases f:d=93\/d=45
  .rw[qL f,show((d==93)||(d==45))=true by rcases f with rfl|rfl<;>rfl];rfl
  .rw[qP f,show((d==93)||(d==45))=false by
    rw[zS,qX,qX];exact⟨λe=>f (.inl e),λe=>f (.inr e)⟩,qZ]
   by_cases p:d=92
   .subst p;rw[qL rfl,zV,qW,rT_ D j];cases escS s i<;>rfl
   .rw[qP p,qX.2 p,qZ];unfold ps;simp only[];rw[ai_ (by omega)]
def setI(set:tX)(n:tV):Xz:=Xz.mk 3 0 set n 0 0
theorem rU_{s:tX}{i g:Nat}{C:tL Xz}{bad:Int}(h:s.length<=1000){set:tX}{n fst:tV}(y:set.length<=100000)(F:fst=true\/s[i]? ≠ some 93):cO_ (fst,s,(i:Int),(g:Int),bad,C,setI set n)=some (match fI_ s i with
  | .err e => .done (.ret (false,ps s e g C (e:Int)))
  | .ok a b q => .next (false,s,(q:Int),(g:Int),bad,C,setI (set++[a,b]) n)):=by
 have J:regex_parser.mk s (i:Int) (g:Int) C bad=ps s i g C bad:=rfl;have key:∀(a b:UInt8),(cat set (bytesS [(a.toNat:Int),(b.toNat:Int)]))=some (set++[a,b]):=λa b=>by
  have:bytesS [(a.toNat:Int),(b.toNat:Int)]=[a,b]:=e3_ [a,b];rw[this,bq_ (by simp only[qLc,qQ];omega)]
 unfold cO_;simp only[];rw[J];unfold fI_;cases fst with
 | true =>
  rw[qW,pP_ h];simp only[qBs];cases G:chS s i with
  | err e=>rfl
  | ok a p =>
   simp only[qN,qZ];rw[jw_ h (c:=45) (k:=45) rfl];by_cases f:s[p]? = some 45
   .rw[qL f,qL f];simp only[qBs,qW];rw[pP_ h];simp only[qBs];cases x:chS s (p+1)with
    | err e=>rfl
    | ok b q =>
     have D:=iC_ x;simp only[qN,qZ];by_cases j:b.toNat<a.toNat
     .rw[qL j,qK (by omega),qW];unfold bj_ ps;simp only[qBs];rw[ar_ ⟨by omega,by omega⟩,show(q:Int)-1=((q-1:Nat):Int)by omega]
     .rw[qP j,qV (by omega),qZ];simp only[qBs];unfold setI ps;simp only[];rw[key];rfl
   .rw[qP f,qP f];simp only[qBs,qZ];unfold setI ps;simp only[];rw[key];rfl
 | false =>
  have u:s[i]? ≠ some 93:=F.resolve_left (by decide);rw[qZ,jw_ h (c:=93) (k:=93) rfl,qP u];simp only[qBs,qf,qW];rw[pP_ h];simp only[qBs];cases G:chS s i with
  | err e=>rfl
  | ok a p =>
   simp only[qN,qZ];rw[jw_ h (c:=45) (k:=45) rfl];by_cases f:s[p]? = some 45
   .rw[qL f,qL f];simp only[qBs,qW];rw[pP_ h];simp only[qBs];cases x:chS s (p+1)with
    | err e=>rfl
    | ok b q =>
     have D:=iC_ x;simp only[qN,qZ];by_cases j:b.toNat<a.toNat
     .rw[qL j,qK (by omega),qW];unfold bj_ ps;simp only[qBs];rw[ar_ ⟨by omega,by omega⟩,show(q:Int)-1=((q-1:Nat):Int)by omega]
     .rw[qP j,qV (by omega),qZ];simp only[qBs];unfold setI ps;simp only[];rw[key];rfl
   .rw[qP f,qP f];simp only[qBs,qZ];unfold setI ps;simp only[];rw[key];rfl
def clsO(s:tX)(g:Nat)(C:tL Xz)(bad:Int)(n:tV):SR->Out (tX×Int×Int×Int×(tL Xz)×Xz) (tV×regex_parser) | .err e => .ret (false,ps s e g C (e:Int)) | .ok x q => .fall (s,(q:Int),(g:Int),bad,C,setI x n)
def clsP(s:tX)(g:Nat)(C:tL Xz)(bad:Int)(n:tV):SR->tV×regex_parser | .err e=>(false,ps s e g C (e:Int)) | .ok x q=>(true,ps s q g (C++[setI x n]) bad)
theorem class_go{s:tX}(x:s.length<=1000){g:Nat}{C:tL Xz}{bad:Int}{n:tV}{i:Nat}{set:tX}{r:SR}(h:Cx s i set r):∀(f:Nat),s.length-i<f->set.length+2*(s.length-i)<=5000 ->
  af_ cO_ f (decide (set=[]),s,(i:Int),(g:Int),bad,C,setI set n)=some (clsO s g C bad n r):=by
 induction h with
 | @done i set u h =>
  intro f D y;obtain⟨f,rfl⟩:∃k,f=k+1:=⟨f-1,by omega⟩;refine aj_ ?_;unfold cO_;have G:regex_parser.mk s (i:Int) (g:Int) C bad=ps s i g C bad:=rfl;simp only[];rw[qV u,qZ,G,jw_ x (c:=93) (k:=93) rfl,qL h];rfl
 | @err i set e u h =>
  intro f D y;obtain⟨f,rfl⟩:∃k,f=k+1:=⟨f-1,by omega⟩;refine aj_ ?_;rw[rU_ x (by omega) (by
   by_cases j:set=[]
   .left;exact qK j
   .right;exact λe=>u ⟨j,e⟩),h]
  rfl
 | @next i set a b q r u h t F =>
  intro f D y;obtain⟨f,rfl⟩:∃k,f=k+1:=⟨f-1,by omega⟩;have J:=mh_ h;have p:=rU_ (s:=s) (i:=i) (g:=g) (C:=C) (bad:=bad) x (set:=set) (n:=n) (fst:=decide (set=[])) (by omega) (by
   by_cases j:set=[]
   .left;exact qK j
   .right;exact λe=>u ⟨j,e⟩)
  rw[h]at p;have:=F f (by omega) (by simp only[qLa,qLc,qQ];omega);rw[qV (by simp)]at this;exact an_ p this
def clsI(s:tX)(i:Nat):Nat:=if s[i]? = some 94 then i+1 else i
def clsN(s:tX)(i:Nat):tV:=decide (s[i]? = some 94)
theorem class_eq{s:tX}(j:s.length<=1000){g:Nat}{C:tL Xz}{bad:Int}{i:Nat}{r:SR}(u:C.length<=100000)(h:Cx s (clsI s i) [] r):eK_ (ps s i g C bad)=some (clsP s g C bad (clsN s i) r):=by
 have f:=class_go j (g:=g) (C:=C) (bad:=bad) (n:=clsN s i) h BIG (by unfold BIG;omega) (by simp only[qQ];omega);rw[qK rfl]at f;unfold eK_;rw[jw_ j (c:=94) (k:=94) rfl];have p:(if s[i]? = some 94 then(true,ps s (i+1) g C bad)else(false,ps s i g C bad))=(clsN s i,ps s (clsI s i) g C bad):=by
  unfold clsN clsI;by_cases h:s[i]? = some 94
  .rw[qL h,qL h,qK h]
  .rw[qP h,qP h,qV h]
 rw[p];simp only[qBs];refine al_ f ?_;cases r with
 | err e=>rfl
 | ok x q =>
  unfold clsO;simp only[];unfold aA_;simp only[];rw[az_ (by simp only[qLc,qQ];omega) (by simp only[qLc,qQ];omega)];rfl
inductive Re where
 | emp|chr (b:UInt8)|any|bol|eol|set (x:tX) (n:tV)
 | seq (a b:Re)|alt (a b:Re)|grp (k:Nat) (a:Re)|star (a:Re)|plus (a:Re)|opt (a:Re)
def iC(b:UInt8):Xz:=Xz.mk 1 (b.toNat:Int) [] false 0 0
def iOne(k:Int):Xz:=Xz.mk k 0 [] false 0 0
def bF_(x y:Nat):Xz:=Xz.mk 6 0 [] false (x:Int) (y:Int)
def cX_(x:Nat):Xz:=Xz.mk 7 0 [] false (x:Int) 0
def aU_(x:Nat):Xz:=Xz.mk 8 0 [] false (x:Int) 0
def Re.len:Re->Nat | .emp=>0 | .chr _=>1 | .any=>1 | .bol=>1 | .eol=>1 | .set _ _=>1 | .seq a b=>a.len+b.len | .alt a b=>a.len+b.len+2 | .grp _ a=>a.len+2 | .star a=>a.len+2 | .plus a=>a.len+1 | .opt a=>a.len+1
def Re.code:Re->Nat->tL Xz | .emp,_=>[] | .chr b,_=>[iC b] | .any,_=>[iOne 2] | .bol,_=>[iOne 4] | .eol,_=>[iOne 5] | .set x n,_=>[setI x n] | .seq a b,n=>a.code n++b.code (n+a.len) | .alt a b,n=>bF_ (n+1) (n+a.len+2)::(a.code (n+1)++cX_ (n+a.len+b.len+2)::b.code (n+a.len+2)) | .grp k a,n=>aU_ (2*k)::(a.code (n+1)++[aU_ (2*k+1)]) | .star a,n=>bF_ (n+1) (n+a.len+2)::(a.code (n+1)++[cX_ n]) | .plus a,n=>a.code n++[bF_ n (n+a.len+1)] | .opt a,n=>bF_ (n+1) (n+a.len+1)::a.code (n+1)
theorem aC_:∀(a:Re) (n:Nat),(a.code n).length=a.len
 | .emp,_=>rfl
 | .chr _,_=>rfl
 | .any,_=>rfl
 | .bol,_=>rfl
 | .eol,_=>rfl
 | .set _ _,_=>rfl
 | .seq a b,n=>by simp only[Re.code,Re.len,qLa,aC_ a,aC_ b]
 | .alt a b,n=>by simp only[Re.code,Re.len,qLa,qLc,aC_ a,aC_ b];omega
 | .grp k a,n=>by simp only[Re.code,Re.len,qLa,qLc,qQ,aC_ a]
 | .star a,n=>by simp only[Re.code,Re.len,qLa,qLc,qQ,aC_ a]
 | .plus a,n=>by simp only[Re.code,Re.len,qLa,qLc,qQ,aC_ a]
 | .opt a,n=>by simp only[Re.code,Re.len,qLc,aC_ a]
def bump(x:Xz):Xz:=bif x.Op_==6 then Xz.mk x.Op_ x.C_ x.Yh x.Ys (x.X_+1) (x.Y_+1)else bif x.Op_==7 then Xz.mk x.Op_ x.C_ x.Yh x.Ys (x.X_+1) x.Y_ else x
theorem k6_(x y:Nat):bump (bF_ x y)=bF_ (x+1) (y+1):=rfl
theorem bump_jump(x:Nat):bump (cX_ x)=cX_ (x+1):=rfl
theorem bump_save(x:Nat):bump (aU_ x)=aU_ x:=rfl
theorem eb_:∀(a:Re) (n:Nat),(a.code n).map bump=a.code (n+1)
 | .emp,_=>rfl
 | .chr _,_=>rfl
 | .any,_=>rfl
 | .bol,_=>rfl
 | .eol,_=>rfl
 | .set _ _,_=>rfl
 | .seq a b,n=>by
  simp only[Re.code,jZ,eb_ a,eb_ b];rw[show n+a.len+1=n+1+a.len by omega]
 | .alt a b,n=>by
  simp only[Re.code,jZ,zH,eb_ a,eb_ b,k6_,bump_jump];rw[show n+a.len+2+1=n+1+a.len+2 by omega,show n+a.len+b.len+2+1=n+1+a.len+b.len+2 by omega]
 | .grp k a,n=>by simp only[Re.code,jZ,zH,jB,eb_ a,bump_save]
 | .star a,n=>by
  simp only[Re.code,jZ,zH,jB,eb_ a,k6_,bump_jump];rw[show n+a.len+2+1=n+1+a.len+2 by omega]
 | .plus a,n=>by
  simp only[Re.code,jZ,zH,jB,eb_ a,k6_];rw[show n+a.len+1+1=n+1+a.len+1 by omega]
 | .opt a,n=>by
  simp only[Re.code,zH,eb_ a,k6_];rw[show n+a.len+1+1=n+1+a.len+1 by omega]
def LowI(x:Xz):Prop:=0<=x.X_/\x.X_<=1000000/\0<=x.Y_/\x.Y_<=1000000
def Re.grps(m:Nat):Re->Prop | .seq a b=>a.grps m/\b.grps m | .alt a b=>a.grps m/\b.grps m | .grp k a=>k<=m/\a.grps m | .star a=>a.grps m | .plus a=>a.grps m | .opt a=>a.grps m|_=>True
theorem e5_:∀(a:Re) (n:Nat),n+a.len<=100000->a.grps 100->∀x∈a.code n,LowI x
 | .emp,_,_,_,x,h=>by cases h
 | .chr _,_,_,_,x,h=>by rw[qH.1 h];unfold LowI iC;simp only[];omega
 | .any,_,_,_,x,h=>by rw[qH.1 h];unfold LowI iOne;simp only[];omega
 | .bol,_,_,_,x,h=>by rw[qH.1 h];unfold LowI iOne;simp only[];omega
 | .eol,_,_,_,x,h=>by rw[qH.1 h];unfold LowI iOne;simp only[];omega
 | .set _ _,_,_,_,x,h=>by rw[qH.1 h];unfold LowI setI;simp only[];omega
 | .seq a b,n,j,f,x,h=>by
  simp only[Re.len]at j;rcases qF.1 h with h|h
  .exact e5_ a n (by omega) f.1 x h
  .exact e5_ b _ (by omega) f.2 x h
 | .alt a b,n,j,f,x,h=>by
  simp only[Re.len]at j;rcases qD.1 h with rfl|h
  .unfold LowI bF_;simp only[];omega
  .rcases qF.1 h with h|h
   .exact e5_ a _ (by omega) f.1 x h
   .rcases qD.1 h with rfl|h
    .unfold LowI cX_;simp only[];omega
    .exact e5_ b _ (by omega) f.2 x h
 | .grp k a,n,j,f,x,h=>by
  simp only[Re.len]at j;have p:=f.1;rcases qD.1 h with rfl|h
  .unfold LowI aU_;simp only[];omega
  .rcases qF.1 h with h|h
   .exact e5_ a _ (by omega) f.2 x h
   .rw[qH.1 h];unfold LowI aU_;simp only[];omega
 | .star a,n,j,f,x,h=>by
  simp only[Re.len]at j;rcases qD.1 h with rfl|h
  .unfold LowI bF_;simp only[];omega
  .rcases qF.1 h with h|h
   .exact e5_ a _ (by omega) f x h
   .rw[qH.1 h];unfold LowI cX_;simp only[];omega
 | .plus a,n,j,f,x,h=>by
  simp only[Re.len]at j;rcases qF.1 h with h|h
  .exact e5_ a _ (by omega) f x h
  .rw[qH.1 h];unfold LowI bF_;simp only[];omega
 | .opt a,n,j,f,x,h=>by
  simp only[Re.len]at j;rcases qD.1 h with rfl|h
  .unfold LowI bF_;simp only[];omega
  .exact e5_ a _ (by omega) f x h
theorem dm_{α:Type}{A B:tL α}{x:α}{k:Int}(h:k=(A.length:Int)):ah_ (A++x::B) k=some x:=by
 subst h;rw[aX_];simp
theorem ei_{α:Type}{A B:tL α}{x y:α}{k:Nat}(h:k=A.length):(A++x::B).set k y=A++y::B:=by
 subst h;simp
theorem w64_up{x:Int}(f:0<=x)(h:x<=1000000):w64 (x+1)=x+1:=ar_ ⟨by omega,by omega⟩
theorem insert_go:∀(D A:tL Xz) (f:Nat),D.length<f->A.length+D.length<=100000->(∀x∈D,LowI x)->af_ cA_ f ((A.length:Int),A++D)=some (A++D.map bump)
 | [],A,f+1,_,_,_=>by
  refine aj_ ?_;unfold cA_;simp only[zP,jB];rw[qV (by omega),qZ]
 | x::D,A,f+1,u,s,p=>by
  simp only[qLc]at u s;have h:=p x qT;have j:cA_ ((A.length:Int),A++x::D)=some (.next (((A++[bump x]).length:Int),(A++[bump x])++D)):=by
   unfold cA_;simp only[];rw[qK (by simp only[qLa,qLc];omega),qW,dm_ rfl];simp only[qBs];rw[show(A.length:Int).toNat=A.length from rfl];simp only[ei_ rfl,dm_ rfl,qBs];rw[w64_up h.1 h.2.1,w64_up h.2.2.1 h.2.2.2,ai_ (by omega)];have e:∀y:Xz,A++y::D=(A++[y])++D:=λy=>by simp
   have C:(A++[bump x]).length=A.length+1:=by simp
   rw[C];unfold bump;cases G:(x.Op_==6)with
   | true=>simp only[qW,qBs];rw[e]
   | false =>
    cases F:(x.Op_==7)with
    | true=>simp only[qW,qZ,qBs];rw[e]
    | false=>simp only[qZ,qBs];rw[e]
  have:=insert_go D (A++[bump x]) f (by omega) (by simp only[qLa,qLc,qQ];omega) (λy q=>p y (qG _ q));refine an_ j ?_;rw[this];simp
theorem rW_:∀(D A acc:tL Xz) (f:Nat),D.length<f->A.length+D.length<=100000->acc.length+D.length<=200000->(∀x∈D,LowI x)->af_ eQ_ f ((A.length:Int),A++D,acc)=some (A++D,acc++D.map bump)
 | [],A,acc,f+1,_,_,_,_=>by
  refine aj_ ?_;unfold eQ_;simp only[zP,jB];rw[qV (by omega),qZ]
 | x::D,A,acc,f+1,C,u,F,q=>by
  simp only[qLc]at C u F;have h:=q x qT;have j:eQ_ ((A.length:Int),A++x::D,acc)=some (.next (((A++[x]).length:Int),(A++[x])++D,acc++[bump x])):=by
   unfold eQ_;simp only[];rw[qK (by simp only[qLa,qLc];omega),qW,dm_ rfl];simp only[qBs];rw[ai_ (by omega),w64_up h.1 h.2.1];have e:A++x::D=(A++[x])++D:=by simp
   have G:(A++[x]).length=A.length+1:=by simp
   have er:∀y:Xz,room 56 acc [y]=some (acc++[y]):=λy=>az_ (by simp only[qLc,qQ];omega) (by simp only[qLc,qQ];omega)
   rw[G,←e];unfold bump;cases p:(x.Op_==6)with
   | true=>simp only[jM,qW,qBs,p];rw[w64_up h.2.2.1 h.2.2.2,er];rfl
   | false =>
    cases J:(x.Op_==7)with
    | true=>simp only[zX,qW,qZ,qBs,p];rw[er];rfl
    | false=>simp only[zX,qZ,qBs,p];rw[er];rfl
  have:=rW_ D (A++[x]) (acc++[bump x]) f (by omega) (by simp only[qLa,qLc,qQ];omega) (by simp only[qLa,qLc,qQ];omega) (λy s=>q y (qG _ s));refine an_ j ?_;rw[this];simp
theorem pd_{s:tX}{i g:Nat}{C:tL Xz}{bad:Int}{a:Re}{x:Xz}{k:Int}(j:k=(C.length:Int))(q:C.length+a.len<=50000)(p:a.grps 100):cx_ (ps s i g (C++a.code C.length) bad) k x=some (ps s i g (C++x::a.code (C.length+1)) bad):=by
 subst j;have f:=e5_ a C.length (by omega) p;have h:=insert_go (a.code C.length) C BIG (by rw[aC_];unfold BIG;omega) (by rw[aC_];omega) f;unfold cx_;refine al_ h ?_;rw[eb_];have e:(insN (α:=Xz) 56) (C++a.code (C.length+1)) (C.length:Int) [x]=some (C++x::a.code (C.length+1)):=by
  unfold insN;simp only[qQ];rw[qL ⟨by omega,by rw[qLa];omega,by rw[qLa,aC_];omega⟩];simp
 rw[e];rfl
theorem n1_{i g:Int}{C:tL Xz}{bad:tV}{a:Re}{x:Xz}{k:Int}(j:k=(C.length:Int))(s:C.length+a.len<=50000)(p:a.grps 100):fk_ (Xv.mk (C++a.code C.length) i g bad) k x=some (Xv.mk (C++x::a.code (C.length+1)) i g bad):=by
 subst j;have f:=e5_ a C.length (by omega) p;have h:=rW_ (a.code C.length) C (C++[x]) BIG (by rw[aC_];unfold BIG;omega) (by rw[aC_];omega) (by rw[aC_];simp only[qLa,qLc,qQ];omega) f;unfold fk_;simp only[];rw[ax_ (by omega) (by omega) (by rw[qLa];omega)];simp only[qBs];have q:(C++a.code C.length).take (C.length:Int).toNat=C:=by simp
 rw[q,az_ (by simp only[qQ];omega) (by simp only[qQ];omega)];simp only[qBs,zy];rw[az_ (by simp only[qLc,qQ];omega) (by simp only[qLc,qQ];omega)];simp only[qBs];rw[h,eb_];simp
inductive PX where
 | err (e:Nat)|ok (a:Re) (q g:Nat)
inductive PK where
 | rx|br|pc|at
def PX.pre(a:Re):PX->PX | .err e => .err e | .ok b q g => .ok (.seq a b) q g
def post(s:tX)(a:Re)(q g:Nat):PX:=if s[q]? = some 42 then .ok (.star a) (q+1) g else if s[q]? = some 43 then .ok (.plus a) (q+1) g else if s[q]? = some 63 then .ok (.opt a) (q+1) g else .ok a q g
def clsR(g:Nat)(n:tV):SR->PX | .err e => .err e | .ok x q => .ok (.set x n) q g
def escR(g:Nat):CR->PX | .err e => .err e | .ok b q => .ok (.chr b) q g
def spec(c:UInt8):tV:=c==40||c==41||c==124||c==42||c==43||c==63||c==46||c==94||c==36||c==91||c==92
inductive RP(s:tX):PK->Nat->Nat->Nat->PX->Prop
 | stop {d i g} (h:s[i]? = none\/s[i]? = some 124\/(s[i]? = some 41/\0<d)):RP s .br d i g (.ok .emp i g)
 | par {i g} (h:s[i]? = some 41):RP s .br 0 i g (.err i)
 | bad {d i g c e} (h:s[i]? = some c) (h1:c≠124) (h2:c≠41) (hp:RP s .pc d i g (.err e)):RP s .br d i g (.err e)
 | next {d i g c a q g1 r} (h:s[i]? = some c) (h1:c≠124) (h2:c≠41) (hp:RP s .pc d i g (.ok a q g1)) (ht:RP s .br d q g1 r):RP s .br d i g (r.pre a)
 | pcbad {d i g e} (h:RP s .at d i g (.err e)):RP s .pc d i g (.err e)
 | pcok {d i g a q g1} (h:RP s .at d i g (.ok a q g1)):RP s .pc d i g (post s a q g1)
 | many {d i g} (h:s[i]? = some 40) (hg:9<=g):RP s .at d i g (.err i)
 | inner {d i g e} (h:s[i]? = some 40) (hg:g<9) (hr:RP s .rx (d+1) (i+1) (g+1) (.err e)):RP s .at d i g (.err e)
 | unc {d i g a q g1} (h:s[i]? = some 40) (hg:g<9) (hr:RP s .rx (d+1) (i+1) (g+1) (.ok a q g1)) (hc:s[q]? ≠ some 41):RP s .at d i g (.err q)
 | grp {d i g a q g1} (h:s[i]? = some 40) (hg:g<9) (hr:RP s .rx (d+1) (i+1) (g+1) (.ok a q g1)) (hc:s[q]? = some 41):RP s .at d i g (.ok (.grp (g+1) a) (q+1) g1)
 | sym {d i g c} (h:s[i]? = some c) (hc:c=42\/c=43\/c=63):RP s .at d i g (.err i)
 | any {d i g} (h:s[i]? = some 46):RP s .at d i g (.ok .any (i+1) g)
 | bol {d i g} (h:s[i]? = some 94):RP s .at d i g (.ok .bol (i+1) g)
 | eol {d i g} (h:s[i]? = some 36):RP s .at d i g (.ok .eol (i+1) g)
 | cls {d i g r} (h:s[i]? = some 91) (hc:Cx s (clsI s (i+1)) [] r):RP s .at d i g (clsR g (clsN s (i+1)) r)
 | esc {d i g} (h:s[i]? = some 92):RP s .at d i g (escR g (escS s i))
 | chr {d i g c} (h:s[i]? = some c) (hc:spec c=false):RP s .at d i g (.ok (.chr c) (i+1) g)
 | rxbad {d i g e} (h:RP s .br d i g (.err e)):RP s .rx d i g (.err e)
 | rxone {d i g a q g1} (h:RP s .br d i g (.ok a q g1)) (hq:s[q]? ≠ some 124):RP s .rx d i g (.ok a q g1)
 | rxerr {d i g a q g1 e} (h:RP s .br d i g (.ok a q g1)) (hq:s[q]? = some 124) (ht:RP s .rx d (q+1) g1 (.err e)):RP s .rx d i g (.err e)
 | rxalt {d i g a q g1 b q2 g2} (h:RP s .br d i g (.ok a q g1)) (hq:s[q]? = some 124) (ht:RP s .rx d (q+1) g1 (.ok b q2 g2)):RP s .rx d i g (.ok (.alt a b) q2 g2)
def PK.inc:PK->Nat | .rx=>0 | .br=>0 | .pc=>1 | .at=>1
def GoodP(s:tX)(k:PK)(i g:Nat):PX->Prop | .err _=>True | .ok a q g1=>i<=s.length->g<=9->i+k.inc<=q/\q<=s.length/\a.len<=2*(q-i)/\g<=g1/\g1<=9/\a.grps 100
theorem clsI_le(s:tX)(i:Nat)(h:i<=s.length):i<=clsI s i/\clsI s i<=s.length:=by
 unfold clsI;split
 .rename_i f;have:=aI_ f;omega
 .omega
theorem RP.good{s:tX}{k:PK}{d i g:Nat}{r:PX}(h:RP s k d i g r):GoodP s k i g r:=by
 induction h with
 | stop h=>exact λp f=>⟨by simp only[PK.inc];omega,p,by simp only[Re.len];omega,qE _,f,trivial⟩
 | par h=>trivial
 | bad h p f hp j=>trivial
 | @next d i g c a q g1 r h p f hp ht G F =>
  cases r with
  | err e=>trivial
  | ok b q2 g2 =>
   intro D a2;obtain⟨C,U,V,M,y,u⟩:=G D a2;obtain⟨c1,c2,c3,c4,c5,Z⟩:=F U y;simp only[PK.inc]at C c1;exact⟨by simp only[PK.inc];omega,c2,by simp only[Re.len];omega,by omega,c5,u,Z⟩
 | pcbad h j=>trivial
 | @pcok d i g a q g1 h j =>
  unfold post;split
  .rename_i J;have:=aI_ J;intro D a2;obtain⟨C,U,V,M,y,u⟩:=j D a2;simp only[PK.inc]at C;exact⟨by simp only[PK.inc];omega,by omega,by simp only[Re.len];omega,M,y,u⟩
  .split
   .rename_i J;have:=aI_ J;intro D a2;obtain⟨C,U,V,M,y,u⟩:=j D a2;simp only[PK.inc]at C;exact⟨by simp only[PK.inc];omega,by omega,by simp only[Re.len];omega,M,y,u⟩
   .split
    .rename_i J;have:=aI_ J;intro D a2;obtain⟨C,U,V,M,y,u⟩:=j D a2;simp only[PK.inc]at C;exact⟨by simp only[PK.inc];omega,by omega,by simp only[Re.len];omega,M,y,u⟩
    .exact j
 | many h Y=>trivial
 | inner h Y hr j=>trivial
 | unc h Y hr O j=>trivial
 | @grp d i g a q g1 h Y hr O j =>
  intro D a2;have p:=aI_ h;have f:=aI_ O;obtain⟨C,U,V,M,y,u⟩:=j (by omega) (by omega);simp only[PK.inc]at C;exact⟨by simp only[PK.inc];omega,by omega,by simp only[Re.len];omega,by omega,y,by omega,u⟩
 | sym h O=>trivial
 | any h=>have:=aI_ h;exact λp f=>⟨by simp only[PK.inc];omega,by omega,by simp only[Re.len];omega,qE _,f,trivial⟩
 | bol h=>have:=aI_ h;exact λp f=>⟨by simp only[PK.inc];omega,by omega,by simp only[Re.len];omega,qE _,f,trivial⟩
 | eol h=>have:=aI_ h;exact λp f=>⟨by simp only[PK.inc];omega,by omega,by simp only[Re.len];omega,qE _,f,trivial⟩
 | @cls d i g r h O =>
  have h0:=aI_ h;cases r with
  | err e=>trivial
  | ok x q =>
   intro p f;have:=O.len.2 x q rfl;have:=clsI_le s (i+1) (by omega);exact⟨by simp only[PK.inc];omega,by omega,by simp only[Re.len];omega,qE _,f,trivial⟩
 | @esc d i g h =>
  cases he:escS s i with
  | err e=>trivial
  | ok b q =>
   intro p f;have:=escS_len he;exact⟨by simp only[PK.inc];omega,by omega,by simp only[Re.len];omega,qE _,f,trivial⟩
 | chr h O=>have:=aI_ h;exact λp f=>⟨by simp only[PK.inc];omega,by omega,by simp only[Re.len];omega,qE _,f,trivial⟩
 | rxbad h j=>trivial
 | rxone h J j=>exact j
 | rxerr h J ht G F=>trivial
 | @rxalt d i g a q g1 b q2 g2 h J ht G F =>
  intro D a2;have p:=aI_ J;obtain⟨C,U,V,M,y,u⟩:=G D a2;obtain⟨c1,c2,c3,c4,c5,Z⟩:=F (by omega) y;simp only[PK.inc]at C c1;exact⟨by simp only[PK.inc];omega,c2,by simp only[Re.len];omega,by omega,c5,u,Z⟩
theorem RP.ex_at {s:tX} {i:Nat} (y:∀j,i<j->j<=s.length->∀d g,g<=9->∃r,RP s .rx d j g r) (d g:Nat) {c:UInt8} (h:s[i]? = some c) (G:c≠124) (F:c≠41):∃r,RP s .at d i g r:=by
 have C:=aI_ h;by_cases x:c=40
 .subst x;by_cases D:9<=g
  .exact⟨_,.many h D⟩
  .obtain⟨r,hr⟩:=y (i+1) (by omega) (by omega) (d+1) (g+1) (by omega);cases r with
   | err e=>exact⟨_,.inner h (by omega) hr⟩
   | ok a q g1 =>
    by_cases f:s[q]? = some 41
    .exact⟨_,.grp h (by omega) hr f⟩
    .exact⟨_,.unc h (by omega) hr f⟩
 .by_cases a2:c=42\/c=43\/c=63
  .exact⟨_,.sym h a2⟩
  .by_cases a3:c=46
   .subst a3;exact⟨_,.any h⟩
   .by_cases a4:c=94
    .subst a4;exact⟨_,.bol h⟩
    .by_cases a5:c=36
     .subst a5;exact⟨_,.eol h⟩
     .by_cases u:c=91
      .subst u;obtain⟨r,hr⟩:=Cx.ex _ (clsI s (i+1)) [] (qE _) (clsI_le s (i+1) (by omega)).2;exact⟨_,.cls h hr⟩
      .by_cases p:c=92
       .subst p;exact⟨_,.esc h⟩
       .refine⟨_,.chr h ?_⟩;simp only[not_or]at a2;unfold spec;simp only[zS,qX];exact⟨⟨⟨⟨⟨⟨⟨⟨⟨⟨x,F⟩,G⟩,a2.1⟩,a2.2.1⟩,a2.2.2⟩,a3⟩,a4⟩,a5⟩,u⟩,p⟩
theorem RP.ex{s:tX}:∀(k i:Nat),s.length-i<k->i<=s.length->(∀d g,g<=9->∃r,RP s .br d i g r)/\∀d g,g<=9->∃r,RP s .rx d i g r:=by
 intro k
 induction k with
 | zero=>exact λi h=>absurd h (Nat.not_lt_zero _)
 | succ k D =>
  intro i V hi
  have u:∀d g,g<=9->∃r,RP s .br d i g r:=by
   intro d g C;cases h:s[i]? with
   | none=>exact⟨_,.stop (.inl h)⟩
   | some c =>
    have M:=aI_ h;by_cases p:c=124
    .subst p;exact⟨_,.stop (.inr (.inl h))⟩
    .by_cases x:c=41
     .subst x;rcases zA d with rfl|O
      .exact⟨_,.par h⟩
      .exact⟨_,.stop (.inr (.inr ⟨h,O⟩))⟩
     .obtain⟨r,hr⟩:=RP.ex_at (λj Y G=>(D j (by omega) G).2) d g h p x;have F:∃r,RP s .pc d i g r:=by
       cases r with
       | err e=>exact⟨_,.pcbad hr⟩
       | ok a q g1=>exact⟨_,.pcok hr⟩
      obtain⟨r,hr⟩:=F;cases r with
      | err e=>exact⟨_,.bad h p x hr⟩
      | ok a q g1 =>
       have:=hr.good hi C;simp only[PK.inc]at this;obtain⟨J,f⟩:=(D q (by omega) (by omega)).1 d g1 (by omega);exact⟨_,.next h p x hr f⟩
  refine⟨u,λd g C => ?_⟩;obtain⟨r,hr⟩:=u d g C;cases r with
  | err e=>exact⟨_,.rxbad hr⟩
  | ok a q g1 =>
   by_cases y:s[q]? = some 124
   .have p:=hr.good hi C;have x:=aI_ y;simp only[PK.inc]at p;obtain⟨J,f⟩:=(D (q+1) (by omega) (by omega)).2 d g1 (by omega);cases J with
    | err e=>exact⟨_,.rxerr hr y f⟩
    | ok b U Z=>exact⟨_,.rxalt hr y f⟩
   .exact⟨_,.rxone hr y⟩
theorem RP.ends{s:tX}{k:PK}{d i g:Nat}{r:PX}(h:RP s k d i g r):d=0->∀a q g1,r = .ok a q g1->(k = .rx->s[q]? = none)/\(k = .br->s[q]? = none\/s[q]? = some 124):=by
 induction h with
 | stop h =>
  intro j a q g1 e;injection e with _ e _;subst e;refine⟨λe=>(by cases e),λ_ => ?_⟩;rcases h with h|h|h
  .exact .inl h
  .exact .inr h
  .omega
 | @next d i g c a q g1 r h O M J D u f =>
  intro j Y G g' e;cases r with
  | err V=>cases e
  | ok b F U =>
   injection e with _ p y;subst p;exact⟨λe=>(by cases e),λe=>(f j _ _ _ rfl).2 e⟩
 | rxone h x C =>
  intro j a q g1 e;injection e with _ p y;subst p;exact⟨λ_=>((C j _ _ _ rfl).2 rfl).resolve_right x,λe=>(by cases e)⟩
 | rxalt h x D u f =>
  intro j a q g1 e;injection e with _ p y;subst p;exact⟨λe=>(f j _ _ _ rfl).1 e,λe=>(by cases e)⟩
 | _=>intro j a q g1 e;first|(cases e;done)|exact⟨λe=>(by cases e),λe=>(by cases e)⟩
theorem ej_{s:tX}{i g:Nat}{C:tL Xz}{bad:Int}{x:Xz}(h:C.length<=100000):aA_ (ps s i g C bad) x=some ((C.length:Int),ps s i g (C++[x]) bad):=by
 unfold aA_ ps;simp only[];rw[az_ (by simp only[qLc,qQ];omega) (by simp only[qLc,qQ];omega)];simp only[qBs];rw[ar_ ⟨by simp only[qLa,qLc,qQ];omega,by simp only[qLa,qLc,qQ];omega⟩,show((C++[x]).length:Int)-1=(C.length:Int)by simp only[qLa,qLc,qQ];omega]
def ResP(s:tX)(C:tL Xz)(bad:Int)(o:tO (tV×regex_parser)):PX->Prop | .err e=>∃p,o=some (false,p)/\p.bad_=(e:Int) | .ok a q g=>o=some (true,ps s q g (C++a.code C.length) bad)
def ResO(s:tX)(C:tL Xz)(bad:Int)(o:tO (Out Unit (tV×regex_parser))):PX->Prop | .err e=>∃p,o=some (.ret (false,p))/\p.bad_=(e:Int) | .ok a q g=>o=some (.ret (true,ps s q g (C++a.code C.length) bad))
def GoP(s:tX)(k:PK)(d i g:Nat)(r:PX):Prop:=s.length<=1000->i<=s.length->g<=9->d<=i->∀(C:tL Xz) (bad:Int) (n:Nat),C.length+2*(s.length-i)<=5000->match k with | .rx=>s.length-i<n->ResP s C bad (ak_ n (ps s i g C bad) (d:Int)) r | .br=>s.length-i<=n->∀f,s.length-i<f->ResO s C bad (af_ (bA_ (d:Int) (ak_ n)) f (s,(i:Int),(g:Int),bad,C)) r | .pc=>s.length-i<=n->(∃c,s[i]? = some c)->ResP s C bad (bz_ (ak_ n) (ps s i g C bad) (d:Int)) r | .at=>s.length-i<=n->(∃c,s[i]? = some c)->ResP s C bad (aD_ (ak_ n) (ps s i g C bad) (d:Int)) r
theorem peek_loop{s:tX}{i g:Nat}{C:tL Xz}{bad:Int}:regex_parser.mk (s,(i:Int),(g:Int),bad,C).1 (s,(i:Int),(g:Int),bad,C).2.1 (s,(i:Int),(g:Int),bad,C).2.2.1 (s,(i:Int),(g:Int),bad,C).2.2.2.2 (s,(i:Int),(g:Int),bad,C).2.2.2.1=ps s i g C bad:=rfl
theorem decide_dp{d:Nat}:decide ((d:Int)>0)=decide (0<d):=by
 by_cases h:0<d
 .rw[qK h,qK (by omega)]
 .rw[qV h,qV (by omega)]
theorem br_more{s:tX}{d i g n:Nat}{C:tL Xz}{bad:Int}{c:UInt8}(h:s[i]? = some c)(q:c≠124)(f:c≠41\/d=0):bA_ (d:Int) (ak_ n) (s,(i:Int),(g:Int),bad,C)=(bz_ (ak_ n) (ps s i g C bad) (d:Int)).bind λy4=>(bif(!y4.1)then some (.done (.ret (false,y4.2)))else some (.next (y4.2.s_,y4.2.at_,y4.2.groups_,y4.2.bad_,y4.2.code_))):=by
 unfold bA_;rw[peek_loop,cd_ h];simp only[qBs,qN,zX];have p:((c.toNat:Int)==124)=(c==124):=aV_ c 124;have j:((c.toNat:Int)==41)=(c==41):=aV_ c 41;rw[p,j,qX.2 q,decide_dp];have:(c==41&&decide (0<d))=false:=by
  rcases f with f|f
  .rw[qX.2 f];rfl
  .subst f;simp
 rw[this];rfl
theorem go_stop{s:tX}{d i g:Nat}(h:s[i]? = none\/s[i]? = some 124\/(s[i]? = some 41/\0<d)):GoP s .br d i g (.ok .emp i g):=by
 intro p hi u j C bad n y q f x;obtain⟨f,rfl⟩:∃k,f=k+1:=⟨f-1,by omega⟩;show _=_;rw[show C++Re.emp.code C.length=C from zP C];refine aj_ ?_;unfold bA_;rw[peek_loop];rcases h with h|h|⟨h,j⟩
 .rw[mi_ h];rfl
 .rw[cd_ h];rfl
 .rw[cd_ h];simp only[qBs];rw[decide_dp,qK j];rfl
theorem go_bad{s:tX}{d i g e:Nat}{c:UInt8}(h:s[i]? = some c)(M:c≠124)(J:c≠41)(j:GoP s .pc d i g (.err e)):GoP s .br d i g (.err e):=by
 intro q hi y D C bad n G x f O;obtain⟨f,rfl⟩:∃k,f=k+1:=⟨f-1,by omega⟩;obtain⟨p,u,F⟩:=j q hi y D C bad n G x ⟨c,h⟩;refine⟨p,aj_ ?_,F⟩;rw[br_more h M (.inl J),u];rfl
theorem go_next{s:tX}{d i g q g1:Nat}{c:UInt8}{a:Re}{r:PX}(h:s[i]? = some c)(h1:c≠124)(h2:c≠41)(O:RP s .pc d i g (.ok a q g1))(M:GoP s .pc d i g (.ok a q g1))(D:GoP s .br d q g1 r):GoP s .br d i g (r.pre a):=by
 intro G hi J V C bad n Z U f hf;obtain⟨f,rfl⟩:∃k,f=k+1:=⟨f-1,by omega⟩;have u:=O.good hi J;simp only[PK.inc]at u;have j:(C++a.code C.length).length=C.length+a.len:=by rw[qLa,aC_]
 have F:_=_:=M G hi J V C bad n Z U ⟨c,h⟩;have y:=D G (by omega) (by omega) (by omega) (C++a.code C.length) bad n (by rw[j];omega) (by omega) f (by omega);have x:bA_ (d:Int) (ak_ n) (s,(i:Int),(g:Int),bad,C)=some (.next (s,(q:Int),(g1:Int),bad,C++a.code C.length)):=by
  rw[br_more h h1 (.inl h2),F];rfl
 cases r with
 | err e =>
  obtain⟨p,F,Y⟩:=y;exact⟨p,an_ x F,Y⟩
 | ok b q2 g2 =>
  have y:_=_:=y;show _=_;refine an_ x ?_;rw[y];simp only[Re.code];rw[j,qS]
theorem go_par{s:tX}{i g:Nat}(h:s[i]? = some 41):GoP s .br 0 i g (.err i):=by
 intro j hi q x C bad n y p f u;obtain⟨f,rfl⟩:∃k,f=k+1:=⟨f-1,by omega⟩;refine⟨ps s i g C (i:Int),aj_ ?_,rfl⟩;rw[br_more h (by decide) (.inr rfl)];have:bz_ (ak_ n) (ps s i g C bad) ((0:Nat):Int)=some (false,ps s i g C (i:Int)):=by
  unfold bz_ aD_;rw[cd_ h];rfl
 rw[this];rfl
theorem go_pcbad{s:tX}{d i g e:Nat}(f:GoP s .at d i g (.err e)):GoP s .pc d i g (.err e):=by
 intro h hi u x C bad n F q y;obtain⟨p,j,D⟩:=f h hi u x C bad n F q y;refine⟨p,?_,D⟩;unfold bz_;rw[j];rfl
theorem next_t{s:tX}{i g:Nat}{C:tL Xz}{bad:Int}(f:s.length<=1000){c:UInt8}{k:Int}(j:k=(c.toNat:Int))(h:s[i]? = some c):aS_ (ps s i g C bad) k=some (true,ps s (i+1) g C bad):=by
 rw[jw_ f j,qL h]
theorem next_f{s:tX}{i g:Nat}{C:tL Xz}{bad:Int}(f:s.length<=1000){c:UInt8}{k:Int}(j:k=(c.toNat:Int))(h:s[i]? ≠ some c):aS_ (ps s i g C bad) k=some (false,ps s i g C bad):=by
 rw[jw_ f j,qP h]
theorem iD_(s:tX)(i g:Nat)(C:tL Xz)(bad:Int):(ps s i g C bad).code_=C:=rfl
theorem pg_(s:tX)(i g:Nat)(C:tL Xz)(bad:Int):(ps s i g C bad).groups_=(g:Int):=rfl
theorem gB_(n:Nat):((n:Nat):Int).toNat=n:=rfl
theorem go_pcok{s:tX}{d i g q g1:Nat}{a:Re}(M:RP s .at d i g (.ok a q g1))(J:GoP s .at d i g (.ok a q g1)):GoP s .pc d i g (post s a q g1):=by
 intro x hi G V C bad n Z U Y;have f:=M.good hi G;simp only[PK.inc]at f;have O:_=_:=J x hi G V C bad n Z U Y;have F:(a.code C.length).length=a.len:=aC_ a _;have h:(a.code (C.length+1)).length=a.len:=aC_ a _;have D:w64 ((C.length:Int)+1)=((C.length+1:Nat):Int):=ai_ (by omega);show ResP s C bad (bz_ (ak_ n) (ps s i g C bad) (d:Int)) (post s a q g1);unfold bz_;rw[O];simp only[qBs,qN,qZ,iD_];unfold post;by_cases u:s[q]? = some 42
 .rw[qL u,next_t x (c:=42) (k:=42) rfl u];simp only[qBs,qW];rw[pd_ rfl (by omega) f.2.2.2.2.2];simp only[qBs];rw[ej_ (by simp only[qLa,qLc];omega)];simp only[qBs,iD_];rw[qS,qc,dm_ rfl];simp only[qBs];rw[ei_ (gB_ _)];show _=_;simp only[Re.code];have y:(((C++Xz.mk 6 0 [] false (w64 ((C.length:Int)+1)) 0::(a.code (C.length+1)++[Xz.mk 7 0 [] false (C.length:Int) 0])).length:Nat):Int)=((C.length+a.len+2:Nat):Int):=by
   simp only[qLa,qLc,qQ,h];omega
  rw[y,D];rfl
 .rw [qP u,next_f x (c:=42) (k:=42) rfl u];simp only[qBs,qZ];by_cases p:s[q]? = some 43
  .rw[qL p,next_t x (c:=43) (k:=43) rfl p];simp only[qBs,qW];rw[ej_ (by simp only[qLa];omega)];simp only[qBs,iD_];rw[dm_ rfl];simp only[qBs];rw[ei_ (gB_ _)];show _=_;simp only[Re.code];have y:w64 (((C++a.code C.length).length:Int)+1)=((C.length+a.len+1:Nat):Int):=by
    rw[ar_ ⟨by omega,by simp only[qLa];omega⟩];simp only[qLa];omega
   rw[y,←qS];rfl
  .rw[qP p,next_f x (c:=43) (k:=43) rfl p];simp only[qBs,qZ];by_cases j:s[q]? = some 63
   .rw[qL j,next_t x (c:=63) (k:=63) rfl j];simp only[qBs,qW];rw[pd_ rfl (by omega) f.2.2.2.2.2];simp only[qBs,iD_];rw[dm_ rfl];simp only[qBs];rw[ei_ (gB_ _)];show _=_;simp only[Re.code];have y:(((C++Xz.mk 6 0 [] false (w64 ((C.length:Int)+1)) 0::a.code (C.length+1)).length:Nat):Int)=((C.length+a.len+1:Nat):Int):=by
     simp only[qLa,qLc,h];omega
    rw[y,D];rfl
   .rw[qP j,next_f x (c:=63) (k:=63) rfl j];rfl
theorem go_many{s:tX}{d i g:Nat}(h:s[i]? = some 40)(f:9<=g):GoP s .at d i g (.err i):=by
 intro j hi q u C bad n y p x;refine⟨ps s i g C (i:Int),?_,rfl⟩;unfold aD_;rw[cd_ h];simp only[qBs,qN,qZ];rw[show(((40:UInt8).toNat:Int)==40)=true from rfl,qW];unfold b1_;rw[pg_,qK (by omega),qW];rfl
theorem n2_{s:tX}{d i g n:Nat}{C:tL Xz}{bad:Int}(j:i<s.length)(x:s.length<=1000)(y:g<9)(D:d<=i)(F:C.length<=5000) :
  b1_ (ak_ n) (ps s i g C bad) (d:Int)=(ak_ n (ps s (i+1) (g+1) (C++[aU_ (2*(g+1))]) bad) ((d+1:Nat):Int)).bind λf =>
  (bif(!f.1)then
   some (false,f.2)
  else
   (aS_ f.2 41).bind λy4 =>
   (bif(!y4.1)then
    (bj_ y4.2).bind λy5 =>
    some (y5.1,y5.2)
   else
    Option.bind (aA_ y4.2 (aU_ (2*(g+1)+1))) λ(h:Int×regex_parser) =>
    some (true,h.2))):=by
 unfold b1_;rw[pg_,qV (by omega),qZ];have u:regex_parser.mk (ps s i g C bad).s_ (w64 ((ps s i g C bad).at_+1)) (w64 ((g:Int)+1)) (ps s i g C bad).code_ (ps s i g C bad).bad_=ps s (i+1) (g+1) C bad:=by
  unfold ps;simp only[];rw[ai_ (by omega),ai_ (by omega)]
 have q:w64 (2*(w64 ((g:Int)+1)))=((2*(g+1):Nat):Int):=by
  rw[ai_ (by omega),ar_ ⟨by omega,by omega⟩];omega
 have p:w64 (((2*(g+1):Nat):Int)+1)=((2*(g+1)+1:Nat):Int):=ai_ (by omega);rw[u,q,p,ej_ (by omega)];simp only[qBs];rw[ai_ (by omega)];rfl
theorem ph_{s:tX}{d i g n:Nat}{C:tL Xz}{bad:Int}(h:s[i]? = some 40):aD_ (ak_ n) (ps s i g C bad) (d:Int)=(b1_ (ak_ n) (ps s i g C bad) (d:Int)).bind λy=>some (y.1,y.2):=by
 unfold aD_;rw[cd_ h];simp only[qBs,qN,qZ];rw[show(((40:UInt8).toNat:Int)==40)=true from rfl,qW];cases b1_ (ak_ n) (ps s i g C bad) (d:Int)<;>rfl
theorem go_inner{s:tX}{d i g e:Nat}(h:s[i]? = some 40)(j:g<9)(u:GoP s .rx (d+1) (i+1) (g+1) (.err e)):GoP s .at d i g (.err e):=by
 intro q hi G y C bad n M F J;have f:=aI_ h;obtain⟨p,x,D⟩:=u q (by omega) (by omega) (by omega) (C++[aU_ (2*(g+1))]) bad n (by simp only[qLa,qLc,qQ];omega) (by omega);refine⟨p,?_,D⟩;rw[ph_ h,n2_ f q j y (by omega),x];rfl
theorem go_unc{s:tX}{d i g q g1:Nat}{a:Re}(h:s[i]? = some 40)(p:g<9)(u:GoP s .rx (d+1) (i+1) (g+1) (.ok a q g1))(D:s[q]? ≠ some 41):GoP s .at d i g (.err q):=by
 intro f hi G y C bad n J F _;have j:=aI_ h;have x:_=_:=u f (by omega) (by omega) (by omega) (C++[aU_ (2*(g+1))]) bad n (by simp only[qLa,qLc,qQ];omega) (by omega);refine⟨ps s q g1 ((C++[aU_ (2*(g+1))])++a.code (C++[aU_ (2*(g+1))]).length) (q:Int),?_,rfl⟩;rw[ph_ h,n2_ j f p y (by omega),x];simp only[qBs,qN,qZ];rw[next_f f (c:=41) (k:=41) rfl D];rfl
theorem go_grp{s:tX}{d i g q g1:Nat}{a:Re}(h:s[i]? = some 40)(u:g<9)(hr:RP s .rx (d+1) (i+1) (g+1) (.ok a q g1))(x:GoP s .rx (d+1) (i+1) (g+1) (.ok a q g1))(F:s[q]? = some 41):GoP s .at d i g (.ok (.grp (g+1) a) (q+1) g1):=by
 intro j hi J D C bad n M G _;have p:=aI_ h;have f:=hr.good (by omega) (by omega);simp only[PK.inc]at f;have y:_=_:=x j (by omega) (by omega) (by omega) (C++[aU_ (2*(g+1))]) bad n (by simp only[qLa,qLc,qQ];omega) (by omega);show _=_;rw[ph_ h,n2_ p j u D (by omega),y];simp only[qBs,qN,qZ];rw[next_t j (c:=41) (k:=41) rfl F];simp only[qBs,qN,qZ];rw[ej_ (by simp only[qLa,qLc,qQ,aC_];omega)];simp only[qBs,Re.code];rw[show(C++[aU_ (2*(g+1))]).length=C.length+1 from by simp,qS,qS,List.singleton_append]
theorem go_sym{s:tX}{d i g:Nat}{c:UInt8}(h:s[i]? = some c)(f:c=42\/c=43\/c=63):GoP s .at d i g (.err i):=by
 intro j hi q u C bad n x p _;refine⟨ps s i g C (i:Int),?_,rfl⟩;unfold aD_;rw[cd_ h];rcases f with rfl|rfl|rfl<;>rfl
theorem n3_{s:tX}{i g:Nat}{C:tL Xz}{bad:Int}(f:i<9000000):some (true,regex_parser.mk s (w64 ((i:Int)+1)) (g:Int) C bad)=some (true,ps s (i+1) g C bad):=by
 rw[ai_ (by omega)];rfl
theorem go_any{s:tX}{d i g:Nat}(h:s[i]? = some 46):GoP s .at d i g (.ok .any (i+1) g):=by
 intro f hi p q C bad n u j _;show _=_;unfold aD_;rw[cd_ h];simp only[qBs,qN,qZ];rw[ej_ (x:=Xz.mk 2 0 [] false 0 0) (by omega)];exact n3_ (by omega)
theorem go_bol{s:tX}{d i g:Nat}(h:s[i]? = some 94):GoP s .at d i g (.ok .bol (i+1) g):=by
 intro f hi p q C bad n u j _;show _=_;unfold aD_;rw[cd_ h];simp only[qBs,qN,qZ];rw[ej_ (x:=Xz.mk 4 0 [] false 0 0) (by omega)];exact n3_ (by omega)
theorem go_eol{s:tX}{d i g:Nat}(h:s[i]? = some 36):GoP s .at d i g (.ok .eol (i+1) g):=by
 intro f hi p q C bad n u j _;show _=_;unfold aD_;rw[cd_ h];simp only[qBs,qN,qZ];rw[ej_ (x:=Xz.mk 5 0 [] false 0 0) (by omega)];exact n3_ (by omega)
theorem go_cls{s:tX}{d i g:Nat}{r:SR}(h:s[i]? = some 91)(j:Cx s (clsI s (i+1)) [] r):GoP s .at d i g (clsR g (clsN s (i+1)) r):=by
 intro f hi D F C bad n G y _;have u:regex_parser.mk (ps s i g C bad).s_ (w64 ((ps s i g C bad).at_+1)) (ps s i g C bad).groups_ (ps s i g C bad).code_ (ps s i g C bad).bad_=ps s (i+1) g C bad:=by
  unfold ps;simp only[];rw[ai_ (by omega)]
 have p:aD_ (ak_ n) (ps s i g C bad) (d:Int)=some (clsP s g C bad (clsN s (i+1)) r):=by
  unfold aD_;rw[cd_ h];simp only[qBs,qN,qZ];rw[u,class_eq f (by omega) j];rfl
 show ResP s C bad (aD_ (ak_ n) (ps s i g C bad) (d:Int)) _;rw[p];cases r with
 | err e=>exact⟨_,rfl,rfl⟩
 | ok x q=>rfl
theorem go_esc{s:tX}{d i g:Nat}(h:s[i]? = some 92):GoP s .at d i g (escR g (escS s i)):=by
 intro j hi u y C bad n D p _;have f:=aI_ h;show ResP s C bad (aD_ (ak_ n) (ps s i g C bad) (d:Int)) _;unfold aD_;rw[cd_ h];simp only[qBs,qN,qZ];rw[rT_ j f];cases escS s i with
 | err e=>exact⟨_,rfl,rfl⟩
 | ok b q =>
  simp only[qBs,qN,qZ];rw[ej_ (i:=q) (x:=Xz.mk 1 (b.toNat:Int) [] false 0 0) (by omega)];rfl
theorem go_chr{s:tX}{d i g:Nat}{c:UInt8}(h:s[i]? = some c)(f:spec c=false):GoP s .at d i g (.ok (.chr c) (i+1) g):=by
 intro G hi M O C bad n U J _;show _=_;unfold spec at f;simp only[zS]at f;obtain⟨⟨⟨⟨⟨⟨⟨⟨⟨⟨F,a2⟩,a3⟩,a4⟩,a5⟩,D⟩,y⟩,x⟩,a9⟩,p⟩,j⟩:=f;have k (m:UInt8) (z:Int) (q:z=(m.toNat:Int)) (u:(c==m)=false):((c.toNat:Int)==z)=false:=by
  subst q;rw[←u];exact aV_ c m
 unfold aD_;rw[cd_ h];simp only[qBs,qN,qZ];rw[k 40 40 rfl F,k 41 41 rfl a2,k 42 42 rfl a4,k 43 43 rfl a5,k 63 63 rfl D,k 46 46 rfl y,k 94 94 rfl x,k 36 36 rfl a9,k 91 91 rfl p,k 92 92 rfl j];simp only[qZ,qBs];rw[ej_ (by omega)];exact n3_ (by omega)
theorem n4_{s:tX}{d i g n:Nat}{C:tL Xz}{bad:Int}{r:PX}(h:ResO s C bad (af_ (bA_ (d:Int) (ak_ n)) BIG (s,(i:Int),(g:Int),bad,C)) r):ResP s C bad (cP_ (ak_ n) (ps s i g C bad) (d:Int)) r:=by
 have e:cP_ (ak_ n) (ps s i g C bad) (d:Int)=(af_ (bA_ (d:Int) (ak_ n)) BIG (s,(i:Int),(g:Int),bad,C)).bind λf=>match f with
  | .ret j=>some j
  | .fall _=>none:=rfl
 rw[e];cases r with
 | err e =>
  obtain⟨p,u,x⟩:=h;rw[u];exact⟨p,rfl,x⟩
 | ok a q g1 =>
  have h:_=_:=h;rw[h];rfl
theorem regex_S{n:Nat}{p:regex_parser}{d:Int}:ak_ (n+1) p d=cr_ (ak_ n) p d:=rfl
theorem go_rxbad{s:tX}{d i g e:Nat}(f:GoP s .br d i g (.err e)):GoP s .rx d i g (.err e):=by
 intro h hi q u C bad n y D;obtain⟨n,rfl⟩:∃k,n=k+1:=⟨n-1,by omega⟩;obtain⟨p,j,x⟩:=n4_ (f h hi q u C bad n y (by omega) BIG (by unfold BIG;omega));refine⟨p,?_,x⟩;rw[regex_S];unfold cr_;rw[j];rfl
theorem go_rxone{s:tX}{d i g q g1:Nat}{a:Re}(h:GoP s .br d i g (.ok a q g1))(j:s[q]? ≠ some 124):GoP s .rx d i g (.ok a q g1):=by
 intro f hi u x C bad n y D;obtain⟨n,rfl⟩:∃k,n=k+1:=⟨n-1,by omega⟩;have p:_=_:=n4_ (h f hi u x C bad n y (by omega) BIG (by unfold BIG;omega));show _=_;rw[regex_S];unfold cr_;rw[p];simp only[qBs,qN,qZ];rw[next_f f (c:=124) (k:=124) rfl j];rfl
theorem rx_step{s:tX}{d i g q g1 n:Nat}{a:Re}{C:tL Xz}{bad:Int}(u:s.length<=1000)(F:C.length+a.len<=20000)(j:a.grps 100)
  (y:cP_ (ak_ n) (ps s i g C bad) (d:Int)=some (true,ps s q g1 (C++a.code C.length) bad)) (x:s[q]? = some 124) :
  ak_ (n+1) (ps s i g C bad) (d:Int)=(ak_ n (ps s (q+1) g1 (C++(bF_ (C.length+1) (C.length+a.len+2)::(a.code (C.length+1)++[cX_ 0]))) bad) (d:Int)).bind λf =>
   (bif(!f.1)then
    some (false,f.2)
   else
    (ah_ f.2.code_ ((C.length+a.len+1:Nat):Int)).bind λp =>
    some (true,(regex_parser.mk f.2.s_ f.2.at_ f.2.groups_ (f.2.code_.set (C.length+a.len+1) {p with X_:=(f.2.code_.length:Int)}) f.2.bad_))):=by
 have h:(a.code (C.length+1)).length=a.len:=aC_ a _;rw[regex_S];unfold cr_;rw[y];simp only[qBs,qN,qZ,iD_];rw[next_t u (c:=124) (k:=124) rfl x];simp only[qBs,qN,qZ];rw[pd_ rfl (by omega) j];simp only[qBs];rw[ej_ (by simp only[qLa,qLc];omega)];simp only[qBs,iD_];have D:(C++Xz.mk 6 0 [] false (w64 ((C.length:Int)+1)) 0::a.code (C.length+1)).length=C.length+a.len+1:=by
  simp only[qLa,qLc,h];omega
 rw[D,qS,qc,dm_ rfl];simp only[qBs];rw[ei_ (gB_ _),ai_ (i:=C.length) (by omega),ai_ (by omega)];rfl
theorem go_rxerr{s:tX}{d i g q g1 e:Nat}{a:Re}(h:RP s .br d i g (.ok a q g1))(y:s[q]? = some 124)(F:GoP s .br d i g (.ok a q g1))(j:GoP s .rx d (q+1) g1 (.err e)):GoP s .rx d i g (.err e):=by
 intro u hi D M C bad n U V;obtain⟨n,rfl⟩:∃k,n=k+1:=⟨n-1,by omega⟩;have f:=h.good hi D;simp only[PK.inc]at f;have J:=aI_ y;have G:_=_:=n4_ (F u hi D M C bad n U (by omega) BIG (by unfold BIG;omega));obtain⟨p,x,O⟩:=j u (by omega) (by omega) (by omega) (C++(bF_ (C.length+1) (C.length+a.len+2)::(a.code (C.length+1)++[cX_ 0]))) bad n (by simp only[qLa,qLc,qQ,aC_];omega) (by omega);refine⟨p,?_,O⟩;rw[rx_step u (by omega) f.2.2.2.2.2 G y,x];rfl
theorem go_rxalt{s:tX}{d i g q g1 D J:Nat}{a b:Re}(h:RP s .br d i g (.ok a q g1))(F:s[q]? = some 124)(M:GoP s .br d i g (.ok a q g1))(u:GoP s .rx d (q+1) g1 (.ok b D J)):GoP s .rx d i g (.ok (.alt a b) D J):=by
 intro x hi G Y C bad n Z hn;obtain⟨n,rfl⟩:∃k,n=k+1:=⟨n-1,by omega⟩;have j:=h.good hi G;simp only[PK.inc]at j;have U:=aI_ F;have O:_=_:=n4_ (M x hi G Y C bad n Z (by omega) BIG (by unfold BIG;omega));have y:_=_:=u x (by omega) (by omega) (by omega) (C++(bF_ (C.length+1) (C.length+a.len+2)::(a.code (C.length+1)++[cX_ 0]))) bad n (by simp only[qLa,qLc,qQ,aC_];omega) (by omega);show _=_;rw[rx_step x (by omega) j.2.2.2.2.2 O F,y];have f:(a.code (C.length+1)).length=a.len:=aC_ a _;simp only[qBs,qN,qZ,iD_];have V:(C++(bF_ (C.length+1) (C.length+a.len+2)::(a.code (C.length+1)++[cX_ 0]))).length=C.length+a.len+2:=by
  simp only[qLa,qLc,qQ,f];omega
 have p:(C++(bF_ (C.length+1) (C.length+a.len+2)::a.code (C.length+1))).length=C.length+a.len+1:=by
  simp only[qLa,qLc,f];omega
 rw[V];have e1:(C++(bF_ (C.length+1) (C.length+a.len+2)::(a.code (C.length+1)++[cX_ 0])))++b.code (C.length+a.len+2)=(C++(bF_ (C.length+1) (C.length+a.len+2)::a.code (C.length+1)))++cX_ 0::b.code (C.length+a.len+2):=by simp
 rw[e1,dm_ (by rw[p])];simp only[qBs];rw[ei_ p.symm];have e2:(((C++(bF_ (C.length+1) (C.length+a.len+2)::a.code (C.length+1)))++cX_ 0::b.code (C.length+a.len+2)).length:Int)=((C.length+a.len+b.len+2:Nat):Int):=by
  rw[qLa,p];simp only[qLc,aC_];omega
 rw[e2];simp only[Re.code,qS,qc];rfl
theorem RP.go{s:tX}{k:PK}{d i g:Nat}{r:PX}(h:RP s k d i g r):GoP s k d i g r:=by
 induction h with
 | stop h=>exact go_stop h
 | par h=>exact go_par h
 | bad h C y F f=>exact go_bad h C y f
 | next h C y F D p j=>exact go_next h C y F p j
 | pcbad h f=>exact go_pcbad f
 | pcok h f=>exact go_pcok h f
 | many h u=>exact go_many h u
 | inner h u hr f=>exact go_inner h u f
 | unc h u hr q f=>exact go_unc h u f q
 | grp h u hr q f=>exact go_grp h u hr f q
 | sym h q=>exact go_sym h q
 | any h=>exact go_any h
 | bol h=>exact go_bol h
 | eol h=>exact go_eol h
 | cls h q=>exact go_cls h q
 | esc h=>exact go_esc h
 | chr h q=>exact go_chr h q
 | rxbad h f=>exact go_rxbad f
 | rxone h x f=>exact go_rxone f x
 | rxerr h x D p j=>exact go_rxerr h x p j
 | rxalt h x D p j=>exact go_rxalt h x p j
def rp(C:tL Xz)(i g:Nat)(b:tV):Xv:=Xv.mk C (i:Int) (g:Int) b
theorem rpE(C:tL Xz)(i g:Nat)(b:tV):Xv.mk C (i:Int) (g:Int) b=rp C i g b:=rfl
theorem nd_{s:tX}{p:Xv}(h:p.Yv=true)(k:Int):b4_ s p k=some (false,p):=by
 unfold b4_;rw[h];rfl
theorem is_eq{s:tX}{C:tL Xz}{i g:Nat}{c:UInt8}{k:Int}(f:k=(c.toNat:Int)):b4_ s (rp C i g false) k=some (decide (s[i]? = some c),rp C i g false):=by
 subst f;unfold b4_ rp;simp only[qf,qm];by_cases hi:i<s.length
 .rw[qK (by omega),qW,aJ_ hi];simp only[qBs];rw[aV_,qY hi];by_cases h:s[i]=c
  .rw[qn.2 h,qK (by rw[h])]
  .rw[qX.2 h,qV (λe=>h (qSj e))]
 .rw[qV (by omega),qZ,qe (by omega)];rfl
theorem is_t{s:tX}{C:tL Xz}{i g:Nat}{c:UInt8}{k:Int}(f:k=(c.toNat:Int))(h:s[i]? = some c):b4_ s (rp C i g false) k=some (true,rp C i g false):=by
 rw[is_eq f,qK h]
theorem is_f{s:tX}{C:tL Xz}{i g:Nat}{c:UInt8}{k:Int}(f:k=(c.toNat:Int))(h:s[i]? ≠ some c):b4_ s (rp C i g false) k=some (false,rp C i g false):=by
 rw[is_eq f,qV h]
theorem dO_{C:tL Xz}{i g:Int}{b:tV}{x:Xz}(h:C.length<=100000):bb_ (Xv.mk C i g b) x=some (Xv.mk (C++[x]) i g b):=by
 unfold bb_;simp only[];rw[az_ (by simp only[qLc,qQ];omega) (by simp only[qLc,qQ];omega)];rfl
def rchar (s:tX) (L:tL Xz) (i g:Int) (b:tV):tO (Int×(tL Xz)×Int×Int×tV) :=
 (ap_ s i).bind λh =>
 (bif(h != 92)then
  some (h,L,(w64 (i+1)),g,b)
 else
  (bif((w64 (i+1))==(s.length:Int))then
   some (0,L,(w64 (i+1)),g,true)
  else
   (ap_ s (w64 (i+1))).bind λf =>
   (bif(f==110)then
    some (10,L,(w64 ((w64 (i+1))+1)),g,b)
   else
    (bif(f==116)then
     some (9,L,(w64 ((w64 (i+1))+1)),g,b)
    else
     some (f,L,(w64 ((w64 (i+1))+1)),g,b)))))
def chO(L:tL Xz)(g:Int):CR->Int×(tL Xz)×Int×Int×tV | .err e=>(0,L,(e:Int),g,true) | .ok b q=>((b.toNat:Int),L,(q:Int),g,false)
def escC(s:tX)(i:Nat)(c:UInt8):CR:=if c=92 then escS s i else .ok c (i+1)
theorem bR_{s:tX}{i:Nat}{c:UInt8}(h:s[i]? = some c):ap_ s (i:Int)=some (c.toNat:Int):=by
 rw[byteI_nat,h];rfl
theorem rchar_eq{s:tX}{L:tL Xz}{i:Nat}{g:Int}{c:UInt8}(F:s.length<=1000)(h:s[i]? = some c):rchar s L (i:Int) g false=some (chO L g (escC s i c)):=by
 have D:=aI_ h;unfold rchar escC;rw[bR_ h];simp only[qBs];have C:((c.toNat:Int) != 92)=(c != 92):=by
  have:((c.toNat:Int)==92)=(c==92):=aV_ c 92;unfold bne;rw[this]
 rw[C,ai_ (by omega)];by_cases f:c=92
 .subst f;rw[qL rfl];simp only[qy,qZ];unfold escS;cases q:s[i+1]? with
  | none =>
   have:=ja.1 q;rw[qn.2 (by omega:((i+1:Nat):Int)=(s.length:Int))];rfl
  | some d =>
   have u:=aI_ q;rw[qX.2 (by omega:((i+1:Nat):Int)≠(s.length:Int)),qZ,bR_ q];simp only[qBs];rw[ai_ (by omega)];have y:((d.toNat:Int)==110)=(d==110):=aV_ d 110;have x:((d.toNat:Int)==116)=(d==116):=aV_ d 116;rw[y,x];unfold escB;by_cases p:d=110
   .subst p;rfl
   .rw[qX.2 p,qP p,qZ];by_cases j:d=116
    .subst j;rfl
    .rw[qX.2 j,qP j,qZ];rfl
 .rw[qP f,zt.2 f,qW];rfl
theorem mA_(x0:tX)(f:Int×Int×tV×(tL Xz)×(tL Int)):g1_ x0 f =
 Option.bind (bif decide (f.1<(x0.length:Int))then 
  (ap_ x0 f.1).bind λM =>
  some ((M != 93)||((f.2.2.2.2.length:Int)==0))
   else some false) λ(J:tV) =>
 (bif J then
  (ap_ x0 f.1).bind λG =>
  Option.bind (bif(G==93)then some true else 
   (ap_ x0 f.1).bind λF =>
   some (F==45)
   ) λ(D:tV) =>
  (bif D then
   some (.done (.ret (Xv.mk f.2.2.2.1 f.1 f.2.1 true)))
  else
   Option.bind (rchar x0 f.2.2.2.1 f.1 f.2.1 f.2.2.1) λ(h:Int×(tL Xz)×Int×Int×tV) =>
   Option.bind (
    (b4_ x0 (Xv.mk h.2.1 h.2.2.1 h.2.2.2.1 h.2.2.2.2) 45).bind λq =>
    (bif q.1 then
     Option.bind (bif((w64 (h.2.2.1+1))==(x0.length:Int))then some true else 
      (ap_ x0 (w64 (h.2.2.1+1))).bind λC =>
      some (C==93)
      ) λ(y:tV) =>
     Option.bind (bif y then some true else 
      (ap_ x0 (w64 (h.2.2.1+1))).bind λx =>
      some (x==45)
      ) λ(u:tV) =>
     (bif u then
      some (.ret (Xv.mk q.2.L_ (w64 (h.2.2.1+1)) h.2.2.2.1 true))
     else
      Option.bind (rchar x0 q.2.L_ (w64 (h.2.2.1+1)) h.2.2.2.1 h.2.2.2.2) λ(j:Int×(tL Xz)×Int×Int×tV) =>
      (bif((!j.2.2.2.2)&&decide (j.1<h.1))then
       some (.fall (j.1,j.2.1,(maxI (w64 (h.2.2.1+1)) (w64 (j.2.2.1-1))),j.2.2.2.1,true))
      else
       some (.fall (j.1,j.2.1,j.2.2.1,j.2.2.2.1,j.2.2.2.2))))
    else
     some (.fall (h.1,q.2.L_,h.2.2.1,h.2.2.2.1,h.2.2.2.2)))
    ) λ(O:Out (Int×(tL Xz)×Int×Int×tV) Xv)=>match O with
   | .ret U=>some (.done (.ret U))
   | .fall p =>
    (bif p.2.2.2.2 then
     some (.done (.ret (Xv.mk p.2.1 p.2.2.1 p.2.2.2.1 p.2.2.2.2)))
    else
     (room 1 f.2.2.2.2 [h.1,p.1]).bind λs =>
     some (.next (p.2.2.1,p.2.2.2.1,p.2.2.2.2,p.2.1,s))))
 else
  some (.done (.fall (f.1,f.2.1,f.2.2.1,f.2.2.2.1,f.2.2.2.2)))):=rfl
theorem u8_ne(c k:UInt8):((c.toNat:Int) != (k.toNat:Int))=(c != k):=by
 unfold bne;rw[aV_]
theorem n5_{s:tX}{i:Nat}{set:tX}:(bif decide ((i:Int)<(s.length:Int))then 
  (ap_ s (i:Int)).bind λf =>
  some ((f != 93)||(((aG_ set).length:Int)==0))
   else some false)=some (decide (i<s.length)&&decide (¬(set≠[]/\s[i]? = some 93))):=by
 by_cases hi:i<s.length
 .rw[qK (by omega),qW,aJ_ hi,qK hi,qm];simp only[qBs];have j:((s[i].toNat:Int) != 93)=(s[i] != 93):=u8_ne _ 93;rw[j,qY hi,aE_]
  congr 1
  cases set with
  | nil=>simp
  | cons b l => 
   simp only[qLc];rw[show(((l.length+1:Nat):Int)==0)=false from qX.2 (by omega),za];by_cases h:s[i]=93
   .rw[h];simp
   .rw[zt.2 h,qK];exact λe=>h (qSj e.2)
 .rw[qV (by omega),qZ,qV hi,zd]
def PairO(L:tL Xz)(g:Nat)(set:tX):PR2->Step (Int×Int×tV×(tL Xz)×(tL Int)) (Out (Int×Int×tV×(tL Xz)×(tL Int)) Xv) | .err e => .done (.ret (rp L e g true)) | .ok a b q => .next ((q:Int),(g:Int),false,L,aG_ (set++[a,b]))
theorem rcls_step {s:tX} (M:s.length<=1000) {i g:Nat} {L:tL Xz} {set:tX} (J:set.length<=100000) (hi:i<s.length) (h0:¬(set≠[]/\s[i]? = some 93)):g1_ s ((i:Int),(g:Int),false,L,aG_ set)=some (PairO L g set (fI_ s i)):=by
 rw[mA_];simp only[];rw[n5_,qK hi,qK h0];obtain⟨c,D⟩:∃c,s[i]? = some c:=⟨s[i],qY hi⟩;simp only[qBs,jX,qW];rw[bR_ D];simp only[qBs];have k1:((c.toNat:Int)==93)=(c==93):=aV_ c 93;have k2:((c.toNat:Int)==45)=(c==45):=aV_ c 45;rw[k1,k2];by_cases Z:c=93
 .subst Z;unfold fI_ chS;rw[D];rfl
 .rw [qX.2 Z,qZ];simp only[qBs];by_cases Y:c=45
  .subst Y;unfold fI_ chS;rw[D];rfl
  .rw [qX.2 Y,qZ,rchar_eq M D];have ech:chS s i=escC s i c:=by
    unfold chS escC;rw[D];simp only[];rw[qP (by rintro(h|h)<;>contradiction)]
   unfold fI_;rw[ech];have u:=λb q (e:chS s i = .ok b q)=>iC_ e
   rw[ech]at u;cases he:escC s i c with
   | err e => 
    simp only[qBs,chO];rw[nd_ rfl];rfl
   | ok a p =>
    have hp:=u a p he;simp only[qBs,chO];rw[rpE,is_eq (c:=45) (k:=45) rfl];simp only[qBs];have f:∀x:Int,room 1 (aG_ set) [(a.toNat:Int),x]=some (aG_ set++[(a.toNat:Int),x]):=λx=>az_ (by rw[aE_];simp only[qLc,qQ];omega) (by rw[aE_];simp only[qLc,qQ];omega)
    have y:∀b:UInt8,aG_ set++[(a.toNat:Int),(b.toNat:Int)]=aG_ (set++[a,b]):=λb=>by unfold aG_;rw[jZ];rfl
    by_cases F:s[p]? = some 45
    .have ZY:=aI_ F;rw[qK F,qL F];simp only[qW];rw[ai_ (by omega)];cases C:s[p+1]? with
     | none =>
      have:=ja.1 C;rw[qn.2 (by omega:((p+1:Nat):Int)=(s.length:Int))];unfold chS;rw[C];rfl
     | some d =>
      have ZZ:=aI_ C;rw[qX.2 (by omega:((p+1:Nat):Int)≠(s.length:Int)),qZ,bR_ C];simp only[qBs];have k3:((d.toNat:Int)==93)=(d==93):=aV_ d 93;have k4:((d.toNat:Int)==45)=(d==45):=aV_ d 45;rw[k3,k4];by_cases V:d=93
      .subst V;unfold chS;rw[C];rfl
      .rw [qX.2 V,qZ];simp only[qBs];by_cases U:d=45
       .subst U;unfold chS;rw[C];rfl
       .rw [qX.2 U,qZ,rchar_eq M C];have ech2:chS s (p+1)=escC s (p+1) d:=by
         unfold chS escC;rw[C];simp only[];rw[qP (by rintro(h|h)<;>contradiction)]
        rw[ech2];have j:=λb q (e:chS s (p+1) = .ok b q)=>iC_ e
        rw[ech2]at j;cases G:escC s (p+1) d with
        | err e=>rfl
        | ok b q =>
         have hq:=j b q G;simp only[qBs,chO,qf,qm];by_cases O:b.toNat<a.toNat
         .rw[qL O,qK (by omega),qW,ar_ (n:=(q:Int)-1) ⟨by omega,by omega⟩];have:maxI ((p+1:Nat):Int) ((q:Int)-1)=((q-1:Nat):Int):=by
           unfold maxI;split<;>omega
          rw[this];rfl
         .rw[qP O,qV (by omega),qZ];simp only[qBs,qZ];rw[f,y];rfl
    .rw[qV F,qP F];simp only[qZ,qBs];rw[f,y];rfl
def rclsO(s:tX)(L:tL Xz)(g:Nat):SR->Out (Int×Int×tV×(tL Xz)×(tL Int)) Xv->Prop | .err e,o=>o = .ret (rp L e g true)\/(e=s.length/\∃set,o = .fall ((e:Int),(g:Int),false,L,aG_ set)) | .ok x q,o=>o = .fall (((q-1:Nat):Int),(g:Int),false,L,aG_ x)/\0<q/\q<=s.length
theorem rcls_go{s:tX}(y:s.length<=1000){g:Nat}{L:tL Xz}{i:Nat}{set:tX}{r:SR}(h:Cx s i set r):i<=s.length->∀(f:Nat),s.length-i<f->set.length+2*(s.length-i)<=5000 ->
  ∃o,af_ (g1_ s) f ((i:Int),(g:Int),false,L,aG_ set)=some o/\rclsO s L g r o:=by
 induction h with
 | @done i set u h =>
  intro hi f D C;obtain⟨f,rfl⟩:∃k,f=k+1:=⟨f-1,by omega⟩;have p:=aI_ h;refine⟨_,aj_ (b := .fall ((i:Int),(g:Int),false,L,aG_ set)) ?_,?_,by omega,by omega⟩
  .rw[mA_];simp only[];rw[n5_,show decide (¬(set≠[]/\s[i]? = some 93))=false from qV (λe=>e ⟨u,h⟩),zr];rfl
  .rfl
 | @err i set e u h =>
  intro hi f D C;obtain⟨f,rfl⟩:∃k,f=k+1:=⟨f-1,by omega⟩;rcases qR i s.length with p|x
  .refine⟨_,aj_ (b := .ret (rp L e g true)) ?_,.inl rfl⟩;rw[rcls_step y (by omega) p u,h];rfl
  .have J:s[i]? = none:=qe x;have M:e=i:=by
    unfold fI_ chS at h;rw[J]at h;injection h with h;exact h.symm
   subst M;refine⟨_,aj_ (b := .fall ((e:Int),(g:Int),false,L,aG_ set)) ?_,.inr ⟨by omega,set,rfl⟩⟩;rw[mA_];simp only[];rw[n5_,qV (by omega:¬e<s.length),zd];rfl
 | @next i set a b q r u h t F =>
  intro hi f D C;obtain⟨f,rfl⟩:∃k,f=k+1:=⟨f-1,by omega⟩;have O:=mh_ h;have j:=rcls_step y (i:=i) (g:=g) (L:=L) (set:=set) (by omega) (by omega) u;rw[h]at j;obtain⟨o,G,hr⟩:=F (by omega) f (by omega) (by simp only[qLa,qLc,qQ];omega);exact⟨o,an_ j G,hr⟩
def rclsP(C:tL Xz)(g:Nat)(n:tV):SR->Xv | .err e=>rp C e g true | .ok x q=>rp (C++[setI x n]) q g false
theorem rclass_eq{s:tX}(j:s.length<=1000){g:Nat}{C:tL Xz}{i:Nat}{r:SR}(hi:i<s.length)(G:C.length<=100000)(h:Cx s (clsI s (i+1)) [] r):hv_ s (rp C i g false)=some (rclsP C g (clsN s (i+1)) r):=by
 have f:=clsI_le s (i+1) (by omega);obtain⟨o,p,hr⟩:=rcls_go j (g:=g) (L:=C) h f.2 BIG (by unfold BIG;omega) (by simp only[qQ];omega);unfold hv_;have D:Xv.mk (rp C i g false).L_ (w64 ((rp C i g false).At_+1)) (rp C i g false).N_ (rp C i g false).Yv=rp C (i+1) g false:=by
  unfold rp;simp only[];rw[ai_ (by omega)]
 rw[D,is_eq (c:=94) (k:=94) rfl];have y:(rp C i g false).At_=(i:Int):=rfl;simp only[qBs,y];rw[ai_ (i:=i) (by omega),ai_ (by omega)];have u:(bif decide (s[i+1]? = some 94)then some (((i+1+1:Nat):Int),(rp C i g false).N_,(rp C i g false).Yv,(rp C (i+1) g false).L_,(Xz.mk 3 0 [] true 0 0))else some (((i+1:Nat):Int),(rp C i g false).N_,(rp C i g false).Yv,(rp C (i+1) g false).L_,(Xz.mk 3 0 [] false 0 0)))=some ((clsI s (i+1):Int),(g:Int),false,C,Xz.mk 3 0 [] (clsN s (i+1)) 0 0):=by
  unfold clsI clsN;by_cases h:s[i+1]? = some 94
  .rw[qL h,qK h];rfl
  .rw[qP h,qV h];rfl
 refine al_ u ?_;refine al_ p ?_;cases r with
 | err e =>
  rcases hr with rfl|⟨F,set,rfl⟩
  .rfl
  .simp only[];rw[qn.2 (by omega:(e:Int)=(s.length:Int))];rfl
 | ok x q =>
  obtain⟨rfl,M,J⟩:=hr;simp only[];rw[qX.2 (by omega:((q-1:Nat):Int)≠(s.length:Int)),qZ,dO_ (by omega),e3_,ai_ (by omega),show q-1+1=q by omega];rfl
def ResR(s:tX)(z:tV)(C:tL Xz)(o:tO Xv):PX->Prop | .err e=>∃p,o=some p/\p.At_=(e:Int)/\(p.Yv=true\/(z=true/\p.Yv=false/\s[e]? = some 41))/\C.length<=p.L_.length | .ok a q g=>o=some (rp (C++a.code C.length) q g false)
def ResL(s:tX)(z:tV)(C:tL Xz)(o:tO (Int×Int×tV×(tL Xz))):PX->Prop | .err e=>∃(n:Int) (b:tV) (L:tL Xz),o=some ((e:Int),n,b,L)/\(b=true\/(z=true/\b=false/\s[e]? = some 41))/\C.length<=L.length | .ok a q g=>o=some ((q:Int),(g:Int),false,C++a.code C.length)
def GoR(s:tX)(k:PK)(d i g:Nat)(r:PX):Prop:=s.length<=1000->i<=s.length->g<=9->∀(C:tL Xz) (n:Nat),C.length+2*(s.length-i)<=5000->match k with | .rx=>s.length-i<n->ResR s (decide (d=0)) C (aL_ n s (rp C i g false)) r | .br=>s.length-i<=n->∀f,s.length-i+1<f->ResL s (decide (d=0)) C (af_ (bW_ s (aL_ n)) f ((i:Int),(g:Int),false,C)) r | .pc=>s.length-i<=n->(∃c,s[i]? = some c/\c≠41)->ResR s false C (dL_ (aL_ n) s (rp C i g false)) r | .at=>s.length-i<=n->(∃c,s[i]? = some c/\c≠41)->ResR s false C (bC_ (aL_ n) s (rp C i g false)) r
theorem rbr_end{s:tX}{f:tX->Xv->tO Xv}{i g:Int}{C:tL Xz}:bW_ s f (i,g,true,C)=some (.done (i,g,true,C)):=rfl
theorem rbr_stop{s:tX}{f:tX->Xv->tO Xv}{i:Nat}{g:Int}{C:tL Xz}(h:s[i]? = none\/s[i]? = some 124\/s[i]? = some 41):bW_ s f ((i:Int),g,false,C)=some (.done ((i:Int),g,false,C)):=by
 unfold bW_;simp only[qf,qm];rcases h with h|h|h
 .have:=ja.1 h;rw[qV (by omega)];rfl
 .have:=aI_ h;rw[qK (by omega),bR_ h];rfl
 .have:=aI_ h;rw[qK (by omega),bR_ h];rfl
theorem rbr_more{s:tX}{f:tX->Xv->tO Xv}{i g:Nat}{C:tL Xz}{c:UInt8}(h:s[i]? = some c)(x:c≠124)(u:c≠41):bW_ s f ((i:Int),(g:Int),false,C)=(dL_ f s (rp C i g false)).bind λy10=>some (.next (y10.At_,y10.N_,y10.Yv,y10.L_)):=by
 have q:=aI_ h;unfold bW_;simp only[qf,qm];rw[qK (by omega),qW,bR_ h];simp only[qBs];have p:((c.toNat:Int) != 124)=(c != 124):=u8_ne c 124;have j:((c.toNat:Int) != 41)=(c != 41):=u8_ne c 41;rw[p,j,zt.2 x,zt.2 u];rfl
theorem gr_stop{s:tX}{d i g:Nat}(h:s[i]? = none\/s[i]? = some 124\/(s[i]? = some 41/\0<d)):GoR s .br d i g (.ok .emp i g):=by
 intro j hi q C n x p f u;obtain⟨f,rfl⟩:∃k,f=k+1:=⟨f-1,by omega⟩;show _=_;rw[show C++Re.emp.code C.length=C from zP C];refine aj_ (rbr_stop ?_);rcases h with h|h|h
 .exact .inl h
 .exact .inr (.inl h)
 .exact .inr (.inr h.1)
theorem gr_par{s:tX}{i g:Nat}(h:s[i]? = some 41):GoR s .br 0 i g (.err i):=by
 intro j hi q C n x p f u;obtain⟨f,rfl⟩:∃k,f=k+1:=⟨f-1,by omega⟩;exact⟨_,false,C,aj_ (rbr_stop (.inr (.inr h))),.inr ⟨rfl,rfl,h⟩,qE _⟩
theorem gr_bad{s:tX}{d i g e:Nat}{c:UInt8}(h:s[i]? = some c)(U:c≠124)(q:c≠41)(u:GoR s .pc d i g (.err e)):GoR s .br d i g (.err e):=by
 intro x hi J C n O D f V;have F:=aI_ h;obtain⟨f,rfl⟩:∃k,f=k+1+1:=⟨f-2,by omega⟩;obtain⟨p,y,M,j,G⟩:=u x hi J C n O D ⟨c,h,q⟩;have j:p.Yv=true:=by
  rcases j with j|j
  .exact j
  .exact absurd j.1 (by decide)
 refine⟨p.N_,true,p.L_,an_ (s':=(p.At_,p.N_,p.Yv,p.L_)) ?_ ?_,.inl rfl,G⟩
 .rw[rbr_more h U q,y];rfl
 .rw[j,M];exact aj_ rbr_end
theorem gr_next{s:tX}{d i g q g1:Nat}{c:UInt8}{a:Re}{r:PX}(h:s[i]? = some c)(h1:c≠124)(J:c≠41)(O:RP s .pc d i g (.ok a q g1))(M:GoR s .pc d i g (.ok a q g1))(y:GoR s .br d q g1 r):GoR s .br d i g (r.pre a):=by
 intro F hi G C n Z U f hf;obtain⟨f,rfl⟩:∃k,f=k+1:=⟨f-1,by omega⟩;have p:=O.good hi G;simp only[PK.inc]at p;have j:(C++a.code C.length).length=C.length+a.len:=by rw[qLa,aC_]
 have D:_=_:=M F hi G C n Z U ⟨c,h,J⟩;have x:=y F (by omega) (by omega) (C++a.code C.length) n (by rw[j];omega) (by omega) f (by omega);have u:bW_ s (aL_ n) ((i:Int),(g:Int),false,C)=some (.next ((q:Int),(g1:Int),false,C++a.code C.length)):=by
  rw[rbr_more h h1 J,D];rfl
 cases r with
 | err e =>
  obtain⟨m,b,L,D,Y,V⟩:=x;exact⟨m,b,L,an_ u D,Y,by rw[j]at V;omega⟩
 | ok b q2 g2 =>
  have x:_=_:=x;show _=_;refine an_ u ?_;rw[x];simp only[Re.code];rw[j,qS]
theorem gr_pcbad{s:tX}{d i g e:Nat}(j:GoR s .at d i g (.err e)):GoR s .pc d i g (.err e):=by
 intro q hi D C n J x F;obtain⟨p,u,G,f,y⟩:=j q hi D C n J x F;have f:p.Yv=true:=by
  rcases f with f|f
  .exact f
  .exact absurd f.1 (by decide)
 refine⟨p,?_,G,.inl f,y⟩;unfold dL_;rw[u];have h:Xv.mk p.L_ p.At_ p.N_ p.Yv=p:=rfl;simp only[qBs];rw[nd_ f];simp only[qBs,qZ,h];rw[nd_ f];simp only[qBs,qZ,h];rw[nd_ f];rfl
theorem rp_L(C:tL Xz)(i g:Nat)(b:tV):(rp C i g b).L_=C:=rfl
theorem gm_(C:tL Xz)(i g:Nat)(b:tV):(rp C i g b).At_=(i:Int):=rfl
theorem rp_N(C:tL Xz)(i g:Nat)(b:tV):(rp C i g b).N_=(g:Int):=rfl
theorem gC_(C:tL Xz)(i g:Nat)(b:tV):(rp C i g b).Yv=b:=rfl
theorem gr_pcok{s:tX}{d i g q g1:Nat}{a:Re}(O:RP s .at d i g (.ok a q g1))(J:GoR s .at d i g (.ok a q g1)):GoR s .pc d i g (post s a q g1):=by
 intro M hi G C n Z V Y;have f:=O.good hi G;simp only[PK.inc]at f;have U:_=_:=J M hi G C n Z V Y;have F:(a.code C.length).length=a.len:=aC_ a _;have h:(a.code (C.length+1)).length=a.len:=aC_ a _;have D:w64 ((C.length:Int)+1)=((C.length+1:Nat):Int):=ai_ (by omega);have x:w64 ((q:Int)+1)=((q+1:Nat):Int):=ai_ (by omega);show ResR s false C (dL_ (aL_ n) s (rp C i g false)) (post s a q g1);unfold dL_;rw[U];simp only[qBs,rp_L,gm_,rp_N,gC_];unfold post;by_cases u:s[q]? = some 42
 .rw[qL u,is_t (c:=42) (k:=42) rfl u];simp only[qBs,qW,rp_L];rw[x,n1_ rfl (by omega) f.2.2.2.2.2];simp only[qBs];rw[dO_ (by simp only[qLa,qLc];omega)];simp only[qBs];rw[qS,qc,dm_ rfl];simp only[qBs];rw[ei_ (gB_ _)];show _=_;simp only[Re.code];have y:(((C++Xz.mk 6 0 [] false (w64 ((C.length:Int)+1)) 0::(a.code (C.length+1)++[Xz.mk 7 0 [] false (C.length:Int) 0])).length:Nat):Int)=((C.length+a.len+2:Nat):Int):=by
   simp only[qLa,qLc,qQ,h];omega
  rw[y,D];rfl
 .rw [qP u,is_f (c:=42) (k:=42) rfl u];simp only[qBs,qZ,rp_L];rw[rpE];by_cases p:s[q]? = some 43
  .rw[qL p,is_t (c:=43) (k:=43) rfl p];simp only[qBs,qW,rp_L];rw[x,dO_ (by simp only[qLa];omega)];show _=_;simp only[Re.code,qBs];have y:w64 (((C++a.code C.length).length:Int)+1)=((C.length+a.len+1:Nat):Int):=by
    rw[ar_ ⟨by omega,by simp only[qLa];omega⟩];simp only[qLa];omega
   rw[y,←qS];rfl
  .rw[qP p,is_f (c:=43) (k:=43) rfl p];simp only[qBs,qZ,rp_L];rw[rpE];by_cases j:s[q]? = some 63
   .rw[qL j,is_t (c:=63) (k:=63) rfl j];simp only[qBs,qW,rp_L];rw[x,n1_ rfl (by omega) f.2.2.2.2.2];simp only[qBs];rw[dm_ rfl];simp only[qBs];rw[ei_ (gB_ _)];show _=_;simp only[Re.code];have y:(((C++Xz.mk 6 0 [] false (w64 ((C.length:Int)+1)) 0::a.code (C.length+1)).length:Nat):Int)=((C.length+a.len+1:Nat):Int):=by
     simp only[qLa,qLc,h];omega
    rw[y,D];rfl
   .rw[qP j,is_f (c:=63) (k:=63) rfl j];rfl
theorem rat_many{s:tX}{d i g:Nat}(h:s[i]? = some 40)(f:9<=g):GoR s .at d i g (.err i):=by
 intro j hi q C n x p u;refine⟨rp C i g true,?_,rfl,.inl rfl,qE _⟩;unfold bC_;rw[gm_,rp_N,bR_ h];simp only[qBs];rw[show(((40:UInt8).toNat:Int)==40)=true from rfl,qW,show decide ((g:Int)>=9)=true from qK (by omega)];rfl
theorem mB_{s:tX}{i g n:Nat}{C:tL Xz}(h:s[i]? = some 40)(u:s.length<=1000)(x:g<9)(y:C.length<=5000) :
  bC_ (aL_ n) s (rp C i g false)=(aL_ n s (rp (C++[aU_ (2*(g+1))]) (i+1) (g+1) false)).bind λf =>
    (b4_ s f 41).bind λy4 =>
    (bif(!y4.1)then
     some {f with L_:=y4.2.L_,Yv:=true}
    else
     Option.bind (bb_ {f with L_:=y4.2.L_} (aU_ (2*(g+1)+1))) λ(y5:Xv) =>
     some {y5 with At_:=(w64 (y5.At_+1))}):=by
 have j:=aI_ h;unfold bC_;rw[gm_,rp_N,rp_L,gC_,bR_ h];simp only[qBs];have q:w64 (2*((g+1:Nat):Int))=((2*(g+1):Nat):Int):=by
  rw[ar_ ⟨by omega,by omega⟩];omega
 have p:w64 (((2*(g+1):Nat):Int)+1)=((2*(g+1)+1:Nat):Int):=ai_ (by omega);rw[show(((40:UInt8).toNat:Int)==40)=true from rfl,qW,show decide ((g:Int)>=9)=false from qV (by omega),qZ,ai_ (i:=g) (by omega),q,p,ai_ (i:=i) (by omega),dO_ (by omega)];simp only[qBs];show Option.bind ((aL_ n s (rp (C++[aU_ (2*(g+1))]) (i+1) (g+1) false)).bind _) _=_;cases aL_ n s (rp (C++[aU_ (2*(g+1))]) (i+1) (g+1) false)with
 | none=>rfl
 | some f =>
  simp only[qBs];cases b4_ s f 41 with
  | none=>rfl
  | some y4 =>
   simp only[qBs];cases y4.1 with
   | false=>rfl
   | true =>
    simp only[qN,qZ];show Option.bind (Option.bind (bb_ _ (aU_ (2*(g+1)+1))) _) _=_;cases bb_ {f with L_:=y4.2.L_} (aU_ (2*(g+1)+1))<;>rfl
theorem rat_inner{s:tX}{d i g e:Nat}(h:s[i]? = some 40)(j:g<9)(u:GoR s .rx (d+1) (i+1) (g+1) (.err e)):GoR s .at d i g (.err e):=by
 intro q hi J C n O G M;have y:=aI_ h;obtain⟨p,x,F,f,D⟩:=u q (by omega) (by omega) (C++[aU_ (2*(g+1))]) n (by simp only[qLa,qLc,qQ];omega) (by omega);have f:p.Yv=true:=by
  rcases f with f|f
  .exact f
  .exact absurd f.1 (by simp)
 refine⟨Xv.mk p.L_ p.At_ p.N_ true,?_,F,.inl rfl,by simp only[qLa]at D;show C.length<=p.L_.length;omega⟩;rw[mB_ h q j (by omega),x];simp only[qBs];rw[nd_ f];rfl
theorem rat_unc{s:tX}{d i g q g1:Nat}{a:Re}(h:s[i]? = some 40)(f:g<9)(p:GoR s .rx (d+1) (i+1) (g+1) (.ok a q g1))(y:s[q]? ≠ some 41):GoR s .at d i g (.err q):=by
 intro j hi F C n G D _;have x:=aI_ h;have u:_=_:=p j (by omega) (by omega) (C++[aU_ (2*(g+1))]) n (by simp only[qLa,qLc,qQ];omega) (by omega);refine⟨rp ((C++[aU_ (2*(g+1))])++a.code (C++[aU_ (2*(g+1))]).length) q g1 true,?_,rfl,.inl rfl,by rw[rp_L];simp only[qLa];omega⟩;rw[mB_ h j f (by omega),u];simp only[qBs];rw[is_f (c:=41) (k:=41) rfl y];rfl
theorem rat_grp{s:tX}{d i g q g1:Nat}{a:Re}(h:s[i]? = some 40)(j:g<9)(hr:RP s .rx (d+1) (i+1) (g+1) (.ok a q g1))(y:GoR s .rx (d+1) (i+1) (g+1) (.ok a q g1))(x:s[q]? = some 41):GoR s .at d i g (.ok (.grp (g+1) a) (q+1) g1):=by
 intro p hi J C n M G _;have F:=aI_ h;have u:=aI_ x;have f:=hr.good (by omega) (by omega);simp only[PK.inc]at f;have D:_=_:=y p (by omega) (by omega) (C++[aU_ (2*(g+1))]) n (by simp only[qLa,qLc,qQ];omega) (by omega);show _=_;rw[mB_ h p j (by omega),D];simp only[qBs];rw[is_t (c:=41) (k:=41) rfl x];simp only[qBs,qN,qZ,rp_L,gm_,rp_N,gC_];rw[dO_ (by simp only[qLa,qLc,qQ,aC_];omega)];simp only[qBs,Re.code];rw[show(C++[aU_ (2*(g+1))]).length=C.length+1 from by simp,qS,qS,List.singleton_append,ai_ (by omega)];rfl
theorem find_any{α:Type}(p:α->tV):∀l:tL α,((l.find? p).map λ_=>true).getD false=l.any p
 | []=>rfl
 | x::l=>by
  rw[List.find?_cons,jp];cases p x with
  | true=>rfl
  | false=>exact find_any p l
theorem n6_(c:UInt8):hV_ (c.toNat:Int)=some (spec c):=by
 unfold hV_;have h:=bw_ (body:=ih_ (c.toNat:Int)) ([40,41,124,42,43,63,46,94,36,91,92]:tX) (λ_ x=>if(x==c)=true then some true else none) (by unfold BIG;simp)
  (λi hi=>by
   have f:i<11:=hi;unfold ih_;refine ki_ (qK (show(i:Int)<((11:Nat):Int)by omega)) ?_;rw[aJ_ hi];simp only[qBs];rw[aV_,ai_ (by omega)];cases([40,41,124,42,43,63,46,94,36,91,92]:tX)[i]==c<;>rfl)
  (by rfl)
 refine(bD_ h (λr=>rfl) rfl).trans ?_;rw[gy_ (λx=>x==c) (λ_=>true),find_any];simp only[jp,List.any_nil,za];have k:∀x:UInt8,(x==c)=(c==x):=λx=>BEq.comm
 simp only[k];unfold spec;simp only[Bool.or_assoc]
theorem rat_one{s:tX}{i g:Nat}{C:tL Xz}{z:Int}(hi:i<900000)(u:C.length<=5000){f:tX->Xv->tO Xv}{c:UInt8}(h:s[i]? = some c)(q:(c=46/\z=2)\/(c=94/\z=4)\/(c=36/\z=5)):bC_ f s (rp C i g false)=some (rp (C++[Xz.mk z 0 [] false 0 0]) (i+1) g false):=by
 unfold bC_;rw[gm_,rp_N,rp_L,gC_,bR_ h];simp only[qBs];have j:∀z:Int,bb_ (rp C i g false) (Xz.mk z 0 [] false 0 0)=some (rp (C++[Xz.mk z 0 [] false 0 0]) i g false):=λz=>dO_ (by omega)
 have p:w64 ((i:Int)+1)=((i+1:Nat):Int):=ai_ (by omega);rcases q with⟨rfl,rfl⟩|⟨rfl,rfl⟩|⟨rfl,rfl⟩
 .rw[j];simp only[qBs,rp_L,gm_,rp_N,gC_];refine Eq.trans (show _=some (Xv.mk (C++[Xz.mk 2 0 [] false 0 0]) (w64 ((i:Int)+1)) (g:Int) false)from rfl) ?_;rw[p];rfl
 .rw[j,j];simp only[qBs,rp_L,gm_,rp_N,gC_];refine Eq.trans (show _=some (Xv.mk (C++[Xz.mk 4 0 [] false 0 0]) (w64 ((i:Int)+1)) (g:Int) false)from rfl) ?_;rw[p];rfl
 .rw[j,j,j];simp only[qBs,rp_L,gm_,rp_N,gC_];refine Eq.trans (show _=some (Xv.mk (C++[Xz.mk 5 0 [] false 0 0]) (w64 ((i:Int)+1)) (g:Int) false)from rfl) ?_;rw[p];rfl
theorem gr_sym{s:tX}{d i g:Nat}{c:UInt8}(h:s[i]? = some c)(f:c=42\/c=43\/c=63):GoR s .at d i g (.err i):=by
 intro j hi q C n u p _;refine⟨rp C i g true,?_,rfl,.inl rfl,qE _⟩;unfold bC_;rw[gm_,bR_ h];simp only[qBs];rw[n6_];rcases f with rfl|rfl|rfl<;>rfl
theorem gr_one{s:tX}{d i g:Nat}{c:UInt8}{z:Int}{a:Re}(j:∀n,a.code n=[Xz.mk z 0 [] false 0 0])(h:s[i]? = some c)(f:(c=46/\z=2)\/(c=94/\z=4)\/(c=36/\z=5)):GoR s .at d i g (.ok a (i+1) g):=by
 intro p hi u C n x q _;show _=_;rw[rat_one (by omega) (by omega) h f,j]
theorem gr_cls{s:tX}{d i g:Nat}{r:SR}(h:s[i]? = some 91)(p:Cx s (clsI s (i+1)) [] r):GoR s .at d i g (clsR g (clsN s (i+1)) r):=by
 intro j hi D C n F y _;have f:=aI_ h;have u:bC_ (aL_ n) s (rp C i g false)=some (rclsP C g (clsN s (i+1)) r):=by
  unfold bC_;rw[gm_,bR_ h];simp only[qBs];rw[rclass_eq j f (by omega) p];rfl
 show ResR s false C (bC_ (aL_ n) s (rp C i g false)) _;rw[u];cases r with
 | err e=>exact⟨_,rfl,rfl,.inl rfl,qE _⟩
 | ok x q=>rfl
theorem gr_esc{s:tX}{d i g:Nat}(h:s[i]? = some 92):GoR s .at d i g (escR g (escS s i)):=by
 intro F hi J C n M G _;have D:=aI_ h;show ResR s false C (bC_ (aL_ n) s (rp C i g false)) _;unfold bC_;rw[gm_,bR_ h];simp only[qBs,rp_N,rp_L,gC_];rw[n6_,ai_ (i:=i) (by omega)];unfold escS;cases q:s[i+1]? with
 | none =>
  have:=ja.1 q;rw[qn.2 (by omega:((i+1:Nat):Int)=(s.length:Int))];exact⟨rp C (i+1) g true,rfl,rfl,.inl rfl,qE _⟩
 | some d =>
  have u:=aI_ q;rw[qX.2 (by omega:((i+1:Nat):Int)≠(s.length:Int)),qZ,bR_ q];simp only[qBs];rw[ai_ (i:=i+1) (by omega)];have y:((d.toNat:Int)==110)=(d==110):=aV_ d 110;have x:((d.toNat:Int)==116)=(d==116):=aV_ d 116;have f:∀z:Int,bb_ (rp C (i+2) g false) (Xz.mk 1 z [] false 0 0)=some (rp (C++[Xz.mk 1 z [] false 0 0]) (i+2) g false):=λz=>dO_ (by omega)
  rw[y,x];unfold escB;by_cases p:d=110
  .subst p;exact al_ (al_ (f 10) rfl) rfl
  .rw[qX.2 p,qP p,qZ];by_cases j:d=116
   .subst j;exact al_ (al_ (f 9) rfl) rfl
   .rw[qX.2 j,qP j,qZ];exact al_ (al_ (f d.toNat) rfl) rfl
theorem gr_chr{s:tX}{d i g:Nat}{c:UInt8}(h:s[i]? = some c)(f:spec c=false):GoR s .at d i g (.ok (.chr c) (i+1) g):=by
 intro J hi O C n U M _;show _=_;have p:=f;unfold spec at f;simp only[zS]at f;obtain⟨⟨⟨⟨⟨⟨⟨⟨⟨⟨G,a2⟩,a3⟩,a4⟩,a5⟩,V⟩,F⟩,D⟩,a9⟩,u⟩,q⟩:=f;have k (m:UInt8) (z:Int) (x:z=(m.toNat:Int)) (y:(c==m)=false):((c.toNat:Int)==z)=false:=by
  subst x;rw[←y];exact aV_ c m
 have j:((c.toNat:Int) != 92)=true:=by
  unfold bne;rw[k 92 92 rfl q];rfl
 unfold bC_;rw[gm_,bR_ h];simp only[qBs,rp_N,rp_L,gC_];rw[k 40 40 rfl G,k 46 46 rfl F,k 94 94 rfl D,k 36 36 rfl a9,k 91 91 rfl u,n6_,p,j];simp only[qZ,qW,qBs,zd];rw[dO_ (by omega),ai_ (by omega)];rfl
theorem mj_{s:tX}{z:tV}{i g n:Nat}{C:tL Xz}{r:PX}(h:ResL s z C (af_ (bW_ s (aL_ n)) BIG ((i:Int),(g:Int),false,C)) r):ResR s z C (fl_ (aL_ n) s (rp C i g false)) r:=by
 have e:fl_ (aL_ n) s (rp C i g false)=(af_ (bW_ s (aL_ n)) BIG ((i:Int),(g:Int),false,C)).bind λf=>some (Xv.mk f.2.2.2 f.1 f.2.1 f.2.2.1):=rfl
 rw[e];cases r with
 | err e =>
  obtain⟨m,b,L,j,u,p⟩:=h;rw[j];exact⟨_,rfl,rfl,u,p⟩
 | ok a q g1 =>
  have h:_=_:=h;rw[h];rfl
theorem qH_{n:Nat}{s:tX}{p:Xv}:aL_ (n+1) s p=eE_ (aL_ n) s p:=rfl
theorem gr_rxbad{s:tX}{d i g e:Nat}(u:GoR s .br d i g (.err e)):GoR s .rx d i g (.err e):=by
 intro x hi F C n G J;obtain⟨n,rfl⟩:∃k,n=k+1:=⟨n-1,by omega⟩;obtain⟨p,y,q,f,D⟩:=mj_ (u x hi F C n G (by omega) BIG (by unfold BIG;omega));have j:b4_ s p 124=some (false,p):=by
  rcases f with f|⟨_,f,h⟩
  .exact nd_ f _
  .unfold b4_;have:=aI_ h;rw[f,q,qK (by omega),bR_ h];rfl
 refine⟨p,?_,q,f,D⟩;rw[qH_];unfold eE_;rw[y];simp only[qBs];rw[j];rfl
theorem gr_rxone{s:tX}{d i g q g1:Nat}{a:Re}(f:GoR s .br d i g (.ok a q g1))(j:s[q]? ≠ some 124):GoR s .rx d i g (.ok a q g1):=by
 intro h hi u C n x y;obtain⟨n,rfl⟩:∃k,n=k+1:=⟨n-1,by omega⟩;have p:_=_:=mj_ (f h hi u C n x (by omega) BIG (by unfold BIG;omega));show _=_;rw[qH_];unfold eE_;rw[p];simp only[qBs];rw[is_f (c:=124) (k:=124) rfl j];rfl
theorem rrx_step{s:tX}{i g q g1 n:Nat}{a:Re}{C:tL Xz}(G:s.length<=1000)(J:C.length+a.len<=20000)(p:a.grps 100)
  (y:fl_ (aL_ n) s (rp C i g false)=some (rp (C++a.code C.length) q g1 false)) (u:s[q]? = some 124) :
  aL_ (n+1) s (rp C i g false)=(aL_ n s (rp (C++(bF_ (C.length+1) (C.length+a.len+2)::(a.code (C.length+1)++[cX_ 0]))) (q+1) g1 false)).bind λh =>
   (ah_ h.L_ ((C.length+a.len+1:Nat):Int)).bind λx =>
   some ({h with L_:=(h.L_.set (C.length+a.len+1) {x with X_:=(h.L_.length:Int)})}):=by
 have f:(a.code (C.length+1)).length=a.len:=aC_ a _;have D:=aI_ u;rw[qH_];unfold eE_;rw[y];simp only[qBs];rw[is_t (c:=124) (k:=124) rfl u];simp only[qBs,qN,qZ,rp_L,gm_,rp_N,gC_];rw[ai_ (i:=q) (by omega),n1_ rfl (by omega) p];simp only[qBs];rw[dO_ (by simp only[qLa,qLc];omega)];simp only[qBs];have F:(C++Xz.mk 6 0 [] false (w64 ((C.length:Int)+1)) 0::a.code (C.length+1)).length=C.length+a.len+1:=by
  simp only[qLa,qLc,f];omega
 rw[F,qS,qc,dm_ rfl];simp only[qBs];have j:(((C++Xz.mk 6 0 [] false (w64 ((C.length:Int)+1)) 0::(a.code (C.length+1)++[Xz.mk 7 0 [] false 0 0])).length:Nat):Int)=((C.length+a.len+2:Nat):Int):=by
  simp only[qLa,qLc,qQ,f];omega
 rw[ei_ (gB_ _),j,ai_ (i:=C.length) (by omega)];rfl
theorem gr_rxerr{s:tX}{d i g q g1 e:Nat}{a:Re}(h:RP s .br d i g (.ok a q g1))(y:s[q]? = some 124)(F:GoR s .br d i g (.ok a q g1))(j:GoR s .rx d (q+1) g1 (.err e)):GoR s .rx d i g (.err e):=by
 intro u hi D C n Y Z;obtain⟨n,rfl⟩:∃k,n=k+1:=⟨n-1,by omega⟩;have f:=h.good hi D;simp only[PK.inc]at f;have J:=aI_ y;have G:_=_:=mj_ (F u hi D C n Y (by omega) BIG (by unfold BIG;omega));obtain⟨p,x,V,U,M⟩:=j u (by omega) (by omega) (C++(bF_ (C.length+1) (C.length+a.len+2)::(a.code (C.length+1)++[cX_ 0]))) n (by simp only[qLa,qLc,qQ,aC_];omega) (by omega);have O:(C++(bF_ (C.length+1) (C.length+a.len+2)::(a.code (C.length+1)++[cX_ 0]))).length=C.length+a.len+2:=by
  simp only[qLa,qLc,qQ,aC_];omega
 rw[O]at M;refine⟨Xv.mk (p.L_.set (C.length+a.len+1) (Xz.mk (p.L_[C.length+a.len+1]'(by omega)).Op_ (p.L_[C.length+a.len+1]'(by omega)).C_ (p.L_[C.length+a.len+1]'(by omega)).Yh (p.L_[C.length+a.len+1]'(by omega)).Ys (p.L_.length:Int) (p.L_[C.length+a.len+1]'(by omega)).Y_)) p.At_ p.N_ p.Yv,?_,V,U,by rw[jF];omega⟩;rw[rrx_step u (by omega) f.2.2.2.2.2 G y,x];simp only[qBs];rw[aq_ (by omega)];rfl
theorem gr_rxalt{s:tX}{d i g q g1 D J:Nat}{a b:Re}(h:RP s .br d i g (.ok a q g1))(F:s[q]? = some 124)(M:GoR s .br d i g (.ok a q g1))(u:GoR s .rx d (q+1) g1 (.ok b D J)):GoR s .rx d i g (.ok (.alt a b) D J):=by
 intro x hi G C n Y hn;obtain⟨n,rfl⟩:∃k,n=k+1:=⟨n-1,by omega⟩;have j:=h.good hi G;simp only[PK.inc]at j;have U:=aI_ F;have O:_=_:=mj_ (M x hi G C n Y (by omega) BIG (by unfold BIG;omega));have y:_=_:=u x (by omega) (by omega) (C++(bF_ (C.length+1) (C.length+a.len+2)::(a.code (C.length+1)++[cX_ 0]))) n (by simp only[qLa,qLc,qQ,aC_];omega) (by omega);show _=_;rw[rrx_step x (by omega) j.2.2.2.2.2 O F,y];have f:(a.code (C.length+1)).length=a.len:=aC_ a _;simp only[qBs,rp_L];have V:(C++(bF_ (C.length+1) (C.length+a.len+2)::(a.code (C.length+1)++[cX_ 0]))).length=C.length+a.len+2:=by
  simp only[qLa,qLc,qQ,f];omega
 have p:(C++(bF_ (C.length+1) (C.length+a.len+2)::a.code (C.length+1))).length=C.length+a.len+1:=by
  simp only[qLa,qLc,f];omega
 rw[V];have e1:(C++(bF_ (C.length+1) (C.length+a.len+2)::(a.code (C.length+1)++[cX_ 0])))++b.code (C.length+a.len+2)=(C++(bF_ (C.length+1) (C.length+a.len+2)::a.code (C.length+1)))++cX_ 0::b.code (C.length+a.len+2):=by simp
 rw[e1,dm_ (by rw[p])];simp only[qBs];rw[ei_ p.symm];have Z:(((C++(bF_ (C.length+1) (C.length+a.len+2)::a.code (C.length+1)))++cX_ 0::b.code (C.length+a.len+2)).length:Int)=((C.length+a.len+b.len+2:Nat):Int):=by
  rw[qLa,p];simp only[qLc,aC_];omega
 rw[Z];simp only[Re.code,qS,qc];rfl
theorem RP.goR{s:tX}{k:PK}{d i g:Nat}{r:PX}(h:RP s k d i g r):GoR s k d i g r:=by
 induction h with
 | stop h=>exact gr_stop h
 | par h=>exact gr_par h
 | bad h C y F f=>exact gr_bad h C y f
 | next h C y F D p j=>exact gr_next h C y F p j
 | pcbad h f=>exact gr_pcbad f
 | pcok h f=>exact gr_pcok h f
 | many h u=>exact rat_many h u
 | inner h u hr f=>exact rat_inner h u f
 | unc h u hr q f=>exact rat_unc h u f q
 | grp h u hr q f=>exact rat_grp h u hr f q
 | sym h q=>exact gr_sym h q
 | any h=>exact gr_one (λ_=>rfl) h (.inl ⟨rfl,rfl⟩)
 | bol h=>exact gr_one (λ_=>rfl) h (.inr (.inl ⟨rfl,rfl⟩))
 | eol h=>exact gr_one (λ_=>rfl) h (.inr (.inr ⟨rfl,rfl⟩))
 | cls h q=>exact gr_cls h q
 | esc h=>exact gr_esc h
 | chr h q=>exact gr_chr h q
 | rxbad h f=>exact gr_rxbad f
 | rxone h x f=>exact gr_rxone f x
 | rxerr h x D p j=>exact gr_rxerr h x p j
 | rxalt h x D p j=>exact gr_rxalt h x p j
def prog(a:Re)(g:Nat):Xh:=Xh.mk (aU_ 0::(a.code 1++[aU_ 1,iOne 9])) ((g+1:Nat):Int)
def compV:PX->Xh×Int×Int | .err e=>(Xh.mk [] 0,(e:Int),49) | .ok a _ g=>(prog a g,0,0)
theorem pj_(s:tX):(256<s.length/\bu_ s=some (Xh.mk [] 0,0,4)/\b7_ s=some (Xh.mk [] 0,0,4)) \/
  (s.length<=256/\∃r,RP s .rx 0 0 0 r/\bu_ s=some (compV r)/\b7_ s=some (compV r)):=by
 rcases qR 256 s.length with F|F
 .refine .inl ⟨F,?_,?_⟩
  .unfold bu_;rw[qK (by omega)];rfl
  .unfold b7_;rw[qK (by omega)];rfl
 .obtain⟨r,hr⟩:=(RP.ex (s:=s) _ 0 (Nat.lt_succ_self _) (qO _)).2 0 0 (qO _);refine .inr ⟨F,r,hr,?_,?_⟩
  .have h:=hr.go (by omega) (qO _) (qO _) (qE _) [aU_ 0] 0 BIG (by simp only[qLc,qQ];omega) (by unfold BIG;omega);unfold bu_;rw[qV (by omega),qZ];have J:aA_ (regex_parser.mk s 0 0 [] 0) (Xz.mk 8 0 [] false 0 0)=some (0,ps s 0 0 [aU_ 0] 0):=ej_ (s:=s) (i:=0) (g:=0) (C:=[]) (bad:=0) (x:=aU_ 0) (by simp);rw[J];simp only[qBs];cases r with
   | err e =>
    obtain⟨p,f,u⟩:=h;have f:ak_ BIG (ps s 0 0 [aU_ 0] 0) 0=some (false,p):=f;rw[f];simp only[qBs,qf,qW];rw[u];rfl
   | ok a q g =>
    have j:=hr.good (qO _) (qO _);have f:ak_ BIG (ps s 0 0 [aU_ 0] 0) 0=some (true,ps s q g ([aU_ 0]++a.code 1) 0):=h;have y:=aC_ a 1;rw[f];simp only[qBs,qN,qZ];rw[ej_ (by simp only[qLa,qLc,qQ];omega)];simp only[qBs];rw[ej_ (by simp only[qLa,qLc,qQ];omega)];simp only[qBs,iD_,pg_];rw[ai_ (by omega)];simp only[qS];rfl
  .have h:=hr.goR (by omega) (qO _) (qO _) [aU_ 0] BIG (by simp only[qLc,qQ];omega) (by unfold BIG;omega);unfold b7_;rw[qV (by omega),qZ];have J:bb_ (Xv.mk [] 0 0 false) (Xz.mk 8 0 [] false 0 0)=some (rp [aU_ 0] 0 0 false):=dO_ (by simp);rw[J];simp only[qBs];cases r with
   | err e =>
    obtain⟨p,f,M,u,F⟩:=h;rw[f];simp only[qBs];have:(p.Yv||decide (p.At_<(s.length:Int)))=true:=by
     rcases u with u|⟨_,u,G⟩
     .rw[u];rfl
     .have:=aI_ G;rw[M,qK (by omega),jE]
    rw[this,qW,M];rfl
   | ok a q g =>
    have j:=hr.good (qO _) (qO _);have D:=(hr.ends rfl a q g rfl).1 rfl;have V:=ja.1 D;have f:aL_ BIG s (rp [aU_ 0] 0 0 false)=some (rp ([aU_ 0]++a.code 1) q g false):=h;have y:=aC_ a 1;rw[f];simp only[qBs];have:((rp ([aU_ 0]++a.code 1) q g false).Yv||decide ((rp ([aU_ 0]++a.code 1) q g false).At_<(s.length:Int)))=false:=by
     rw[gC_,gm_,qV (by omega)];rfl
    rw[this,qZ];have U:bb_ (rp ([aU_ 0]++a.code 1) q g false) (Xz.mk 8 0 [] false 1 0)=some (rp (([aU_ 0]++a.code 1)++[aU_ 1]) q g false):=dO_ (by simp only[qLa,qLc,qQ];omega);have O:bb_ (rp (([aU_ 0]++a.code 1)++[aU_ 1]) q g false) (Xz.mk 9 0 [] false 0 0)=some (rp ((([aU_ 0]++a.code 1)++[aU_ 1])++[iOne 9]) q g false):=dO_ (by simp only[qLa,qLc,qQ];omega);rw[U];simp only[qBs];rw[O];simp only[qBs,rp_L,rp_N];rw[ai_ (by omega)];simp only[qS];rfl
def km_:Nat->tX->tL tX | 0,_=>[]|k+1,s=>if s=[]then[]else if s.contains 10 then s.take (ae_ [10] s)::km_ k (s.drop (ae_ [10] s+1))else[s]
def db_(s:tX):tL tX:=km_ (s.length+1) s
theorem p8_:∀(k m:Nat) (s:tX),s.length<k->s.length<m->km_ k s=km_ m s
 | k+1,m+1,s,p,j=>by
  unfold km_;by_cases h:s=[]
  .rw[qL h,qL h]
  .rw[qP h,qP h];by_cases f:s.contains 10=true
   .obtain⟨_,_,_,q⟩:=bO_ f;rw[qL f,qL f,p8_ k m _ (by rw[qC];omega) (by rw[qC];omega)]
   .rw[qP f,qP f]
theorem k7_{s:tX}(h:s.contains 10=true):db_ s=s.take (ae_ [10] s)::db_ (s.drop (ae_ [10] s+1)):=by
 obtain⟨_,_,_,j⟩:=bO_ h;have f:s≠[]:=by rintro rfl;cases h
 have e:db_ s=km_ (s.length+1) s:=rfl;rw[e]
 conv=>lhs;unfold km_
 rw[qP f,qL h]
 congr 1
 exact p8_ _ _ _ (by rw[qC];omega) (by omega)
theorem hH_{s:tX}(f:s≠[])(h:s.contains 10=false):db_ s=[s]:=by
 unfold db_ km_;rw[qP f,h];rfl
theorem n7_:∀(k:Nat) (s:tX),s.length<=k->(db_ s).length<=s.length
 | k,s,j=>by
  by_cases f:s=[]
  .subst f;exact qE _
  .cases h:s.contains 10 with
   | true =>
    obtain⟨_,_,_,p⟩:=bO_ h;rw[k7_ h,qLc];cases k with
    | zero=>omega
    | succ k =>
     have:=n7_ k (s.drop (ae_ [10] s+1)) (by rw[qC];omega);rw[qC]at this;omega
   | false =>
    rw[hH_ f h];exact zq.2 f
theorem n8_:∀(k:Nat) (s:tX),s.length<=k->∀t∈db_ s,t.length<=s.length/\t.contains 10=false
 | k, s,q,t,f=>by
  by_cases h:s=[]
  .subst h;cases f
  .cases j:s.contains 10 with
   | true =>
    obtain⟨_,p,_,u⟩:=bO_ j;rw[k7_ j]at f;rcases qD.1 f with rfl|f
    .exact⟨by rw[qA];omega,p⟩
    .cases k with
     | zero=>omega
     | succ k =>
      have:=n8_ k (s.drop (ae_ [10] s+1)) (by rw[qC];omega) t f;rw[qC]at this;exact⟨by omega,this.2⟩
   | false =>
    rw[hH_ h j]at f;rw[qH.1 f];exact⟨qE _,j⟩
def gn_(s:tX):tX:=if s.getLast? = some 10 then s.dropLast else s
theorem trim_eq{s:tX}(p:s.length<=1000000000)(f:s≠[]):strings_TrimSuffix s [10]=some (gn_ s):=by
 obtain⟨x,b,rfl⟩:∃x b,s=x++[b]:=⟨s.dropLast,s.getLast f,(List.dropLast_concat_getLast f).symm⟩;simp only[qLa,qLc,qQ]at p;have e:gn_ (x++[b])=if b=10 then x else x++[b]:=by
  unfold gn_;simp
 rw[e];unfold strings_TrimSuffix cZ_ c6_;have j:w64 (((x++[b]).length:Int)-(([10]:tX).length:Int))=(x.length:Int):=by
  rw[ar_ ⟨by simp only[qLa,qLc,qQ];omega,by simp only[qLa,qLc,qQ];omega⟩];simp only[qLa,qLc,qQ];omega
 rw[j,qK (by simp only[qLa,qLc,qQ];omega),qW,ax_ (by omega) (by simp only[qLa,qLc,qQ];omega) (qt _)];simp only[qBs,qTn,qb];rw[show(x++[b]).drop x.length=[b]by simp];by_cases h:b=10
 .subst h;rw[qL rfl,show(([10]:tX)==[10])=true from rfl,qW,ax_ (qt 0) (by omega) (by simp only[qLa,qLc,qQ];omega)];simp
 .rw[qP h,show(([b]:tX)==[10])=false from by simp[h],qZ];rfl
theorem rX_:∀(k:Nat) (s:tX),s.length<=k->s≠[]->splitK ((gn_ s).count 10) (gn_ s)=db_ s
 | k, s,F,q=>by
  cases f:s.contains 10 with
  | false =>
   have j:gn_ s=s:=by
    unfold gn_;rw[qP];intro h;have:=List.mem_of_getLast? h;rw[zl.2 this]at f;cases f
   rw[j,e4_ f,hH_ q f]
  | true =>
   obtain⟨j,u,J,G⟩:=bO_ f;rw[k7_ f];generalize s.take (ae_ [10] s)=a at *
   obtain⟨r,hr⟩:∃r,s.drop (ae_ [10] s+1)=r:=⟨_,rfl⟩;rw[hr]at j ⊢;have y:r.length<s.length:=by rw[←hr,qC];omega
   by_cases p:r=[]
   .subst p;have e:gn_ s=a:=by
     rw[j];unfold gn_;simp
    rw[e,e4_ u];rfl
   .have e:gn_ s=a++10::gn_ r:=by
     rw[j];unfold gn_;have g1:(a++10::r).getLast? = r.getLast? := by
      rw[List.getLast?_append,List.getLast?_cons];cases C:r.getLast? with
      | none=>exact absurd (List.getLast?_eq_none_iff.1 C) p
      | some x=>simp
     have D:(a++10::r).dropLast=a++10::r.dropLast:=by
      rw[List.dropLast_append_of_ne_nil (by simp),List.dropLast_cons_of_ne_nil p]
     rw[g1,D];split<;>rfl
    rw[e,List.count_append,nX_ u,qh,List.count_cons_self,splitK_app u]
    congr 1
    cases k with
    | zero=>omega
    | succ k=>exact rX_ k r (by omega) p
theorem split_goC{s:tX}(hs:s.length<=1000000000){c:Nat}(V:c<=s.length):∀(k:Nat) (t:tX) (i:Nat) (A:tL tX) (f:Nat),t.count 10=k->k<f->A.length=i->i+k=c->t.length<=s.length->splitK c s=A++splitK k t ->
  ∃x A',af_ (bg_ ((c+1:Nat):Int) s [10] 0) f (t,(i:Int),A++List.replicate (c+1-i) [])=some (x,(c:Int),A'++[[]])/\A'.length=c/\splitK c s=A'++[x]:=by
 have j:cz_ ((c+1:Nat):Int) (w64 ((s.length:Int)+1))=((c+1:Nat):Int):=by
  rw[ar_ ⟨by omega,by omega⟩];unfold cz_;split<;>omega
 intro k
 induction k with
 | zero =>
  intro t i A f C U u hi O h;obtain⟨f,rfl⟩:∃g,f=g+1:=⟨f-1,by omega⟩;have y:i=c:=by omega
  subst y;refine⟨t,A,aj_ ?_,u,h⟩;unfold bg_;simp only[];rw[j,ar_ (n:=((i+1:Nat):Int)-1) ⟨by omega,by omega⟩,qV (by omega),show i+1-i=1 by omega];rfl
 | succ k M =>
  intro t i A f C U u hi O h;obtain⟨f,rfl⟩:∃g,f=g+1:=⟨f-1,by omega⟩;have D:t.contains 10=true:=me_ (by omega);obtain⟨J,G,F,k4⟩:=bO_ D;have q:(t.drop (ae_ [10] t+1)).count 10=k:=by
   have:=qa (List.count 10) J;rw[List.count_append,nX_ G,List.count_cons_self,C]at this;omega
  obtain⟨x,A',Z,Y⟩:=M (t.drop (ae_ [10] t+1)) (i+1) (A++[t.take (ae_ [10] t)]) f q (by omega) (by rw[qLa,u];rfl) (by omega) (by rw[qC];omega) (by
   rw[h,k5_ D,qS];rfl)
  refine⟨x,A',(an_ ?_ Z),Y⟩;unfold bg_;simp only[];rw[j,ar_ (n:=((c+1:Nat):Int)-1) ⟨by omega,by omega⟩,qK (by omega),qW];unfold strings_Index stringslite_Index;simp only[qBs];rw[F,qV (by omega),qZ,Int.add_zero,ar_ (n:=((ae_ [10] t:Nat):Int)) ⟨by omega,by omega⟩,ax_ (qt 0) (by omega) (by omega)];simp only[qBs,qTn,jN,zO];have p:ah_ (A++List.replicate (c+1-i) ([]:tX)) (i:Int)=some []:=by
   rw[aX_,zZ (by omega),u,jd,jO,qL (by omega)]
  rw[p];simp only[qBs];rw[ar_ (n:=((ae_ [10] t:Nat):Int)+(([10]:tX).length:Int)) ⟨by simp only[qLc,qQ];omega,by simp only[qLc,qQ];omega⟩,ax_ (by simp only[qLc,qQ];omega) (by simp only[qLc,qQ];omega) (qt _)];simp only[qBs,qTn,qb];rw[ai_ (by omega)];have e1:(((ae_ [10] t:Nat):Int)+(([10]:tX).length:Int)).toNat=ae_ [10] t+1:=by simp only[qLc,qQ];omega
  rw[e1];have e2:(A++List.replicate (c+1-i) ([]:tX)).set i (t.take (ae_ [10] t))=A++[t.take (ae_ [10] t)]++List.replicate (c+1-(i+1)) []:=by
   rw[←u,show c+1-A.length=(c+1-(A.length+1))+1 by omega,set_rep]
  rw[e2]
theorem split_eq10{s:tX}(q:s.length<=1000000000):strings_Split s [10]=some (splitK (s.count 10) s):=by
 have h:s.count 10<=s.length:=List.count_le_length;unfold strings_Split strings_genSplit;rw[show((-1:Int)==0)=false from rfl,qZ,show(([10]:tX)==[])=false from rfl,qZ,show decide ((-1:Int)<0)=true from rfl,qW];have ec:strings_Count s [10]=some ((s.count 10:Nat):Int):=rfl;rw[ec];simp only[qBs];rw[ai_ (by omega)];have f:cz_ ((s.count 10+1:Nat):Int) (w64 ((s.length:Int)+1))=((s.count 10+1:Nat):Int):=by
  rw[ar_ ⟨by omega,by omega⟩];unfold cz_;split<;>omega
 rw[f,il_ (by omega) (by omega) (by omega)];simp only[qBs,qTn];obtain⟨t,A,x,p,u⟩:=split_goC q h (s.count 10) s 0 [] BIG rfl (au_ (by omega)) rfl (by omega) (qE _) rfl;have j:af_ (bg_ ((s.count 10+1:Nat):Int) s [10] 0) BIG (s,0,List.replicate (s.count 10+1) [])=some (t,((s.count 10:Nat):Int),A++[[]]):=x;rw[j];simp only[qBs];rw[dm_ (by rw[p])];simp only[qBs,qTn];rw[ei_ p.symm,ai_ (by omega),ax_ (qt 0) (by omega) (by simp only[qLa,qLc,qQ];omega)];simp only[qBs,qTn]
 congr 1
 rw[u,qr (by simp only[qLa,qLc,qQ];omega)]
theorem lines_eq{s:tX}(h:s.length<=1000000000):ho_ s=some (db_ s):=by
 unfold ho_;by_cases f:s=[]
 .subst f;rfl
 .have j:(gn_ s).length<=s.length:=by
   unfold gn_;split
   .rw[List.length_dropLast];omega
   .exact qE _
  rw[show(s==[])=false from by simpa using f,qZ,trim_eq h f];simp only[qBs];rw[split_eq10 (by omega),rX_ _ s (qE _) f];rfl
theorem refLines_go{s:tX}(hs:s.length<=1000000000):∀(k fr i:Nat) (l:tL tX) (f:Nat),s.length-i<=k->k<f->fr<=i->i<=s.length->l.length<=i->((s.drop fr).take (i-fr)).contains 10=false ->
  ∃(fr':Nat) (q:tL tX),af_ (ef_ s) f ((fr:Int),(i:Int),l)=some ((fr':Int),q)/\fr'<=s.length/\q.length<=s.length/\q++(if fr'<s.length then[s.drop fr']else[])=l++db_ (s.drop fr):=by
 intro k
 induction k with
 | zero =>
  intro fr i l f hk hf x hi G j;obtain⟨f,rfl⟩:∃g,f=g+1:=⟨f-1,by omega⟩;have:i=s.length:=by omega
  subst this;refine⟨fr,l,aj_ ?_,x,G,?_⟩
  .unfold ef_;simp only[];rw[qV (by omega)];rfl
  .rw[qr (by rw[qC];omega)]at j
   congr 1
   by_cases h:fr<s.length
   .rw[qL h,hH_ (λe=>by have:=qa List.length e;rw[qC]at this;simp at this;omega) j]
   .rw[qP h,zi (by omega)];rfl
 | succ k V =>
  intro fr i l f hk hf x hi G j;obtain⟨f,rfl⟩:∃g,f=g+1:=⟨f-1,by omega⟩;by_cases u:i<s.length
  .by_cases p:s[i]=10
   .have D:(s.drop fr)[i-fr]? = some 10:=by
     rw[zW,show fr+(i-fr)=i by omega,qY u,p]
    obtain⟨Z,hc⟩:=jZ_ j D;obtain⟨fr',q,U,O,M,J⟩:=V (i+1) (i+1) (l++[(s.drop fr).take (i-fr)]) f (by omega) (by omega) (qE _) (by omega) (by simp only[qLa,qLc,qQ];omega) (by rw[jd];rfl);refine⟨fr',q,an_ ?_ U,O,M,?_⟩
    .unfold ef_;simp only[];rw[qK (by omega),qW,aJ_ u];simp only[qBs];rw[p,show(((10:UInt8).toNat:Int)==10)=true from rfl,qW,ax_ (by omega) (by omega) (by omega)];simp only[qBs,qTn];have e1:(s.take i).drop fr=(s.drop fr).take (i-fr):=by rw[jC]
     rw[e1,az_ (by simp only[qLc,qQ];omega) (by simp only[qLc,qQ];omega),ai_ (by omega)];rfl
    .rw[J,k7_ hc,Z,qS,zz,show fr+(i-fr+1)=i+1 by omega];rfl
   .obtain⟨fr',q,U,O,M,J⟩:=V fr (i+1) l f (by omega) (by omega) (by omega) (by omega) (by omega) (by
     have y:i-fr<(s.drop fr).length:=by rw[qC];omega
     rw[show i+1-fr=(i-fr)+1 by omega,List.take_add_one,qY y];have:(s.drop fr)[i-fr]=s[i]:=by rw[List.getElem_drop];congr 1;omega
     rw[this];cases F:(List.take (i-fr) (List.drop fr s)++(some s[i]).toList).contains 10 with
     | false=>rfl
     | true =>
      rw[zl]at F;rcases qF.1 F with C|C
      .rw[←zl,j]at C;cases C
      .simp at C;exact absurd C.symm p)
    refine⟨fr',q,an_ ?_ U,O,M,J⟩;unfold ef_;simp only[];have Y:((s[i].toNat:Int)==10)=(s[i]==10):=aV_ _ 10;rw[qK (by omega),qW,aJ_ u];simp only[qBs];rw[Y,qX.2 p,qZ,ai_ (by omega)];rfl
  .have:i=s.length:=by omega
   subst this;exact(λh=>h) (by
    refine⟨fr,l,aj_ ?_,x,G,?_⟩
    .unfold ef_;simp only[];rw[qV (by omega)];rfl
    .rw[qr (by rw[qC];omega)]at j
     congr 1
     by_cases h:fr<s.length
     .rw[qL h,hH_ (λe=>by have:=qa List.length e;rw[qC]at this;simp at this;omega) j]
     .rw[qP h,zi (by omega)];rfl)
theorem refLines_eq{s:tX}(j:s.length<=1000000000):hy_ s=some (db_ s):=by
 obtain⟨fr,l,p,u,q,f⟩:=refLines_go j s.length 0 0 [] BIG (by omega) (au_ (by omega)) (qE _) (qO _) (qE _) rfl;unfold hy_;refine al_ p ?_;simp only[];by_cases h:fr<s.length
 .rw[qK (by omega),qW,ax_ (by omega) (by omega) (qt _)];simp only[qBs,qTn,qb];rw[az_ (by simp only[qLc,qQ];omega) (by simp only[qLc,qQ];omega)];rw[qL h]at f;simp only[qBs];rw[f];rfl
 .rw[qV (by omega),qZ];rw[qP h,zP]at f;simp only[qBs];rw[f];rfl
def kn_(s:tX):tV:=match bu_ s with|some v=>v.2.2==0|none=>false
theorem comp_eq(s:tX):∃v,bu_ s=some v/\b7_ s=some v/\(v.2.2==0)=kn_ s:=by
 rcases pj_ s with⟨_,f,h⟩|⟨_,r,_,f,h⟩
 .exact⟨_,f,h,by unfold kn_;rw[f]⟩
 .exact⟨_,f,h,by unfold kn_;rw[f]⟩
def b8_(o:tX):tV:=((((o==[115,114,99])||(o==[100,115,116]))||(o==[119,100,105,114]))||(o==[116,121,112,101]))||(o==[100,97,116,97])
def dz_(o:tX):tV:=o==[97,116,116,114]
def bs_(o:tX):tV:=o==[112,108,117,109,98]
def iE_(v:tX):tV:=v==[109,97,116,99,104,101,115]
def j0_(f a p:tV)(v:tX):tV:=bif f then(v==[105,115]||(v==[105,115,110]||(iE_ v||v==[115,101,116])))else bif a then(v==[105,115]||(v==[105,115,110]||(v==[97,100,100]||v==[100,101,108,101,116,101])))else bif p then v==[116,111]else false
def aF_(p:Xf):tV:=j0_ (b8_ p.Xp) (dz_ p.Xp) (bs_ p.Xp) p.Xs&&(!(p.Yq==[])&&(decide (p.Yq.length<=1024)&&(!(p.Yq.contains 10)&&(!(iE_ p.Xs)||kn_ p.Yq))))
theorem ko_(o:tX):(b8_ o=true->dz_ o=false)/\(b8_ o=true->bs_ o=false)/\(dz_ o=true->bs_ o=false):=by
 refine⟨λh => ?_,λh => ?_,λh => ?_⟩
 .unfold b8_ at h;simp only[zh,qn]at h;rcases h with(((h|h)|h)|h)|h<;>subst h<;>rfl
 .unfold b8_ at h;simp only[zh,qn]at h;rcases h with(((h|h)|h)|h)|h<;>subst h<;>rfl
 .unfold dz_ at h;rw[qn]at h;subst h;rfl
theorem verb_ref (f a p c:tV) (q:f=true->a=false) (j:f=true->p=false) (h:a=true->p=false) (v:tX) :
  (bif(bif v==[105,115]then v==[105,115]else v==[105,115,110])then(f||a)else bif v==[115,101,116]then f else bif v==[109,97,116,99,104,101,115]then(f&&c)else bif(bif v==[97,100,100]then v==[97,100,100]else v==[100,101,108,101,116,101])then a else bif v==[116,111]then p else false)=(j0_ f a p v&&(!(iE_ v)||c)):=by
 by_cases F:v=[105,115]
 .subst F;cases f<;>cases a<;>cases p<;>cases c<;>first|rfl|exact absurd (q rfl) (by decide)|exact absurd (j rfl) (by decide)|exact absurd (h rfl) (by decide)
 .by_cases D:v=[105,115,110]
  .subst D;cases f<;>cases a<;>cases p<;>cases c<;>first|rfl|exact absurd (q rfl) (by decide)|exact absurd (j rfl) (by decide)|exact absurd (h rfl) (by decide)
  .by_cases C:v=[115,101,116]
   .subst C;cases f<;>cases a<;>cases p<;>cases c<;>first|rfl|exact absurd (q rfl) (by decide)|exact absurd (j rfl) (by decide)|exact absurd (h rfl) (by decide)
   .by_cases y:v=[109,97,116,99,104,101,115]
    .subst y;cases f<;>cases a<;>cases p<;>cases c<;>first|rfl|exact absurd (q rfl) (by decide)|exact absurd (j rfl) (by decide)|exact absurd (h rfl) (by decide)
    .by_cases x:v=[97,100,100]
     .subst x;cases f<;>cases a<;>cases p<;>cases c<;>first|rfl|exact absurd (q rfl) (by decide)|exact absurd (j rfl) (by decide)|exact absurd (h rfl) (by decide)
     .by_cases u:v=[100,101,108,101,116,101]
      .subst u;cases f<;>cases a<;>cases p<;>cases c<;>first|rfl|exact absurd (q rfl) (by decide)|exact absurd (j rfl) (by decide)|exact absurd (h rfl) (by decide)
      .by_cases s:v=[116,111]
       .subst s;cases f<;>cases a<;>cases p<;>cases c<;>first|rfl|exact absurd (q rfl) (by decide)|exact absurd (j rfl) (by decide)|exact absurd (h rfl) (by decide)
       .unfold j0_ iE_;rw[qX.2 F,qX.2 D,qX.2 C,qX.2 y,qX.2 x,qX.2 u,qX.2 s];cases f<;>cases a<;>cases p<;>rfl
theorem i6_{l:tL tX}{x:tX}(j:l.length<=1000):aZ_ l x=some (l.contains x):=by
 unfold aZ_ dY_;have h:=bw_ (body:=cq_ l x) l (λi y=>if(x==y)=true then some ((i:Nat):Int)else none) (au_ (by omega)) (λi hi=>by
  unfold cq_;rw[aB_ hi,qW,aq_ hi];simp only[qBs];cases x==l[i]with
  | true=>rfl
  | false =>
   simp only[qZ,qM,zY,dr_];rw[ai_ (by omega)]) (by
  unfold cq_;rw[aM_];rfl)
 refine al_ ((bD_ (x:=(-1:Int)) h (λr=>rfl) rfl).trans (qa some (pL_ (λy=>x==y) l))) ?_;rw[at_any]
 congr 1
 induction l with
 | nil=>rfl
 | cons y l f =>
  rw[jp,zB]
  congr 1
  clear h f j
  induction l with
  | nil=>rfl
  | cons y l f=>rw[jp,zB,f]
theorem verbs_eq(o v:tX):((eZ_ o).bind λy=>(aZ_ y v).bind λz=>some z)=some (j0_ (b8_ o) (dz_ o) (bs_ o) v):=by
 have e:eZ_ o=some (bif b8_ o then[[105,115],[105,115,110],[109,97,116,99,104,101,115],[115,101,116]]else bif dz_ o then[[105,115],[105,115,110],[97,100,100],[100,101,108,101,116,101]]else bif bs_ o then[[116,111]]else[]):=by
  unfold eZ_ b8_ dz_ bs_;cases o==[115,114,99]<;>cases o==[100,115,116]<;>cases o==[119,100,105,114]<;>cases o==[116,121,112,101]<;>cases o==[100,97,116,97]<;>cases o==[97,116,116,114]<;>cases o==[112,108,117,109,98]<;>rfl
 rw[e];unfold j0_ iE_;simp only[qBs];cases b8_ o with
 | true =>
  simp only[qW];rw[i6_ (by simp)];simp only[qBs,zB,jD,za]
 | false =>
  simp only[qZ];cases dz_ o with
  | true =>
   simp only[qW];rw[i6_ (by simp)];simp only[qBs,zB,jD,za]
  | false =>
   simp only[qZ];cases bs_ o with
   | true =>
    simp only[qW];rw[i6_ (by simp)];simp only[qBs,zB,jD,za]
   | false =>
    simp only[qZ];rw[i6_ (by simp)];rfl
theorem bind_eta{α β γ:Type}{A:tO α}{B:α->tO β}{f:β->tO γ}{r:β}(h:(A.bind λy=>(B y).bind λz=>some z)=some r):(A.bind λy=>(B y).bind f)=f r:=by
 cases A with
 | none=>cases h
 | some a =>
  simp only[qBs]at h ⊢;cases j:B a with
  | none=>rw[j]at h;cases h
  | some b =>
   rw[j]at h;simp only[qBs]at h ⊢;rw[qSj h]
theorem sound_eq(p:Xf):hp_ p=some (aF_ p):=by
 unfold hp_ aF_;rw[lT_,lT_];rw[bind_eta (verbs_eq p.Xp p.Xs)];cases j0_ (b8_ p.Xp) (dz_ p.Xp) (bs_ p.Xp) p.Xs with
 | false=>rfl
 | true =>
  simp only[qN,qZ,qm];cases q:p.Yq==[]with
  | true=>rfl
  | false =>
   simp only[qZ,qf,qm];by_cases f:p.Yq.length<=1024
   .rw[qV (by omega),qZ,mz_,qK f,qm];simp only[qBs];cases p.Yq.contains 10 with
    | true=>rfl
    | false =>
     unfold iE_;simp only[qZ,qf,qm];cases p.Xs==[109,97,116,99,104,101,115]with
     | false=>rfl
     | true =>
      obtain⟨v,h,_,j⟩:=comp_eq p.Yq;rw[h];simp only[qN,qZ,qBs,zX];rw[j]
   .rw[qK (by omega),qV f];rfl
theorem rY_(p:Xf):fR_ p=some (aF_ p):=by
 obtain⟨C,y,x⟩:=ko_ p.Xp;obtain⟨v,_,q,u⟩:=comp_eq p.Yq;have s:hu_ p.Xp=some (b8_ p.Xp):=rfl;have f:=verb_ref (b8_ p.Xp) (dz_ p.Xp) (bs_ p.Xp) (kn_ p.Yq) C y x p.Xs;unfold fR_ aF_;cases D:p.Yq==[]with
 | true=>simp only[qW,qBs,qN,zd,zr]
 | false =>
  simp only[qZ];rw[rM_];simp only[qBs];by_cases j:p.Yq.length<=1024
  .cases h:p.Yq.contains 10 with
   | true =>
    have:gl_ p.Yq=2:=by unfold gl_;rw[qP (by omega),qL h]
    rw[this];simp
   | false =>
    have:gl_ p.Yq=0:=by unfold gl_;rw[qP (by omega),h];rfl
    rw[this,show((0:Int) != 0)=false from rfl,qZ,q,s,qK j];simp only[qBs,qf,qm];rw[u,←f];unfold dz_ bs_;cases p.Xs==[105,115]<;>cases p.Xs==[105,115,110]<;>cases p.Xs==[115,101,116]<;>cases p.Xs==[109,97,116,99,104,101,115]<;>cases p.Xs==[97,100,100]<;>cases p.Xs==[100,101,108,101,116,101]<;>cases p.Xs==[116,111]<;>rfl
  .have:gl_ p.Yq=4:=by unfold gl_;rw[qL (by omega)]
   rw[this,qV j];simp
theorem k8_{p:Xf}(h:aF_ p=true):p.Xp.length<=5/\p.Xs.length<=7/\p.Yq.length<=1024/\p.Yq≠[]/\p.Yq.contains 10=false/\p.Xp≠[]/\p.Xs≠[]/\(∀b∈p.Xp,97<=b.toNat)/\(∀b∈p.Xs,97<=b.toNat):=by
 unfold aF_ at h;simp only[qAn,qo,qDe]at h;obtain⟨f,y,D,C,_⟩:=h;have u:p.Xs=[105,115]\/p.Xs=[105,115,110]\/p.Xs=[109,97,116,99,104,101,115]\/p.Xs=[115,101,116]\/p.Xs=[97,100,100]\/p.Xs=[100,101,108,101,116,101]\/p.Xs=[116,111]:=by
  unfold j0_ iE_ at f;cases j:b8_ p.Xp with
  | true =>
   rw[j]at f;simp only[qW,zh,qn]at f;rcases f with h|h|h|h<;>simp[h]
  | false =>
   cases q:dz_ p.Xp with
   | true =>
    rw[j,q]at f;simp only[qW,qZ,zh,qn]at f;rcases f with h|h|h|h<;>simp[h]
   | false =>
    cases s:bs_ p.Xp with
    | true =>
     rw[j,q,s]at f;simp only[qW,qZ,qn]at f;simp[f]
    | false=>rw[j,q,s]at f;cases f
 have x:p.Xp=[115,114,99]\/p.Xp=[100,115,116]\/p.Xp=[119,100,105,114]\/p.Xp=[116,121,112,101]\/p.Xp=[100,97,116,97]\/p.Xp=[97,116,116,114]\/p.Xp=[112,108,117,109,98]:=by
  cases j:b8_ p.Xp with
  | true =>
   unfold b8_ at j;simp only[zh,qn]at j;rcases j with(((h|h)|h)|h)|h<;>simp[h]
  | false =>
   cases q:dz_ p.Xp with
   | true=>unfold dz_ at q;rw[qn]at q;simp[q]
   | false =>
    cases s:bs_ p.Xp with
    | true=>unfold bs_ at s;rw[qn]at s;simp[s]
    | false=>rw[j,q,s]at f;cases f
 have y:p.Yq≠[]:=by simpa using y
 refine⟨?_,?_,D,y,C,?_,?_,?_,?_⟩
 .rcases x with h|h|h|h|h|h|h<;>rw[h]<;>decide
 .rcases u with h|h|h|h|h|h|h<;>rw[h]<;>decide
 .rcases x with h|h|h|h|h|h|h<;>rw[h]<;>decide
 .rcases u with h|h|h|h|h|h|h<;>rw[h]<;>decide
 .rcases x with h|h|h|h|h|h|h<;>rw[h]<;>decide
 .rcases u with h|h|h|h|h|h|h<;>rw[h]<;>decide
def gVal(n:Nat)(i:Nat)(p:Xf):tO tV:=if(!(aF_ p) || !((bs_ p.Xp)==((i:Int)==(n:Int)-1)))=true then some false else none
def bG_(r:Xw):tV:=decide (1<=r.Xb.length)&&(decide (r.Xb.length<=32)&&(bh_ (gVal r.Xb.length) 0 r.Xb).getD true)
theorem valid_eq(r:Xw):hr_ r=some (bG_ r):=by
 unfold hr_ bG_;by_cases h:1<=r.Xb.length
 .by_cases f:r.Xb.length<=32
  .rw[qV (by omega),qV (by omega),qK h,qK f,qm,qm,za,qZ];refine bD_ (bw_ r.Xb (gVal r.Xb.length) (au_ (by omega)) (λi hi => ?_) ?_) (λr=>rfl) rfl
   .unfold jo_ gVal;rw[aB_ hi,qW,aq_ hi];simp only[qBs];rw[sound_eq];simp only[qBs];rw[ar_ (n:=(r.Xb.length:Int)-1) ⟨by omega,by omega⟩,ai_ (by omega)];show(bif(!(aF_ r.Xb[i]) || !((bs_ (r.Xb[i]).Xp)==((i:Int)==(r.Xb.length:Int)-1)))then some (Step.done (Out.ret false))else some (Step.next ((i+1:Nat):Int)))=_;cases(!(aF_ r.Xb[i]) || !((bs_ (r.Xb[i]).Xp)==((i:Int)==(r.Xb.length:Int)-1)))<;>rfl
   .unfold jo_;rw[aM_];rfl
  .rw[qK (by omega:(r.Xb.length:Int)>32),qV f,jE,qW,zd,zr]
 .rw[qK (by omega:(r.Xb.length:Int)<1),qV h];rfl
theorem p9_(r:Xw):hw_ r=some (bG_ r):=by
 unfold hw_ bG_;by_cases h:1<=r.Xb.length
 .by_cases f:r.Xb.length<=32
  .rw[qV (by omega),qV (by omega),qK h,qK f,qm,qm,za,qZ];refine bD_ (bw_ r.Xb (gVal r.Xb.length) (au_ (by omega)) (λi hi => ?_) ?_) (λr=>rfl) rfl
   .unfold jp_ gVal;rw[aB_ hi,qW,aq_ hi];simp only[qBs];rw[rY_];simp only[qBs];rw[ar_ (n:=(r.Xb.length:Int)-1) ⟨by omega,by omega⟩,ai_ (by omega)];have e:(bif !(aF_ r.Xb[i])then some true else some (!(((r.Xb[i]).Xp==[112,108,117,109,98])==((i:Int)==(r.Xb.length:Int)-1))))=some (!(aF_ r.Xb[i]) || !((bs_ (r.Xb[i]).Xp)==((i:Int)==(r.Xb.length:Int)-1))):=by
     cases aF_ r.Xb[i]<;>rfl
    rw[e];simp only[qBs];cases(!(aF_ r.Xb[i]) || !((bs_ (r.Xb[i]).Xp)==((i:Int)==(r.Xb.length:Int)-1)))<;>rfl
   .unfold jp_;rw[aM_];rfl
  .rw[qK (by omega:(r.Xb.length:Int)>32),qV f,jE,qW,zd,zr]
 .rw[qK (by omega:(r.Xb.length:Int)<1),qV h];rfl
theorem ec_(r:Xw):bG_ r=true↔1<=r.Xb.length/\r.Xb.length<=32/\∀i p,r.Xb[i]? = some p->aF_ p=true/\bs_ p.Xp=decide (i+1=r.Xb.length):=by
 have x:∀i p,gVal r.Xb.length i p=none↔aF_ p=true/\bs_ p.Xp=decide (i+1=r.Xb.length):=by
  intro i p;unfold gVal;have e:((i:Int)==(r.Xb.length:Int)-1)=decide (i+1=r.Xb.length):=by
   by_cases h:i+1=r.Xb.length
   .rw[qK h,qn];omega
   .rw[qV h,qX];omega
  rw[e];cases aF_ p<;>cases bs_ p.Xp<;>cases decide (i+1=r.Xb.length)<;>simp
 unfold bG_;rw[qAn,qAn,qDe,qDe];refine and_congr_right λ_=>and_congr_right λ_ => ?_
 constructor
 .intro h i p u;cases s:bh_ (gVal r.Xb.length) 0 r.Xb with
  | none =>
   have:=scan_none.1 s i p u;rw[qh]at this;exact(x i p).1 this
  | some b =>
   rw[s]at h;obtain⟨j,q,_,f,_⟩:=ix_ s;unfold gVal at f;split at f
   .rw[←qSj f]at h;cases h
   .cases f
 .intro h;have:bh_ (gVal r.Xb.length) 0 r.Xb=none:=scan_none.2 λi p u=>by
   rw[qh];exact(x i p).2 (h i p u)
  rw[this];rfl
def eR_(p:Xf):tX:=p.Xp++32::(p.Xs++32::(p.Yq++[10]))
def k9_(r:Xw):tX:=r.Xb.flatMap eR_
def dG_(l:tL Xw):tX:=cF_ [10] (l.map k9_)
theorem lineS_len{p:Xf}(h:aF_ p=true):(eR_ p).length<=1040:=by
 obtain⟨q,j,f,_⟩:=k8_ h;unfold eR_;simp only[qLa,qLc,qQ];omega
theorem n9_:∀(l:tL Xf),(∀p∈l,aF_ p=true)->(l.flatMap eR_).length<=1040*l.length
 | [],_=>qE _
 | p::l,h=>by
  have s:=lineS_len (h p qT);have j:=n9_ l λq f=>h q (qG _ f)
  rw[List.flatMap_cons,qLa,qLc];omega
theorem mD_{r:Xw}(h:bG_ r=true):∀p∈r.Xb,aF_ p=true:=by
 intro p f;obtain⟨i,hi⟩:=jW.1 f;exact(((ec_ r).1 h).2.2 i p hi).1
theorem textR_len{r:Xw}(h:bG_ r=true):(k9_ r).length<=33280:=by
 have j:=n9_ r.Xb (mD_ h);have f:=((ec_ r).1 h).2.1;unfold k9_;omega
theorem pk_:∀(l:tL Xw),(∀r∈l,bG_ r=true)->(dG_ l).length<=33281*l.length:=by
 intro l h;unfold dG_;rw[lJ_];have:((l.map k9_).flatten).length<=33280*l.length:=by
  induction l with
  | nil=>exact qE _
  | cons r l f =>
   have s:=textR_len (h r qT);have p:=f λq j=>h q (qG _ j)
   rw[zH,zw,qLa,qLc];omega
 simp only[ql,qLc,qQ];omega
theorem rZ_{l:tL Xw}{i:Nat}(h:i<l.length):dG_ (l.take (i+1))=dG_ (l.take i)++((if 0<i then[10]else[])++k9_ l[i]):=by
 unfold dG_;rw[aW_ h,jZ,zH,jB];rcases zA i with rfl|hi
 .rfl
 .rw[qL hi,mf_];intro e;have:=qa List.length e;rw[ql,qA]at this;simp only[qQ]at this;omega
theorem cats_line{p:Xf}(h:aF_ p=true){γ:Type}{f:tX->tO γ}:((cat p.Xp [32]).bind λa=>(cat a p.Xs).bind λb=>(cat b [32]).bind λc=>(cat c p.Yq).bind λd=>(cat d [10]).bind f)=f (eR_ p):=by
 obtain⟨s,q,j,_⟩:=k8_ h;rw[bq_ (by simp only[qLc,qQ];omega)];simp only[qBs];rw[bq_ (by simp only[qLa,qLc,qQ];omega)];simp only[qBs];rw[bq_ (by simp only[qLa,qLc,qQ];omega)];simp only[qBs];rw[bq_ (by simp only[qLa,qLc,qQ];omega)];simp only[qBs];rw[bq_ (by simp only[qLa,qLc,qQ];omega)];simp only[qBs]
 congr 1
 unfold eR_;simp
theorem cats_line2{p:Xf}(h:aF_ p=true){s:tX}(j:s.length<=1000000000){γ:Type}{f:tX->tO γ}:((cat s p.Xp).bind λz=>(cat z [32]).bind λa=>(cat a p.Xs).bind λb=>(cat b [32]).bind λc=>(cat c p.Yq).bind λd=>(cat d [10]).bind f)=f (s++eR_ p):=by
 obtain⟨x,u,q,_⟩:=k8_ h;rw[bq_ (by omega)];simp only[qBs];rw[bq_ (by simp only[qLa,qLc,qQ];omega)];simp only[qBs];rw[bq_ (by simp only[qLa,qLc,qQ];omega)];simp only[qBs];rw[bq_ (by simp only[qLa,qLc,qQ];omega)];simp only[qBs];rw[bq_ (by simp only[qLa,qLc,qQ];omega)];simp only[qBs];rw[bq_ (by simp only[qLa,qLc,qQ];omega)];simp only[qBs]
 congr 1
 unfold eR_;simp
theorem flat_succ{l:tL Xf}{i:Nat}(h:i<l.length):(l.take (i+1)).flatMap eR_=(l.take i).flatMap eR_++eR_ l[i]:=by
 rw[aW_ h,List.flatMap_append];simp
theorem text_in{r:Xw}(h:bG_ r=true){A:tX}(x:A.length<=100000000):af_ (fP_ r) BIG (0,aG_ A)=some (aG_ (A++k9_ r)):=by
 have u:=(ec_ r).1 h;have q:=mD_ h;have s:∀i,((r.Xb.take i).flatMap eR_).length<=1040*32:=λi=>by
  have C:=n9_ (r.Xb.take i) (λp f=>q p (zK f));have y:(r.Xb.take i).length<=32:=by rw[qA];omega
  omega
 have:=bQ_ (body:=fP_ r) (T:=λi=>((i:Int),aG_ (A++(r.Xb.take i).flatMap eR_))) (b:=aG_ (A++k9_ r)) r.Xb.length (au_ (by omega)) (λi hi=>by
  unfold fP_;simp only[];rw[aB_ hi,qW,aq_ hi];simp only[qBs];have f:=q _ (qk hi);have j:=lineS_len f;rw[cats_line f,az_ (by rw[aE_,aE_,qLa];have:=s i;omega) (by rw[aE_,aE_,qLa];have:=s i;omega)];simp only[qBs];rw[ai_ (by omega),flat_succ hi,←gz_,qS]) (by
  unfold fP_;simp only[];rw[aM_,qb];rfl)
 have e:((((0:Nat):Int),aG_ (A++(r.Xb.take 0).flatMap eR_)):Int×tL Int)=(0,aG_ A):=by simp
 rw[e]at this;exact this
theorem refText_in{l:tL Xw}{i:Nat}(hi:i<l.length)(h:bG_ l[i]=true){A:tX}(y:A.length<=100000000){s:tX}:af_ (fS_ l (s,(i:Int))) BIG (A,0)=some (A++k9_ l[i]):=by
 have x:=(ec_ l[i]).1 h;have q:=mD_ h;have u:∀k,(((l[i]).Xb.take k).flatMap eR_).length<=1040*32:=λk=>by
  have D:=n9_ ((l[i]).Xb.take k) (λp j=>q p (zK j));have C:((l[i]).Xb.take k).length<=32:=by rw[qA];omega
  omega
 have:=bQ_ (body:=fS_ l (s,(i:Int))) (T:=λk=>(A++((l[i]).Xb.take k).flatMap eR_,(k:Int))) (b:=A++k9_ l[i]) (l[i]).Xb.length (au_ (by omega)) (λk f=>by
  unfold fS_;simp only[];rw[aq_ hi];simp only[qBs];rw[aB_ f,qW,aq_ f];simp only[qBs];have j:=q _ (qk f);rw[cats_line2 j (by rw[qLa];have:=u k;omega),ai_ (by omega),flat_succ f,qS]) (by
  unfold fS_;simp only[];rw[aq_ hi];simp only[qBs];rw[aM_,qb];rfl)
 have e:((A++((l[i]).Xb.take 0).flatMap eR_,((0:Nat):Int)):tX×Int)=(A,0):=by simp
 rw[e]at this;exact this
def ev_(l:tL Xw):tX×Int:=if 64<l.length then([],22)else if l.all bG_ then(dG_ l,0)else([],50)
theorem text_eq23 (l:tL Xw):gT_ l=some (ev_ l):=by
 unfold gT_ ev_;by_cases h:64<l.length
 .rw[qK (by omega),qL h];rfl
 .rw [qV (by omega),qP h,qZ]
  have C:af_ (hR_ l) BIG (0,[])=some (if l.all bG_ then .fall (aG_ (dG_ l))else .ret ([],50)):=by
   refine ik_ (J:=λi s b=>(l.take i).all bG_=true/\s=((i:Int),aG_ (dG_ (l.take i)))/\b=(if(l.drop i).all bG_ then Out.fall (aG_ (dG_ l))else Out.ret ([],50))) l.length (au_ (by omega)) (λs b p => ?_) (λi s b hi p => ?_) ⟨rfl,by rfl,by rfl⟩
   .obtain⟨_,rfl,rfl⟩:=p;unfold hR_;simp only[];rw[aM_,qb,ze];rfl
   .obtain⟨f,rfl,rfl⟩:=p;rw[qi hi,jR];have u:=pk_ (l.take i) (λr hr=>qx.1 f r hr);have j:(l.take i).length<=64:=by rw[qA];omega
    unfold hR_;simp only[];rw[aB_ hi,qW,aq_ hi];simp only[qBs];rw[valid_eq];simp only[qBs];cases q:bG_ l[i]with
    | false=>exact .inl rfl
    | true =>
     simp only[qN,qZ,qm];refine .inr ⟨_,?_,?_,rfl,trivial⟩
     .have D:(bif decide ((i:Int)>0)then(room 1 (aG_ (dG_ (l.take i))) (aG_ [10])).bind λy=>some y else some (aG_ (dG_ (l.take i))))=some (aG_ (dG_ (l.take i)++(if 0<i then[10]else[]))):=by
       by_cases x:0<i
       .rw[qK (by omega),qW,qL x,az_ (by rw[aE_,aE_];simp only[qLc,qQ];omega) (by rw[aE_,aE_];simp only[qLc,qQ];omega),gz_];rfl
       .rw[qV (by omega),qZ,qP x,zP]
      rw[D];simp only[qBs];rw[text_in q (by rw[qLa];split<;>simp only[qLc,qQ]<;>omega)];simp only[qBs];rw[ai_ (by omega),qS,←rZ_ hi]
     .rw[aW_ hi,List.all_append,f];simp[q]
  rw[C];simp only[qBs];cases l.all bG_ with
  | true =>
   simp only[zT];rw[e3_]
  | false=>rfl
theorem pl_ (l:tL Xw):iW_ l=some (ev_ l):=by
 unfold iW_ ev_;by_cases h:64<l.length
 .rw[qK (by omega),qL h];rfl
 .rw [qV (by omega),qP h,qZ]
  have C:af_ (hW_ l) BIG ([],0)=some (if l.all bG_ then .fall (dG_ l)else .ret ([],50)):=by
   refine ik_ (J:=λi s b=>(l.take i).all bG_=true/\s=(dG_ (l.take i),(i:Int))/\b=(if(l.drop i).all bG_ then Out.fall (dG_ l)else Out.ret ([],50))) l.length (au_ (by omega)) (λs b p => ?_) (λi s b hi p => ?_) ⟨rfl,by rfl,by rfl⟩
   .obtain⟨_,rfl,rfl⟩:=p;unfold hW_;simp only[];rw[aM_,qb,ze];rfl
   .obtain⟨f,rfl,rfl⟩:=p;rw[qi hi,jR];have u:=pk_ (l.take i) (λr hr=>qx.1 f r hr);have j:(l.take i).length<=64:=by rw[qA];omega
    unfold hW_;simp only[];rw[aB_ hi,qW,aq_ hi];simp only[qBs];rw[p9_];simp only[qBs];cases q:bG_ l[i]with
    | false=>exact .inl rfl
    | true =>
     simp only[qN,qZ,qm];refine .inr ⟨_,?_,?_,rfl,trivial⟩
     .have D:(bif decide ((i:Int)>0)then(cat (dG_ (l.take i)) [10]).bind λy=>some y else some (dG_ (l.take i)))=some (dG_ (l.take i)++(if 0<i then[10]else[])):=by
       by_cases x:0<i
       .rw[qK (by omega),qW,qL x,bq_ (by simp only[qLc,qQ];omega)];rfl
       .rw[qV (by omega),qZ,qP x,zP]
      rw[D];simp only[qBs];rw[refText_in hi q (by rw[qLa];split<;>simp only[qLc,qQ]<;>omega)];simp only[qBs];rw[ai_ (by omega),qS,←rZ_ hi]
     .rw[aW_ hi,List.all_append,f];simp[q]
  rw[C];cases l.all bG_<;>rfl
def cJ_(cur:tL Xf):tV:=match cur.getLast? with|some p=>bs_ p.Xp|none=>false
def d1_(s:tX):tX×tX:=if s.contains 32 then(s.take (ae_ [32] s),s.drop (ae_ [32] s+1))else(s,[])
def ck_(t:tX):Xf:=Xf.mk (d1_ t).1 (d1_ (d1_ t).2).1 (d1_ (d1_ t).2).2
theorem cut_eq{s:tX}(x:s.length<=1000000000):strings_Cut s [32]=some ((d1_ s).1,(d1_ s).2,s.contains 32):=by
 unfold strings_Cut c7_ stringslite_Index d1_;simp only[qBs];rw[pN_];cases h:s.contains 32 with
 | false=>rfl
 | true =>
  obtain⟨u,q,f,p⟩:=bO_ h;rw[f,qW,ax_ (qt 0) (by omega) (by omega)];simp only[qBs,qTn,jN,zO];rw[ar_ (n:=((ae_ [32] s:Nat):Int)+(([32]:tX).length:Int)) ⟨by simp only[qLc,qQ];omega,by simp only[qLc,qQ];omega⟩,ax_ (by simp only[qLc,qQ];omega) (by simp only[qLc,qQ];omega) (qt _)];simp only[qBs,qTn,qb];have j:(((ae_ [32] s:Nat):Int)+(([32]:tX).length:Int)).toNat=ae_ [32] s+1:=by simp only[qLc,qQ];omega
  rw[j];rfl
theorem cut_len(s:tX):(d1_ s).1.length<=s.length/\(d1_ s).2.length<=s.length:=by
 unfold d1_;split
 .exact⟨by rw[qA];omega,by rw[qC];omega⟩
 .exact⟨qE _,qO _⟩
theorem patS_eq{t:tX}(f:t.length<=1000000000):hO_ t=some (ck_ t):=by
 have:=(cut_len t).2;unfold hO_ ck_;rw[cut_eq f];simp only[qBs];rw[cut_eq (by omega)];rfl
theorem split_L{t:tX}(C:t.length<=1000000000):∀(k i f:Nat),t.length-i<=k->k<f->i<=t.length->af_ (cT_ t) f (i:Int)=some ((i+ae_ [32] (t.drop i):Nat):Int):=by
 intro k
 induction k with
 | zero =>
  intro i f s x hi;obtain⟨f,rfl⟩:∃g,f=g+1:=⟨f-1,by omega⟩;have:i=t.length:=by omega
  subst this;refine aj_ ?_;unfold cT_;rw[qV (by omega),ze];rfl
 | succ k q =>
  intro i f s x hi;obtain⟨f,rfl⟩:∃g,f=g+1:=⟨f-1,by omega⟩;rcases qR i t.length with j|u
  .have p:((t[i].toNat:Int) != 32)=(t[i] != 32):=u8_ne _ 32;rw[qi j];unfold ae_;rw[zM];by_cases h:t[i]=32
   .refine aj_ ?_;unfold cT_;rw[qK (by omega),qW,aJ_ j];simp only[qBs];rw[p,h];rfl
   .have y:([32]:tX).contains t[i]=false:=by simp[h]
    rw[y];refine an_ (s':=((i+1:Nat):Int)) ?_ ?_
    .unfold cT_;rw[qK (by omega),qW,aJ_ j];simp only[qBs];rw[p,zt.2 h,qW,ai_ (by omega)]
    .rw[q (i+1) f (by omega) (by omega) (by omega)];unfold ae_;simp only[qf,zT,qLc]
     congr 2
     omega
  .have:i=t.length:=by omega
   subst this;refine aj_ ?_;unfold cT_;rw[qV (by omega),ze];rfl
theorem r0_{t:tX}(h:t.contains 32=false):ae_ [32] t=t.length:=until_app0 λb f=>by
 have:b≠32:=λe=>by
  subst e;rw[zl.2 f]at h;cases h
 simp[this]
theorem f6_{o v:tX}:aF_ (Xf.mk o v [])=false:=by
 unfold aF_;simp
theorem refSplit_eq{t:tX}(D:t.length<=1000000000):∃q,jQ_ t=some q/\aF_ q=aF_ (ck_ t)/\(aF_ (ck_ t)=true->q=ck_ t):=by
 have y:af_ (m4_ t) BIG 0=some ((ae_ [32] t:Nat):Int):=by
  have:=split_L D t.length 0 BIG (by omega) (au_ (by omega)) (qO _);rw[qh]at this;exact this
 have hu:=ea_ [32] t;unfold jQ_;rw[y];simp only[qBs];rw[ai_ (by omega)];cases s:t.contains 32 with
 | false =>
  have F:=r0_ s;have p:af_ (cT_ t) BIG ((ae_ [32] t+1:Nat):Int)=some ((ae_ [32] t+1:Nat):Int):=by
   obtain⟨f,M⟩:∃f,BIG=f+1:=⟨BIG-1,by unfold BIG;omega⟩;rw[M];refine aj_ ?_;unfold cT_;rw[qV (by omega)];rfl
  have e:ck_ t=Xf.mk t [] []:=by
   have u:d1_ t=(t,[]):=by unfold d1_;rw[s];rfl
   unfold ck_;rw[u];rfl
  rw[p,e];simp only[qBs];rw[qK (by omega)];refine⟨_,rfl,by rw[f6_,f6_],λh => ?_⟩;rw[f6_]at h;cases h
 | true =>
  obtain⟨Y,V,U,O⟩:=bO_ s;have p:=split_L D t.length (ae_ [32] t+1) BIG (by omega) (au_ (by omega)) (by omega);have x:=ea_ [32] (t.drop (ae_ [32] t+1));rw[qC]at x;rw[p];simp only[qBs];have u:d1_ t=(t.take (ae_ [32] t),t.drop (ae_ [32] t+1)):=by unfold d1_;rw[s];rfl
  cases j:(t.drop (ae_ [32] t+1)).contains 32 with
  | false =>
   have F:=r0_ j;rw[qC]at F;have e:ck_ t=Xf.mk (t.take (ae_ [32] t)) (t.drop (ae_ [32] t+1)) []:=by
    have C:d1_ (t.drop (ae_ [32] t+1))=(t.drop (ae_ [32] t+1),[]):=by unfold d1_;rw[j];rfl
    unfold ck_;rw[u];simp only[];rw[C]
   rw[e,qK (by omega)];refine⟨_,rfl,by rw[f6_,f6_],λh => ?_⟩;rw[f6_]at h;cases h
  | true =>
   obtain⟨j1,j2,Z,J⟩:=bO_ j;rw[qC]at J;have e:ck_ t=Xf.mk (t.take (ae_ [32] t)) ((t.drop (ae_ [32] t+1)).take (ae_ [32] (t.drop (ae_ [32] t+1)))) ((t.drop (ae_ [32] t+1)).drop (ae_ [32] (t.drop (ae_ [32] t+1))+1)):=by
    have C:d1_ (t.drop (ae_ [32] t+1))=((t.drop (ae_ [32] t+1)).take (ae_ [32] (t.drop (ae_ [32] t+1))),(t.drop (ae_ [32] t+1)).drop (ae_ [32] (t.drop (ae_ [32] t+1))+1)):=by unfold d1_;rw[j];rfl
    unfold ck_;rw[u];simp only[];rw[C]
   rw[e,qV (by omega),qZ,ax_ (qt 0) (by omega) (by omega)];simp only[qBs];rw[ax_ (by omega) (by omega) (by omega)];simp only[qBs];rw[ai_ (by omega),ax_ (by omega) (by omega) (qt _)];refine⟨_,rfl,?_⟩;have G:Xf.mk ((t.take ((ae_ [32] t:Nat):Int).toNat).drop (0:Int).toNat) ((t.take ((ae_ [32] t+1+ae_ [32] (t.drop (ae_ [32] t+1)):Nat):Int).toNat).drop ((ae_ [32] t+1:Nat):Int).toNat) ((t.take ((t.length:Nat):Int).toNat).drop ((ae_ [32] t+1+ae_ [32] (t.drop (ae_ [32] t+1))+1:Nat):Int).toNat)=Xf.mk (t.take (ae_ [32] t)) ((t.drop (ae_ [32] t+1)).take (ae_ [32] (t.drop (ae_ [32] t+1)))) ((t.drop (ae_ [32] t+1)).drop (ae_ [32] (t.drop (ae_ [32] t+1))+1)):=by
    simp only[qTn,jN,zO,qb];rw[jC,show ae_ [32] t+1+ae_ [32] (t.drop (ae_ [32] t+1))-(ae_ [32] t+1)=ae_ [32] (t.drop (ae_ [32] t+1))by omega,zz,show ae_ [32] t+1+(ae_ [32] (t.drop (ae_ [32] t+1))+1)=ae_ [32] t+1+ae_ [32] (t.drop (ae_ [32] t+1))+1 by omega]
   exact⟨qa aF_ G,λ_=>G⟩
theorem oa_{cur:tL Xf}(h:cur.length<=1000000000):eY_ (Xw.mk cur)=some (cJ_ cur):=by
 unfold eY_ cJ_;simp only[];rcases zA cur.length with f|f
 .rw[zI.1 f];rfl
 .rw[qK (by omega),qW,ar_ ⟨by omega,by omega⟩,show(cur.length:Int)-1=((cur.length-1:Nat):Int)by omega,aX_,List.getLast?_eq_getElem?,qY (by omega)];rfl
theorem j1_{cur:tL Xf}(h:cur.length<=1000000000):hz_ cur=some (cJ_ cur):=oa_ h
inductive RS where
 | stop (i:Nat) (e:Int)
 | go (out:tL Xw) (cur:tL Xf)
def es_(i:Nat)(t:tX)(out:tL Xw)(cur:tL Xf):RS:=if(t.take 1==[35])=true then .go out cur else if t=[]then(if cur=[]then .go out []else if cJ_ cur=true then .go (out++[Xw.mk cur]) []else .stop (i+1) 50)else if cur=[]/\64<=out.length then .stop (i+1) 22 else if aF_ (ck_ t)=false\/cJ_ cur=true\/32<=cur.length then .stop (i+1) 50 else .go out (cur++[ck_ t])
def dA_:tL tX->Nat->tL Xw->tL Xf->tL Xw×Int×Int
 | [],i,out,cur=>if cur=[]then(out,0,0)else if cJ_ cur=true then(out++[Xw.mk cur],0,0)else([],((i+1:Nat):Int),50)
 | t::l,i,out,cur=>match es_ i t out cur with
  | .stop j e=>([],(j:Int),e)
  | .go o c=>dA_ l (i+1) o c
def rsP(i:Nat):RS->Step (Int×(tL Xw)×(tL Xf)) (Out ((tL Xw)×(tL Xf)) ((tL Xw)×Int×Int)) | .stop j e => .done (.ret ([],(j:Int),e)) | .go o c => .next (((i+1:Nat):Int),o,c)
theorem rules_step{ls:tL tX}{i:Nat}{t:tX}{out:tL Xw}{cur:tL Xf}(hi:ls[i]? = some t)(U:ls.length<=1000000000)(D:t.length<=1000000000)(O:out.length<=1000000000)(x:cur.length<=1000000000):cQ_ ls ((i:Int),out,cur)=some (rsP i (es_ i t out cur)):=by
 have q:i<ls.length:=by
  rcases qR i ls.length with h|h
  .exact h
  .rw[qe h]at hi;cases hi
 unfold cQ_ es_;simp only[];rw[aB_ q,qW,aX_,hi];simp only[qBs];have F:strings_HasPrefix t [35]=some (t.take 1==[35]):=by
  unfold strings_HasPrefix;rw[nb_];rfl
 have C:w64 ((i:Int)+1)=((i+1:Nat):Int):=ai_ (by omega);rw[F,C];simp only[qBs];cases t.take 1==[35]with
 | true=>rfl
 | false =>
  simp only[qZ,qM,zY];by_cases u:t=[]
  .subst u;rw[qL rfl,show(([]:tX)==[])=true from rfl,qW];by_cases f:cur=[]
   .subst f;rfl
   .have s:=zq.2 f;rw[qP f,qK (by omega),qW,oa_ x];simp only[qBs];cases cJ_ cur with
    | false=>rfl
    | true =>
     simp only[qN,qZ,zT];rw[az_ (by simp only[qLc,qQ];omega) (by simp only[qLc,qQ];omega)];rfl
  .rw [qP u,show(t==[])=false from by simpa using u,qZ];have M:(((cur.length:Int)==0)&&decide ((out.length:Int)>=64))=decide (cur=[]/\64<=out.length):=by
    by_cases f:cur=[]
    .subst f;by_cases s:64<=out.length
     .rw[qK (by omega:(out.length:Int)>=64),qK (⟨rfl,s⟩:([]:tL Xf)=[]/\64<=out.length)];rfl
     .rw[qV (by omega:¬(out.length:Int)>=64),zr,qV (λe:([]:tL Xf)=[]/\64<=out.length=>s e.2)]
    .have:=zq.2 f;rw[qX.2 (by omega:(cur.length:Int)≠0),zd,qV (λe:cur=[]/\64<=out.length=>f e.1)]
   rw[M];by_cases p:cur=[]/\64<=out.length
   .rw[qL p,qK p];rfl
   .rw[qP p,qV p,qZ,patS_eq D];simp only[qBs];rw[sound_eq];simp only[qBs];rw[oa_ x];simp only[qBs];have J:(bif !(aF_ (ck_ t))then some true else some (cJ_ cur))=some (!(aF_ (ck_ t))||cJ_ cur):=by cases aF_ (ck_ t)<;>rfl
    rw[J];simp only[qBs];have G:((!(aF_ (ck_ t))||cJ_ cur)||decide ((cur.length:Int)>=32))=decide (aF_ (ck_ t)=false\/cJ_ cur=true\/32<=cur.length):=by
     by_cases y:32<=cur.length
     .rw[qK (by omega:(cur.length:Int)>=32),jE,qK (.inr (.inr y):aF_ (ck_ t)=false\/cJ_ cur=true\/32<=cur.length)]
     .rw[qV (by omega:¬(cur.length:Int)>=32)];cases aF_ (ck_ t)<;>cases cJ_ cur<;>simp[y]
    rw[G];by_cases j:aF_ (ck_ t)=false\/cJ_ cur=true\/32<=cur.length
    .rw[qL j,qK j];rfl
    .rw[qP j,qV j,qZ,az_ (by simp only[qLc,qQ];omega) (by simp only[qLc,qQ];omega)];rfl
def rulesK (ls:tL tX) (q:Out ((tL Xw)×(tL Xf)) ((tL Xw)×Int×Int)):tO ((tL Xw)×Int×Int):=match q with
 | .ret u=>some u
 | .fall f =>
  Option.bind (
   (bif decide ((f.2.length:Int)>0)then
    (eY_ (Xw.mk f.2)).bind λj =>
    (bif(!j)then
     some (.ret ([],(w64 ((ls.length:Int)+1)),50))
    else
     (room 24 f.1 [(Xw.mk f.2)]).bind λh =>
     some (.fall h))
   else
    some (.fall f.1))
   ) λ(p:Out (tL Xw) ((tL Xw)×Int×Int))=>match p with
  | .ret s=>some s
  | .fall x =>
   some (x,0,0)
theorem rules_go{ls:tL tX}(u:ls.length<=100000000)(p:∀t∈ls,t.length<=1000000000):∀(l A:tL tX) (out:tL Xw) (cur:tL Xf) (f:Nat),A++l=ls->l.length<f->out.length<=A.length->cur.length<=A.length ->
  (af_ (cQ_ ls) f ((A.length:Int),out,cur)).bind (rulesK ls)=some (dA_ l A.length out cur)
 | [],A,out,cur,f+1,q,_,C,G=>by
  rw[zP]at q;subst q;have F:cQ_ A ((A.length:Int),out,cur)=some (.done (.fall (out,cur))):=by
   unfold cQ_;simp only[];rw[aM_];rfl
  rw[aj_ F];unfold dA_ rulesK;simp only[qBs];by_cases x:cur=[]
  .subst x;rfl
  .have M:=zq.2 x;rw[qP x,qK (by omega),qW,oa_ (by omega)];simp only[qBs];cases cJ_ cur with
   | false =>
    simp only[qf,qW,qBs,qM,zY];rw[ai_ (by omega)]
   | true =>
    simp only[qN,qZ,zT];rw[az_ (by simp only[qLc,qQ];omega) (by simp only[qLc,qQ];omega)];rfl
 | t :: l,A,out,cur,f+1,q,D,C,G=>by
  have hi:ls[A.length]? = some t:=by rw[←q];simp
  have J:A.length+(l.length+1)=ls.length:=by rw[←q];simp
  have h:=rules_step (out:=out) (cur:=cur) hi (by omega) (p t (by rw[←q];simp)) (by omega) (by omega);simp only[qLc]at D;unfold dA_;cases hr:es_ A.length t out cur with
  | stop j e =>
   rw[hr]at h;rw[aj_ h];rfl
  | go o c =>
   rw[hr]at h;have s:o.length<=A.length+1/\c.length<=A.length+1:=by
    unfold es_ at hr;split at hr
    .injection hr with a b;subst a;subst b;omega
    .split at hr
     .split at hr
      .injection hr with a b;subst a;subst b;exact⟨by omega,qO _⟩
      .split at hr
       .injection hr with a b;subst a;subst b;exact⟨by rw[qLa];simp only[qLc,qQ];omega,qO _⟩
       .cases hr
     .split at hr
      .cases hr
      .split at hr
       .cases hr
       .injection hr with a b;subst a;subst b;exact⟨by omega,by rw[qLa];simp only[qLc,qQ];omega⟩
   have y:=rules_go u p l (A++[t]) o c f (by rw[←q];simp) (by omega) (by rw[qLa];exact s.1) (by rw[qLa];exact s.2);rw[show(A++[t]).length=A.length+1 by simp]at y;have h:cQ_ ls ((A.length:Int),out,cur)=some (.next (((A.length+1:Nat):Int),o,c)):=h;rw[an_ h rfl];exact y
theorem rules_eq{s:tX}(j:s.length<=100000000):jG_ s=some (dA_ (db_ s) 0 [] []):=by
 have p:=n7_ _ s (qE _);have h:=n8_ _ s (qE _);have e:jG_ s=(ho_ s).bind λy1=>(af_ (cQ_ y1) BIG (0,[],[])).bind (rulesK y1):=rfl
 rw[e,lines_eq (by omega)];exact rules_go (by omega) (λt f=>by have:=(h t f).1;omega) (db_ s) [] [] [] BIG rfl (au_ (by omega)) (qE _) (qE _)
def rsR(i:Nat)(ls:tL tX):RS->Step (Int×(tL tX)×(tL Xw)×(tL Xf)) (Out (tL Xw) ((tL Xw)×Int×Int)) | .stop j e => .done (.ret ([],(j:Int),e)) | .go o c => .next (((i+1:Nat):Int),ls,o,c)
theorem tD_{ls:tL tX}{i:Nat}{t:tX}{out:tL Xw}{cur:tL Xf}(hi:ls[i]? = some t)(hl:ls.length<=1000000000)(U:t.length<=1000000000)(ho:out.length<=1000000000)(F:cur.length<=1000000000):bp_ ((i:Int),ls,out,cur)=some (rsR i ls (es_ i t out cur)):=by
 have Y:i<ls.length:=by
  rcases qR i ls.length with h|h
  .exact h
  .rw[qe h]at hi;cases hi
 have O:w64 ((i:Int)+1)=((i+1:Nat):Int):=ai_ (by omega);unfold bp_ es_;simp only[];rw[qK (by omega),qW,qX.2 (by omega:(i:Int)≠(ls.length:Int)),qZ,aX_,hi,O];simp only[qBs];by_cases s:t=[]
 .subst s;rw[qP (show ¬((([]:tX).take 1==[35])=true)by decide),qL rfl,show(([]:tX)==[])=true from rfl,qW];by_cases f:cur=[]
  .subst f;rfl
  .have D:=zq.2 f;rw[qP f,qK (by omega),qW,qW,j1_ F];simp only[qBs];cases cJ_ cur with
   | false=>rfl
   | true =>
    simp only[qN,qZ,zT];rw[az_ (by simp only[qLc,qQ];omega) (by simp only[qLc,qQ];omega)];rfl
 .rw [qP s,show(t==[])=false from by simpa using s,qZ];obtain⟨b,u,rfl⟩:∃b u,t=b::u:=by
   cases t with
   | nil=>exact absurd rfl s
   | cons b u=>exact⟨b,u,rfl⟩
  have Z:ap_ (b::u) 0=some (b.toNat:Int):=bR_ (i:=0) rfl;rw[Z];simp only[qBs];have M:((b.toNat:Int)==35)=(b==35):=aV_ b 35;have J:((b::u).take 1==[35])=(b==35):=by simp
  rw[M,J];cases b==35 with
  | true=>rfl
  | false =>
   simp only[qZ,qM,zY];have e1:(((cur.length:Int)==0)&&decide ((out.length:Int)>=64))=decide (cur=[]/\64<=out.length):=by
    by_cases f:cur=[]
    .subst f;by_cases D:64<=out.length
     .rw[qK (by omega:(out.length:Int)>=64),qK (⟨rfl,D⟩:([]:tL Xf)=[]/\64<=out.length)];rfl
     .rw[qV (by omega:¬(out.length:Int)>=64),zr,qV (λe:([]:tL Xf)=[]/\64<=out.length=>D e.2)]
    .have:=zq.2 f;rw[qX.2 (by omega:(cur.length:Int)≠0),zd,qV (λe:cur=[]/\64<=out.length=>f e.1)]
   rw[e1];by_cases p:cur=[]/\64<=out.length
   .rw[qL p,qK p];rfl
   .obtain⟨q,V,C,y⟩:=refSplit_eq U;rw[qP p,qV p,qZ,V];simp only[qBs];rw[rY_,C];simp only[qBs];rw[j1_ F];simp only[qBs];have e2:(bif !(aF_ (ck_ (b::u)))then some true else some (cJ_ cur))=some (!(aF_ (ck_ (b::u)))||cJ_ cur):=by cases aF_ (ck_ (b::u))<;>rfl
    rw[e2];simp only[qBs];have e3:((!(aF_ (ck_ (b::u)))||cJ_ cur)||decide ((cur.length:Int)>=32))=decide (aF_ (ck_ (b::u))=false\/cJ_ cur=true\/32<=cur.length):=by
     by_cases G:32<=cur.length
     .rw[qK (by omega:(cur.length:Int)>=32),jE,qK (.inr (.inr G):aF_ (ck_ (b::u))=false\/cJ_ cur=true\/32<=cur.length)]
     .rw[qV (by omega:¬(cur.length:Int)>=32)];cases aF_ (ck_ (b::u))<;>cases cJ_ cur<;>simp[G]
    rw[e3];by_cases j:aF_ (ck_ (b::u))=false\/cJ_ cur=true\/32<=cur.length
    .rw[qL j,qK j];rfl
    .have x:aF_ (ck_ (b::u))=true:=by
      cases h:aF_ (ck_ (b::u))with
      | true=>rfl
      | false=>exact absurd (.inl h) j
     rw[qP j,qV j,qZ,y x,az_ (by simp only[qLc,qQ];omega) (by simp only[qLc,qQ];omega)];rfl
theorem step_lens{i:Nat}{t:tX}{out o:tL Xw}{cur c:tL Xf}{n:Nat}(hr:es_ i t out cur = .go o c)(f:out.length<=n)(h:cur.length<=n):o.length<=n+1/\c.length<=n+1:=by
 unfold es_ at hr;split at hr
 .injection hr with a b;subst a;subst b;omega
 .split at hr
  .split at hr
   .injection hr with a b;subst a;subst b;exact⟨by omega,qO _⟩
   .split at hr
    .injection hr with a b;subst a;subst b;exact⟨by rw[qLa];simp only[qLc,qQ];omega,qO _⟩
    .cases hr
  .split at hr
   .cases hr
   .split at hr
    .cases hr
    .injection hr with a b;subst a;subst b;exact⟨by omega,by rw[qLa];simp only[qLc,qQ];omega⟩
def rulesR(f:Out (tL Xw) ((tL Xw)×Int×Int)):tO ((tL Xw)×Int×Int):=match f with | .ret h=>some h | .fall j=>some (j,0,0)
theorem qa_{ls:tL tX}(y:ls.length<=100000000)(p:∀t∈ls,t.length<=1000000000):∀(l A:tL tX) (out:tL Xw) (cur:tL Xf) (f:Nat),A++l=ls->l.length+1<f->out.length<=A.length->cur.length<=A.length ->
  (af_ bp_ f ((A.length:Int),ls,out,cur)).bind rulesR=some (dA_ l A.length out cur)
 | [],A,out,cur,f+2,s,_,F,J=>by
  rw[zP]at s;subst s;have x:w64 ((A.length:Int)+1)=((A.length+1:Nat):Int):=ai_ (by omega);have q:∀o:tL Xw,bp_ (((A.length+1:Nat):Int),A,o,[])=some (.done (.fall o)):=λo=>by
   unfold bp_;simp only[];rw[qV (by omega)];rfl
  unfold dA_;by_cases C:cur=[]
  .subst C;have h:bp_ ((A.length:Int),A,out,[])=some (.next (((A.length+1:Nat):Int),A,out,[])):=by
    unfold bp_;simp only[];rw[qK (by omega),qW,zV,qW,x];rfl
   rw[an_ h rfl,aj_ (q out)];rfl
  .have U:=zq.2 C;rw[qP C];cases G:cJ_ cur with
   | false =>
    have h:bp_ ((A.length:Int),A,out,cur)=some (.done (.ret ([],((A.length+1:Nat):Int),50))):=by
     unfold bp_;simp only[];rw[qK (by omega),qW,zV,qW,x,qK (by omega),qW,j1_ (by omega),G];rfl
    rw[aj_ h];rfl
   | true =>
    have h:bp_ ((A.length:Int),A,out,cur)=some (.next (((A.length+1:Nat):Int),A,out++[Xw.mk cur],[])):=by
     unfold bp_;simp only[];rw[qK (by omega),qW,zV,qW,x,qK (by omega),qW,qW,j1_ (by omega),G];simp only[qBs,qN,qZ];rw[az_ (by simp only[qLc,qQ];omega) (by simp only[qLc,qQ];omega)];rfl
    rw[an_ h rfl,aj_ (q _)];rfl
 | t::l,A,out,cur,f+1,s,M,F,J=>by
  have hi:ls[A.length]? = some t:=by rw[←s];simp
  have O:A.length+(l.length+1)=ls.length:=by rw[←s];simp
  have h:=tD_ (out:=out) (cur:=cur) hi (by omega) (p t (by rw[←s];simp)) (by omega) (by omega);simp only[qLc]at M;unfold dA_;cases hr:es_ A.length t out cur with
  | stop j e =>
   rw[hr]at h;rw[aj_ h];rfl
  | go o c =>
   rw[hr]at h;have u:=step_lens hr F J;have D:=qa_ y p l (A++[t]) o c f (by rw[←s];simp) (by omega) (by rw[qLa];exact u.1) (by rw[qLa];exact u.2);rw[show(A++[t]).length=A.length+1 by simp]at D;have h:bp_ ((A.length:Int),ls,out,cur)=some (.next (((A.length+1:Nat):Int),ls,o,c)):=h;rw[an_ h rfl];exact D
theorem refRules_eq{s:tX}(j:s.length<=100000000):jR_ s=some (dA_ (db_ s) 0 [] []):=by
 have p:=n7_ _ s (qE _);have h:=n8_ _ s (qE _);have e:jR_ s=(hy_ s).bind λy1=>(af_ bp_ BIG (0,y1,[],[])).bind rulesR:=rfl
 rw[e,refLines_eq (by omega)];exact qa_ (by omega) (λt f=>by have:=(h t f).1;omega) (db_ s) [] [] [] BIG rfl (by unfold BIG;omega) (qE _) (qE _)
structure RulesL(l:tL Xw):Prop where
 n:l.length<=9223372036854775807
 ls:∀r∈l,r.Xb.length<=9223372036854775807
theorem sE_{l:tL Xw}(h:RulesL l):gh_ l l=some true:=by
 unfold gh_;rw[qy,qZ];have p:af_ (eO_ l l) BIG 0=some (.fall ()):=by
  refine bQ_ (T:=λi=>(i:Int)) l.length (au_ h.n) (λi hi => ?_) ?_
  .unfold eO_;rw[aB_ hi,qW,aq_ hi];simp only[qBs];rw[qy,qZ];have hr:=h.ls _ (qk hi);have f:af_ (eN_ l (i:Int) l) BIG 0=some (.fall ()):=by
    refine bQ_ (T:=λi=>(i:Int)) (l[i]).Xb.length (au_ hr) (λk j => ?_) ?_
    .unfold eN_;rw[aq_ hi];simp only[qBs];rw[aB_ j,qW,aq_ j];simp only[qBs];rw[ai_ (by omega)];rfl
    .unfold eN_;rw[aq_ hi];simp only[qBs];rw[aM_];rfl
   rw[f];simp only[qBs];rw[ai_ (by have:=h.n;omega)]
  .unfold eO_;rw[aM_];rfl
 rw[p];rfl
theorem endP_iff(cur:tL Xf):cJ_ cur=true↔∃p,cur[cur.length-1]? = some p/\bs_ p.Xp=true:=by
 unfold cJ_;rw[List.getLast?_eq_getElem?];cases cur[cur.length-1]? with
 | none=>simp
 | some p=>simp
structure CurOK(cur:tL Xf)(out:tL Xw):Prop where
 n:cur.length<=32
 o:cur≠[]->out.length<64
 s:∀i p,cur[i]? = some p->aF_ p=true/\(bs_ p.Xp=true->i+1=cur.length)
theorem pm_(out:tL Xw):CurOK [] out:=⟨qO _,λh=>absurd rfl h,λi p h=>by cases h⟩
theorem qb_{cur:tL Xf}{out:tL Xw}(h:CurOK cur out)(u:cur≠[])(y:cJ_ cur=true):bG_ (Xw.mk cur)=true:=by
 have C:=zq.2 u;refine(ec_ _).2 ⟨C,h.n,λi p j=>⟨(h.s i p j).1,?_⟩⟩;have j:cur[i]? = some p:=j;show bs_ p.Xp=decide (i+1=cur.length);by_cases hi:i+1=cur.length
 .obtain⟨q,x,f⟩:=(endP_iff cur).1 y;rw[show cur.length-1=i by omega,j]at x;rw[qK hi,qSj x];exact f
 .rw[qV hi];cases f:bs_ p.Xp with
  | false=>rfl
  | true=>exact absurd ((h.s i p j).2 f) hi
theorem kp_:∀(l:tL tX) (i:Nat) (out:tL Xw) (cur:tL Xf),(∀r∈out,bG_ r=true)->out.length<=64->CurOK cur out->(dA_ l i out cur).2.2=0->(∀r∈(dA_ l i out cur).1,bG_ r=true)/\(dA_ l i out cur).1.length<=64
 | [],i,out,cur,y,J,j,h=>by
  unfold dA_ at h ⊢;by_cases D:cur=[]
  .rw[qL D];exact⟨y,J⟩
  .rw[qP D]at h ⊢;by_cases F:cJ_ cur=true
   .rw[qL F];have:=j.o D;refine⟨λr hr => ?_,by simp only[qLa,qLc,qQ];omega⟩;rcases qF.1 hr with hr|hr
    .exact y r hr
    .rw[qH.1 hr];exact qb_ j D F
   .rw[qP F]at h;cases h
 | t :: l,i,out,cur,y,J,j,h=>by
  unfold dA_ at h ⊢;unfold es_ at h ⊢;by_cases D:(t.take 1==[35])=true
  .rw[qL D]at h ⊢;exact kp_ l (i+1) out cur y J j h
  .rw [qP D]at h ⊢;by_cases F:t=[]
   .rw[qL F]at h ⊢;by_cases x:cur=[]
    .rw[qL x]at h ⊢;exact kp_ l (i+1) out [] y J (pm_ out) h
    .rw[qP x]at h ⊢;by_cases q:cJ_ cur=true
     .rw[qL q]at h ⊢;have:=j.o x;refine kp_ l (i+1) (out++[Xw.mk cur]) [] (λr hr => ?_) (by simp only[qLa,qLc,qQ];omega) (pm_ _) h;rcases qF.1 hr with hr|hr
      .exact y r hr
      .rw[qH.1 hr];exact qb_ j x q
     .rw[qP q]at h;exact absurd h (show ¬((50:Int)=0)by decide)
   .rw [qP F]at h ⊢;by_cases x:cur=[]/\64<=out.length
    .rw[qL x]at h;exact absurd h (show ¬((22:Int)=0)by decide)
    .rw [qP x]at h ⊢;by_cases q:aF_ (ck_ t)=false\/cJ_ cur=true\/32<=cur.length
     .rw[qL q]at h;exact absurd h (show ¬((50:Int)=0)by decide)
     .rw [qP q]at h ⊢;have V:aF_ (ck_ t)=true:=by
       cases u:aF_ (ck_ t)with
       | true=>rfl
       | false=>exact absurd (.inl u) q
      have Z:cur.length<32:=by
       rcases qR cur.length 32 with u|u
       .exact u
       .exact absurd (.inr (.inr u)) q
      refine kp_ l (i+1) out (cur++[ck_ t]) y J ⟨by simp only[qLa,qLc,qQ];omega,λ_ => ?_,λk p f => ?_⟩ h
      .by_cases u:cur=[]
       .rcases qR out.length 64 with M|M
        .exact M
        .exact absurd ⟨u,M⟩ x
       .exact j.o u
      .rcases qR k cur.length with C|C
       .rw[zR C]at f;refine⟨(j.s k p f).1,λG => ?_⟩;have:=(j.s k p f).2 G;have Y:cJ_ cur=true:=(endP_iff cur).2 ⟨p,by rw[show cur.length-1=k by omega];exact f,G⟩;exact absurd (.inr (.inl Y)) q
       .rw[zZ C]at f;have O:k-cur.length=0:=by
         rcases zA (k-cur.length)with U|U
         .exact U
         .rw[qe (by simp only[qLc,qQ];omega)]at f;cases f
        rw[O]at f;obtain rfl:=qSj f;exact⟨V,λ_=>by simp only[qLa,qLc,qQ];omega⟩
theorem textV_ok{l:tL Xw}(h:(ev_ l).2=0):l.length<=64/\(∀r∈l,bG_ r=true)/\(ev_ l).1=dG_ l:=by
 unfold ev_ at h ⊢;by_cases j:64<l.length
 .rw[qL j]at h;exact absurd h (by decide)
 .rw[qP j]at h ⊢;cases f:l.all bG_ with
  | false=>rw[f]at h;exact absurd h (show ¬((50:Int)=0)by decide)
  | true=>exact⟨by omega,λr hr=>qx.1 f r hr,rfl⟩
theorem textV_of{l:tL Xw}(h:l.length<=64)(f:∀r∈l,bG_ r=true):ev_ l=(dG_ l,0):=by
 unfold ev_;rw[qP (by omega),qL (qx.2 f)]
end Go.Proofs.YtfbcbakhdkppoaaGreatDoor
