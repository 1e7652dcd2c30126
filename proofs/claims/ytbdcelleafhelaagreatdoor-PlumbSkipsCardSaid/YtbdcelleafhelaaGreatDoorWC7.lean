/-
 What the statements of this seat hang on,part 7: Bc Bd Be Bf Bg Bh Bi Bj Bk Bl Bm Bn Bo Bp Bq Br Bu Bv.
-/
import Derived.Test.YtbdcelleafhelaaGreatDoorWC6
import Derived.KernelRfl
namespace Go.Proofs.YtbdcelleafhelaaGreatDoor
open Go.Rt Go.RowKit
inductive PX where
 | err (e:Nat)|ok (a:Re) (q g:Nat)
inductive PK where
 | rx|br|pc|at
def PX.pre(a:Re):PX->PX | .err e => .err e | .ok b q g => .ok (.seq a b) q g
def post(s:Str)(a:Re)(q g:Nat):PX:=if s[q]? = some 42 then .ok (.star a) (q+1) g else if s[q]? = some 43 then .ok (.plus a) (q+1) g else if s[q]? = some 63 then .ok (.opt a) (q+1) g else .ok a q g
def clsR(g:Nat)(n:Bool):SR->PX | .err e => .err e | .ok x q => .ok (.set x n) q g
def escR(g:Nat):CR->PX | .err e => .err e | .ok b q => .ok (.chr b) q g
def spec(c:UInt8):Bool:=c==40||c==41||c==124||c==42||c==43||c==63||c==46||c==94||c==36||c==91||c==92
inductive RP(s:Str):PK->Nat->Nat->Nat->PX->Prop
 | stop {d i g} (h:s[i]? = none\/s[i]? = some 124\/(s[i]? = some 41/\0<d)):RP s .br d i g (.ok .emp i g)
 | par {i g} (h:s[i]? = some 41):RP s .br 0 i g (.err i)
 | bad {d i g c e} (h:s[i]? = some c) (h1:c≠124) (h2:c≠41) (hp:RP s .pc d i g (.err e)):RP s .br d i g (.err e)
 | next {d i g c a q g1 r} (h:s[i]? = some c) (h1:c≠124) (h2:c≠41) (hp:RP s .pc d i g (.ok a q g1)) (ht:RP s .br d q g1 r):RP s .br d i g (r.pre a)
 | pcbad {d i g e} (h:RP s .at d i g (.err e)):RP s .pc d i g (.err e)
 | pcok {d i g a q g1} (h:RP s .at d i g (.ok a q g1)):RP s .pc d i g (post s a q g1)
 | many {d i g} (h:s[i]? = some 40) (hg:9<=g):RP s .at d i g (.err i)
 | inner {d i g e} (h:s[i]? = some 40) (hg:g<9) (hr:RP s .rx (d+1) (i+1) (g+1) (.err e)):RP s .at d i g (.err e)
 | unc {d i g a q g1} (h:s[i]? = some 40) (hg:g<9) (hr:RP s .rx (d+1) (i+1) (g+1) (.ok a q g1)) (hc:s[q]? ≠ some 41):RP s .at d i g (.err q)
 | grp {d i g a q g1} (h:s[i]? = some 40) (hg:g<9) (hr:RP s .rx (d+1) (i+1) (g+1) (.ok a q g1)) (hc:s[q]? = some 41):RP s .at d i g (.ok (.grp (g+1) a) (q+1) g1)
 | sym {d i g c} (h:s[i]? = some c) (hc:c=42\/c=43\/c=63):RP s .at d i g (.err i)
 | any {d i g} (h:s[i]? = some 46):RP s .at d i g (.ok .any (i+1) g)
 | bol {d i g} (h:s[i]? = some 94):RP s .at d i g (.ok .bol (i+1) g)
 | eol {d i g} (h:s[i]? = some 36):RP s .at d i g (.ok .eol (i+1) g)
 | cls {d i g r} (h:s[i]? = some 91) (hc:Cx s (clsI s (i+1)) [] r):RP s .at d i g (clsR g (clsN s (i+1)) r)
 | esc {d i g} (h:s[i]? = some 92):RP s .at d i g (escR g (escS s i))
 | chr {d i g c} (h:s[i]? = some c) (hc:spec c=false):RP s .at d i g (.ok (.chr c) (i+1) g)
 | rxbad {d i g e} (h:RP s .br d i g (.err e)):RP s .rx d i g (.err e)
 | rxone {d i g a q g1} (h:RP s .br d i g (.ok a q g1)) (hq:s[q]? ≠ some 124):RP s .rx d i g (.ok a q g1)
 | rxerr {d i g a q g1 e} (h:RP s .br d i g (.ok a q g1)) (hq:s[q]? = some 124) (ht:RP s .rx d (q+1) g1 (.err e)):RP s .rx d i g (.err e)
 | rxalt {d i g a q g1 b q2 g2} (h:RP s .br d i g (.ok a q g1)) (hq:s[q]? = some 124) (ht:RP s .rx d (q+1) g1 (.ok b q2 g2)):RP s .rx d i g (.ok (.alt a b) q2 g2)
def PK.inc:PK->Nat | .rx=>0 | .br=>0 | .pc=>1 | .at=>1
def GoodP(s:Str)(k:PK)(i g:Nat):PX->Prop | .err _=>True | .ok a q g1=>i<=s.length->g<=9->i+k.inc<=q/\q<=s.length/\a.len<=2*(q-i)/\g<=g1/\g1<=9/\a.grps 100
theorem clsI_le(s:Str)(i:Nat)(h:i<=s.length):i<=clsI s i/\clsI s i<=s.length:=by
 unfold clsI;split
 .rename_i h1;have:=az_ h1;omega
 .omega
theorem RP.good{s:Str}{k:PK}{d i g:Nat}{r:PX}(h:RP s k d i g r):GoodP s k i g r:=by
 induction h with
 | stop h=>exact λh1 h2=>⟨by simp only[PK.inc];omega,h1,by simp only[Re.len];omega,Nat.le_refl _,h2,trivial⟩
 | par h=>trivial
 | bad h h1 h2 hp ih=>trivial
 | @next d i g c a q g1 r h h1 h2 hp ht ih1 ih2 =>
  cases r with
  | err e=>trivial
  | ok b q2 g2 =>
   intro a1 a2;obtain⟨b1,b2,b3,b4,b5,b6⟩:=ih1 a1 a2;obtain⟨c1,c2,c3,c4,c5,c6⟩:=ih2 b2 b5;simp only[PK.inc]at b1 c1;exact⟨by simp only[PK.inc];omega,c2,by simp only[Re.len];omega,by omega,c5,b6,c6⟩
 | pcbad h ih=>trivial
 | @pcok d i g a q g1 h ih =>
  unfold post;split
  .rename_i hq;have:=az_ hq;intro a1 a2;obtain⟨b1,b2,b3,b4,b5,b6⟩:=ih a1 a2;simp only[PK.inc]at b1;exact⟨by simp only[PK.inc];omega,by omega,by simp only[Re.len];omega,b4,b5,b6⟩
  .split
   .rename_i hq;have:=az_ hq;intro a1 a2;obtain⟨b1,b2,b3,b4,b5,b6⟩:=ih a1 a2;simp only[PK.inc]at b1;exact⟨by simp only[PK.inc];omega,by omega,by simp only[Re.len];omega,b4,b5,b6⟩
   .split
    .rename_i hq;have:=az_ hq;intro a1 a2;obtain⟨b1,b2,b3,b4,b5,b6⟩:=ih a1 a2;simp only[PK.inc]at b1;exact⟨by simp only[PK.inc];omega,by omega,by simp only[Re.len];omega,b4,b5,b6⟩
    .exact ih
 | many h hg=>trivial
 | inner h hg hr ih=>trivial
 | unc h hg hr hc ih=>trivial
 | @grp d i g a q g1 h hg hr hc ih =>
  intro a1 a2;have h1:=az_ h;have h2:=az_ hc;obtain⟨b1,b2,b3,b4,b5,b6⟩:=ih (by omega) (by omega);simp only[PK.inc]at b1;exact⟨by simp only[PK.inc];omega,by omega,by simp only[Re.len];omega,by omega,b5,by omega,b6⟩
 | sym h hc=>trivial
 | any h=>have:=az_ h;exact λh1 h2=>⟨by simp only[PK.inc];omega,by omega,by simp only[Re.len];omega,Nat.le_refl _,h2,trivial⟩
 | bol h=>have:=az_ h;exact λh1 h2=>⟨by simp only[PK.inc];omega,by omega,by simp only[Re.len];omega,Nat.le_refl _,h2,trivial⟩
 | eol h=>have:=az_ h;exact λh1 h2=>⟨by simp only[PK.inc];omega,by omega,by simp only[Re.len];omega,Nat.le_refl _,h2,trivial⟩
 | @cls d i g r h hc =>
  have h0:=az_ h;cases r with
  | err e=>trivial
  | ok x q =>
   intro h1 h2;have:=hc.len.2 x q rfl;have:=clsI_le s (i+1) (by omega);exact⟨by simp only[PK.inc];omega,by omega,by simp only[Re.len];omega,Nat.le_refl _,h2,trivial⟩
 | @esc d i g h =>
  cases he:escS s i with
  | err e=>trivial
  | ok b q =>
   intro h1 h2;have:=escS_len he;exact⟨by simp only[PK.inc];omega,by omega,by simp only[Re.len];omega,Nat.le_refl _,h2,trivial⟩
 | chr h hc=>have:=az_ h;exact λh1 h2=>⟨by simp only[PK.inc];omega,by omega,by simp only[Re.len];omega,Nat.le_refl _,h2,trivial⟩
 | rxbad h ih=>trivial
 | rxone h hq ih=>exact ih
 | rxerr h hq ht ih1 ih2=>trivial
 | @rxalt d i g a q g1 b q2 g2 h hq ht ih1 ih2 =>
  intro a1 a2;have h1:=az_ hq;obtain⟨b1,b2,b3,b4,b5,b6⟩:=ih1 a1 a2;obtain⟨c1,c2,c3,c4,c5,c6⟩:=ih2 (by omega) b5;simp only[PK.inc]at b1 c1;exact⟨by simp only[PK.inc];omega,c2,by simp only[Re.len];omega,by omega,c5,b6,c6⟩
theorem RP.ex_at {s:Str} {i:Nat} (ih:∀j,i<j->j<=s.length->∀d g,g<=9->∃r,RP s .rx d j g r) (d g:Nat) {c:UInt8} (h:s[i]? = some c) (h1:c≠124) (h2:c≠41):∃r,RP s .at d i g r:=by
 have hlt:=az_ h;by_cases a1:c=40
 .subst a1;by_cases hg:9<=g
  .exact⟨_,.many h hg⟩
  .obtain⟨r,hr⟩:=ih (i+1) (by omega) (by omega) (d+1) (g+1) (by omega);cases r with
   | err e=>exact⟨_,.inner h (by omega) hr⟩
   | ok a q g1 =>
    by_cases hc:s[q]? = some 41
    .exact⟨_,.grp h (by omega) hr hc⟩
    .exact⟨_,.unc h (by omega) hr hc⟩
 .by_cases a2:c=42\/c=43\/c=63
  .exact⟨_,.sym h a2⟩
  .by_cases a3:c=46
   .subst a3;exact⟨_,.any h⟩
   .by_cases a4:c=94
    .subst a4;exact⟨_,.bol h⟩
    .by_cases a5:c=36
     .subst a5;exact⟨_,.eol h⟩
     .by_cases a6:c=91
      .subst a6;obtain⟨r,hr⟩:=Cx.ex _ (clsI s (i+1)) [] (Nat.le_refl _) (clsI_le s (i+1) (by omega)).2;exact⟨_,.cls h hr⟩
      .by_cases a7:c=92
       .subst a7;exact⟨_,.esc h⟩
       .refine⟨_,.chr h ?_⟩;simp only[not_or]at a2;unfold spec;simp only[Bool.or_eq_false_iff,beq_eq_false_iff_ne];exact⟨⟨⟨⟨⟨⟨⟨⟨⟨⟨a1,h2⟩,h1⟩,a2.1⟩,a2.2.1⟩,a2.2.2⟩,a3⟩,a4⟩,a5⟩,a6⟩,a7⟩
theorem RP.ex{s:Str}:∀(k i:Nat),s.length-i<k->i<=s.length->(∀d g,g<=9->∃r,RP s .br d i g r)/\∀d g,g<=9->∃r,RP s .rx d i g r:=by
 intro k
 induction k with
 | zero=>exact λi h=>absurd h (Nat.not_lt_zero _)
 | succ k ih =>
  intro i hk hi
  have hbr:∀d g,g<=9->∃r,RP s .br d i g r:=by
   intro d g hg;cases h:s[i]? with
   | none=>exact⟨_,.stop (.inl h)⟩
   | some c =>
    have hlt:=az_ h;by_cases h1:c=124
    .subst h1;exact⟨_,.stop (.inr (.inl h))⟩
    .by_cases h2:c=41
     .subst h2;rcases Nat.eq_zero_or_pos d with rfl|hd
      .exact⟨_,.par h⟩
      .exact⟨_,.stop (.inr (.inr ⟨h,hd⟩))⟩
     .obtain⟨r,hr⟩:=RP.ex_at (λj hj hjl=>(ih j (by omega) hjl).2) d g h h1 h2;have hpc:∃r,RP s .pc d i g r:=by
       cases r with
       | err e=>exact⟨_,.pcbad hr⟩
       | ok a q g1=>exact⟨_,.pcok hr⟩
      obtain⟨r,hr⟩:=hpc;cases r with
      | err e=>exact⟨_,.bad h h1 h2 hr⟩
      | ok a q g1 =>
       have:=hr.good hi hg;simp only[PK.inc]at this;obtain⟨r2,hr2⟩:=(ih q (by omega) (by omega)).1 d g1 (by omega);exact⟨_,.next h h1 h2 hr hr2⟩
  refine⟨hbr,λd g hg => ?_⟩;obtain⟨r,hr⟩:=hbr d g hg;cases r with
  | err e=>exact⟨_,.rxbad hr⟩
  | ok a q g1 =>
   by_cases hq:s[q]? = some 124
   .have h1:=hr.good hi hg;have h2:=az_ hq;simp only[PK.inc]at h1;obtain⟨r2,hr2⟩:=(ih (q+1) (by omega) (by omega)).2 d g1 (by omega);cases r2 with
    | err e=>exact⟨_,.rxerr hr hq hr2⟩
    | ok b q2 g2=>exact⟨_,.rxalt hr hq hr2⟩
   .exact⟨_,.rxone hr hq⟩
theorem RP.ends{s:Str}{k:PK}{d i g:Nat}{r:PX}(h:RP s k d i g r):d=0->∀a q g1,r = .ok a q g1->(k = .rx->s[q]? = none)/\(k = .br->s[q]? = none\/s[q]? = some 124):=by
 induction h with
 | stop h =>
  intro hd a q g1 e;injection e with _ e _;subst e;refine⟨λe=>(by cases e),λ_ => ?_⟩;rcases h with h|h|h
  .exact .inl h
  .exact .inr h
  .omega
 | @next d i g c a q g1 r h h1 h2 hp ht ih1 ih2 =>
  intro hd a' q' g' e;cases r with
  | err e'=>cases e
  | ok b q2 g2 =>
   injection e with _ e1 e2;subst e1;exact⟨λe=>(by cases e),λe=>(ih2 hd _ _ _ rfl).2 e⟩
 | rxone h hq ih =>
  intro hd a q g1 e;injection e with _ e1 e2;subst e1;exact⟨λ_=>((ih hd _ _ _ rfl).2 rfl).resolve_right hq,λe=>(by cases e)⟩
 | rxalt h hq ht ih1 ih2 =>
  intro hd a q g1 e;injection e with _ e1 e2;subst e1;exact⟨λe=>(ih2 hd _ _ _ rfl).1 e,λe=>(by cases e)⟩
 | _=>intro hd a q g1 e;first|(cases e;done)|exact⟨λe=>(by cases e),λe=>(by cases e)⟩
theorem dx_{s:Str}{i g:Nat}{C:List Xz}{bad:Int}{x:Xz}(h:C.length<=100000):av_ (ps s i g C bad) x=some ((C.length:Int),ps s i g (C++[x]) bad):=by
 unfold av_ ps;simp only[];rw[bl_ (by simp only[qLc,List.length_nil];omega) (by simp only[qLc,List.length_nil];omega)];simp only[qBs];rw[bE_ ⟨by simp only[qLa,qLc,List.length_nil];omega,by simp only[qLa,qLc,List.length_nil];omega⟩,show((C++[x]).length:Int)-1=(C.length:Int)by simp only[qLa,qLc,List.length_nil];omega]
def ResP(s:Str)(C:List Xz)(bad:Int)(o:Option (Bool×regex_parser)):PX->Prop | .err e=>∃p,o=some (false,p)/\p.bad_=(e:Int) | .ok a q g=>o=some (true,ps s q g (C++a.code C.length) bad)
def ResO(s:Str)(C:List Xz)(bad:Int)(o:Option (Out Unit (Bool×regex_parser))):PX->Prop | .err e=>∃p,o=some (.ret (false,p))/\p.bad_=(e:Int) | .ok a q g=>o=some (.ret (true,ps s q g (C++a.code C.length) bad))
def GoP(s:Str)(k:PK)(d i g:Nat)(r:PX):Prop:=s.length<=1000->i<=s.length->g<=9->d<=i->∀(C:List Xz) (bad:Int) (n:Nat),C.length+2*(s.length-i)<=5000->match k with | .rx=>s.length-i<n->ResP s C bad (aj_ n (ps s i g C bad) (d:Int)) r | .br=>s.length-i<=n->∀f,s.length-i<f->ResO s C bad (ae_ (bk_ (d:Int) (aj_ n)) f (s,(i:Int),(g:Int),bad,C)) r | .pc=>s.length-i<=n->(∃c,s[i]? = some c)->ResP s C bad (bi_ (aj_ n) (ps s i g C bad) (d:Int)) r | .at=>s.length-i<=n->(∃c,s[i]? = some c)->ResP s C bad (ax_ (aj_ n) (ps s i g C bad) (d:Int)) r
theorem peek_loop{s:Str}{i g:Nat}{C:List Xz}{bad:Int}:regex_parser.mk (s,(i:Int),(g:Int),bad,C).1 (s,(i:Int),(g:Int),bad,C).2.1 (s,(i:Int),(g:Int),bad,C).2.2.1 (s,(i:Int),(g:Int),bad,C).2.2.2.2 (s,(i:Int),(g:Int),bad,C).2.2.2.1=ps s i g C bad:=rfl
theorem decide_dp{d:Nat}:decide ((d:Int)>0)=decide (0<d):=by
 by_cases h:0<d
 .rw[decide_eq_true h,decide_eq_true (by omega)]
 .rw[decide_eq_false h,decide_eq_false (by omega)]
theorem br_more{s:Str}{d i g n:Nat}{C:List Xz}{bad:Int}{c:UInt8}(h:s[i]? = some c)(h1:c≠124)(h2:c≠41\/d=0):bk_ (d:Int) (aj_ n) (s,(i:Int),(g:Int),bad,C)=(bi_ (aj_ n) (ps s i g C bad) (d:Int)).bind λy4=>(bif(!y4.1)then some (.done (.ret ((false,y4.2))))else some (.next (y4.2.s_,y4.2.at_,y4.2.groups_,y4.2.bad_,y4.2.code_))):=by
 unfold bk_;rw[peek_loop,bS_ h];simp only[qBs,Bool.not_true,Bool.false_or];have k1:((c.toNat:Int)==124)=(c==124):=aW_ c 124;have k2:((c.toNat:Int)==41)=(c==41):=aW_ c 41;rw[k1,k2,beq_eq_false_iff_ne.2 h1,decide_dp];have:(c==41&&decide (0<d))=false:=by
  rcases h2 with h2|h2
  .rw[beq_eq_false_iff_ne.2 h2];rfl
  .subst h2;simp
 rw[this];rfl
theorem go_stop{s:Str}{d i g:Nat}(h:s[i]? = none\/s[i]? = some 124\/(s[i]? = some 41/\0<d)):GoP s .br d i g (.ok .emp i g):=by
 intro hs hi hg hd C bad n hC hn f hf;obtain⟨f,rfl⟩:∃k,f=k+1:=⟨f-1,by omega⟩;show _=_;rw[show C++Re.emp.code C.length=C from List.append_nil C];refine ai_ ?_;unfold bk_;rw[peek_loop];rcases h with h|h|⟨h,hd⟩
 .rw[jx_ h];rfl
 .rw[bS_ h];rfl
 .rw[bS_ h];simp only[qBs];rw[decide_dp,decide_eq_true hd];rfl
theorem go_bad{s:Str}{d i g e:Nat}{c:UInt8}(h:s[i]? = some c)(h1:c≠124)(h2:c≠41)(ih:GoP s .pc d i g (.err e)):GoP s .br d i g (.err e):=by
 intro hs hi hg hd C bad n hC hn f hf;obtain⟨f,rfl⟩:∃k,f=k+1:=⟨f-1,by omega⟩;obtain⟨p,hp,hb⟩:=ih hs hi hg hd C bad n hC hn ⟨c,h⟩;refine⟨p,ai_ ?_,hb⟩;rw[br_more h h1 (.inl h2),hp];rfl
theorem go_next{s:Str}{d i g q g1:Nat}{c:UInt8}{a:Re}{r:PX}(h:s[i]? = some c)(h1:c≠124)(h2:c≠41)(hq:RP s .pc d i g (.ok a q g1))(ih:GoP s .pc d i g (.ok a q g1))(ih2:GoP s .br d q g1 r):GoP s .br d i g (r.pre a):=by
 intro hs hi hg hd C bad n hC hn f hf;obtain⟨f,rfl⟩:∃k,f=k+1:=⟨f-1,by omega⟩;have hgood:=hq.good hi hg;simp only[PK.inc]at hgood;have hlen:(C++a.code C.length).length=C.length+a.len:=by rw[qLa,aw_]
 have hp:_=_:=ih hs hi hg hd C bad n hC hn ⟨c,h⟩;have ht:=ih2 hs (by omega) (by omega) (by omega) (C++a.code C.length) bad n (by rw[hlen];omega) (by omega) f (by omega);have hst:bk_ (d:Int) (aj_ n) (s,(i:Int),(g:Int),bad,C)=some (.next (s,(q:Int),(g1:Int),bad,C++a.code C.length)):=by
  rw[br_more h h1 (.inl h2),hp];rfl
 cases r with
 | err e =>
  obtain⟨p,hp,hb⟩:=ht;exact⟨p,ap_ hst hp,hb⟩
 | ok b q2 g2 =>
  have ht:_=_:=ht;show _=_;refine ap_ hst ?_;rw[ht];simp only[Re.code];rw[hlen,List.append_assoc]
theorem go_par{s:Str}{i g:Nat}(h:s[i]? = some 41):GoP s .br 0 i g (.err i):=by
 intro hs hi hg hd C bad n hC hn f hf;obtain⟨f,rfl⟩:∃k,f=k+1:=⟨f-1,by omega⟩;refine⟨ps s i g C (i:Int),ai_ ?_,rfl⟩;rw[br_more h (by decide) (.inr rfl)];have:bi_ (aj_ n) (ps s i g C bad) ((0:Nat):Int)=some (false,ps s i g C (i:Int)):=by
  unfold bi_ ax_;rw[bS_ h];rfl
 rw[this];rfl
theorem go_pcbad{s:Str}{d i g e:Nat}(ih:GoP s .at d i g (.err e)):GoP s .pc d i g (.err e):=by
 intro hs hi hg hd C bad n hC hn hc;obtain⟨p,hp,hb⟩:=ih hs hi hg hd C bad n hC hn hc;refine⟨p,?_,hb⟩;unfold bi_;rw[hp];rfl
theorem next_t{s:Str}{i g:Nat}{C:List Xz}{bad:Int}(hs:s.length<=1000){c:UInt8}{k:Int}(hk:k=(c.toNat:Int))(h:s[i]? = some c):aF_ (ps s i g C bad) k=some (true,ps s (i+1) g C bad):=by
 rw[hy_ hs hk,if_pos h]
theorem next_f{s:Str}{i g:Nat}{C:List Xz}{bad:Int}(hs:s.length<=1000){c:UInt8}{k:Int}(hk:k=(c.toNat:Int))(h:s[i]? ≠ some c):aF_ (ps s i g C bad) k=some (false,ps s i g C bad):=by
 rw[hy_ hs hk,if_neg h]
theorem gK_(s:Str)(i g:Nat)(C:List Xz)(bad:Int):(ps s i g C bad).code_=C:=rfl
theorem me_(s:Str)(i g:Nat)(C:List Xz)(bad:Int):(ps s i g C bad).groups_=(g:Int):=rfl
theorem fh_(n:Nat):((n:Nat):Int).toNat=n:=rfl
theorem go_pcok{s:Str}{d i g q g1:Nat}{a:Re}(hq:RP s .at d i g (.ok a q g1))(ih:GoP s .at d i g (.ok a q g1)):GoP s .pc d i g (post s a q g1):=by
 intro hs hi hg hd C bad n hC hn hc;have hgood:=hq.good hi hg;simp only[PK.inc]at hgood;have hp:_=_:=ih hs hi hg hd C bad n hC hn hc;have hlen:(a.code C.length).length=a.len:=aw_ a _;have hlen1:(a.code (C.length+1)).length=a.len:=aw_ a _;have hw:w64 ((C.length:Int)+1)=((C.length+1:Nat):Int):=ag_ (by omega);show ResP s C bad (bi_ (aj_ n) (ps s i g C bad) (d:Int)) (post s a q g1);unfold bi_;rw[hp];simp only[qBs,Bool.not_true,cond_false,gK_];unfold post;by_cases h42:s[q]? = some 42
 .rw[if_pos h42,next_t hs (c:=42) (k:=42) rfl h42];simp only[qBs,cond_true];rw[mb_ rfl (by omega) hgood.2.2.2.2.2];simp only[qBs];rw[dx_ (by simp only[qLa,qLc];omega)];simp only[qBs,gK_];rw[List.append_assoc,List.cons_append,db_ rfl];simp only[qBs];rw[dK_ (fh_ _)];show _=_;simp only[Re.code];have e1:(((C++Xz.mk 6 0 [] false (w64 ((C.length:Int)+1)) 0::(a.code (C.length+1)++[Xz.mk 7 0 [] false (C.length:Int) 0])).length:Nat):Int)=((C.length+a.len+2:Nat):Int):=by
   simp only[qLa,qLc,List.length_nil,hlen1];omega
  rw[e1,hw];rfl
 .rw [if_neg h42,next_f hs (c:=42) (k:=42) rfl h42];simp only[qBs,cond_false];by_cases h43:s[q]? = some 43
  .rw[if_pos h43,next_t hs (c:=43) (k:=43) rfl h43];simp only[qBs,cond_true];rw[dx_ (by simp only[qLa];omega)];simp only[qBs,gK_];rw[db_ rfl];simp only[qBs];rw[dK_ (fh_ _)];show _=_;simp only[Re.code];have e1:w64 (((C++a.code C.length).length:Int)+1)=((C.length+a.len+1:Nat):Int):=by
    rw[bE_ ⟨by omega,by simp only[qLa];omega⟩];simp only[qLa];omega
   rw[e1,←List.append_assoc];rfl
  .rw[if_neg h43,next_f hs (c:=43) (k:=43) rfl h43];simp only[qBs,cond_false];by_cases h63:s[q]? = some 63
   .rw[if_pos h63,next_t hs (c:=63) (k:=63) rfl h63];simp only[qBs,cond_true];rw[mb_ rfl (by omega) hgood.2.2.2.2.2];simp only[qBs,gK_];rw[db_ rfl];simp only[qBs];rw[dK_ (fh_ _)];show _=_;simp only[Re.code];have e1:(((C++Xz.mk 6 0 [] false (w64 ((C.length:Int)+1)) 0::a.code (C.length+1)).length:Nat):Int)=((C.length+a.len+1:Nat):Int):=by
     simp only[qLa,qLc,hlen1];omega
    rw[e1,hw];rfl
   .rw[if_neg h63,next_f hs (c:=63) (k:=63) rfl h63];rfl
theorem go_many{s:Str}{d i g:Nat}(h:s[i]? = some 40)(hg9:9<=g):GoP s .at d i g (.err i):=by
 intro hs hi hg hd C bad n hC hn hc;refine⟨ps s i g C (i:Int),?_,rfl⟩;unfold ax_;rw[bS_ h];simp only[qBs,Bool.not_true,cond_false];rw[show((((40:UInt8).toNat:Int)==40))=true from rfl,cond_true];unfold bG_;rw[me_,decide_eq_true (by omega),cond_true];rfl
theorem k8_{s:Str}{d i g n:Nat}{C:List Xz}{bad:Int}(hlt:i<s.length)(hs:s.length<=1000)(hg:g<9)(hd:d<=i)(hC:C.length<=5000) :
  bG_ (aj_ n) (ps s i g C bad) (d:Int)=(aj_ n (ps s (i+1) (g+1) (C++[aI_ (2*(g+1))]) bad) ((d+1:Nat):Int)).bind λy3 =>
  (bif(!y3.1)then
   some ((false,y3.2))
  else
   (aF_ y3.2 41).bind λy4 =>
   (bif(!y4.1)then
    (aX_ y4.2).bind λy5 =>
    some ((y5.1,y5.2))
   else
    Option.bind (av_ y4.2 (aI_ (2*(g+1)+1))) λ(y6:Int×regex_parser) =>
    some ((true,y6.2)))):=by
 unfold bG_;rw[me_,decide_eq_false (by omega),cond_false];have e1:regex_parser.mk (ps s i g C bad).s_ (w64 ((ps s i g C bad).at_+1)) (w64 ((g:Int)+1)) (ps s i g C bad).code_ (ps s i g C bad).bad_=ps s (i+1) (g+1) C bad:=by
  unfold ps;simp only[];rw[ag_ (by omega),ag_ (by omega)]
 have e2:w64 (2*(w64 ((g:Int)+1)))=((2*(g+1):Nat):Int):=by
  rw[ag_ (by omega),bE_ ⟨by omega,by omega⟩];omega
 have e3:w64 (((2*(g+1):Nat):Int)+1)=((2*(g+1)+1:Nat):Int):=ag_ (by omega);rw[e1,e2,e3,dx_ (by omega)];simp only[qBs];rw[ag_ (by omega)];rfl
theorem mf_{s:Str}{d i g n:Nat}{C:List Xz}{bad:Int}(h:s[i]? = some 40):ax_ (aj_ n) (ps s i g C bad) (d:Int)=(bG_ (aj_ n) (ps s i g C bad) (d:Int)).bind λy=>some (y.1,y.2):=by
 unfold ax_;rw[bS_ h];simp only[qBs,Bool.not_true,cond_false];rw[show((((40:UInt8).toNat:Int)==40))=true from rfl,cond_true];cases bG_ (aj_ n) (ps s i g C bad) (d:Int)<;>rfl
theorem go_inner{s:Str}{d i g e:Nat}(h:s[i]? = some 40)(hg9:g<9)(ih:GoP s .rx (d+1) (i+1) (g+1) (.err e)):GoP s .at d i g (.err e):=by
 intro hs hi hg hd C bad n hC hn hc;have hlt:=az_ h;obtain⟨p,hp,hb⟩:=ih hs (by omega) (by omega) (by omega) (C++[aI_ (2*(g+1))]) bad n (by simp only[qLa,qLc,List.length_nil];omega) (by omega);refine⟨p,?_,hb⟩;rw[mf_ h,k8_ hlt hs hg9 hd (by omega),hp];rfl
theorem go_unc{s:Str}{d i g q g1:Nat}{a:Re}(h:s[i]? = some 40)(hg9:g<9)(ih:GoP s .rx (d+1) (i+1) (g+1) (.ok a q g1))(hc:s[q]? ≠ some 41):GoP s .at d i g (.err q):=by
 intro hs hi hg hd C bad n hC hn _;have hlt:=az_ h;have hp:_=_:=ih hs (by omega) (by omega) (by omega) (C++[aI_ (2*(g+1))]) bad n (by simp only[qLa,qLc,List.length_nil];omega) (by omega);refine⟨ps s q g1 ((C++[aI_ (2*(g+1))])++a.code (C++[aI_ (2*(g+1))]).length) (q:Int),?_,rfl⟩;rw[mf_ h,k8_ hlt hs hg9 hd (by omega),hp];simp only[qBs,Bool.not_true,cond_false];rw[next_f hs (c:=41) (k:=41) rfl hc];rfl
theorem go_grp{s:Str}{d i g q g1:Nat}{a:Re}(h:s[i]? = some 40)(hg9:g<9)(hr:RP s .rx (d+1) (i+1) (g+1) (.ok a q g1))(ih:GoP s .rx (d+1) (i+1) (g+1) (.ok a q g1))(hc:s[q]? = some 41):GoP s .at d i g (.ok (.grp (g+1) a) (q+1) g1):=by
 intro hs hi hg hd C bad n hC hn _;have hlt:=az_ h;have hgood:=hr.good (by omega) (by omega);simp only[PK.inc]at hgood;have hp:_=_:=ih hs (by omega) (by omega) (by omega) (C++[aI_ (2*(g+1))]) bad n (by simp only[qLa,qLc,List.length_nil];omega) (by omega);show _=_;rw[mf_ h,k8_ hlt hs hg9 hd (by omega),hp];simp only[qBs,Bool.not_true,cond_false];rw[next_t hs (c:=41) (k:=41) rfl hc];simp only[qBs,Bool.not_true,cond_false];rw[dx_ (by simp only[qLa,qLc,List.length_nil,aw_];omega)];simp only[qBs,Re.code];rw[show(C++[aI_ (2*(g+1))]).length=C.length+1 from by simp,List.append_assoc,List.append_assoc,List.singleton_append]
theorem go_sym{s:Str}{d i g:Nat}{c:UInt8}(h:s[i]? = some c)(hc:c=42\/c=43\/c=63):GoP s .at d i g (.err i):=by
 intro hs hi hg hd C bad n hC hn _;refine⟨ps s i g C (i:Int),?_,rfl⟩;unfold ax_;rw[bS_ h];rcases hc with rfl|rfl|rfl<;>rfl
theorem k9_{s:Str}{i g:Nat}{C:List Xz}{bad:Int}(hlt:i<9000000):some (true,regex_parser.mk s (w64 ((i:Int)+1)) (g:Int) C bad)=some (true,ps s (i+1) g C bad):=by
 rw[ag_ (by omega)];rfl
theorem go_any{s:Str}{d i g:Nat}(h:s[i]? = some 46):GoP s .at d i g (.ok .any (i+1) g):=by
 intro hs hi hg hd C bad n hC hn _;show _=_;unfold ax_;rw[bS_ h];simp only[qBs,Bool.not_true,cond_false];rw[dx_ (x:=Xz.mk 2 0 [] false 0 0) (by omega)];exact k9_ (by omega)
theorem go_bol{s:Str}{d i g:Nat}(h:s[i]? = some 94):GoP s .at d i g (.ok .bol (i+1) g):=by
 intro hs hi hg hd C bad n hC hn _;show _=_;unfold ax_;rw[bS_ h];simp only[qBs,Bool.not_true,cond_false];rw[dx_ (x:=Xz.mk 4 0 [] false 0 0) (by omega)];exact k9_ (by omega)
theorem go_eol{s:Str}{d i g:Nat}(h:s[i]? = some 36):GoP s .at d i g (.ok .eol (i+1) g):=by
 intro hs hi hg hd C bad n hC hn _;show _=_;unfold ax_;rw[bS_ h];simp only[qBs,Bool.not_true,cond_false];rw[dx_ (x:=Xz.mk 5 0 [] false 0 0) (by omega)];exact k9_ (by omega)
theorem go_cls{s:Str}{d i g:Nat}{r:SR}(h:s[i]? = some 91)(hc:Cx s (clsI s (i+1)) [] r):GoP s .at d i g (clsR g (clsN s (i+1)) r):=by
 intro hs hi hg hd C bad n hC hn _;have e1:regex_parser.mk (ps s i g C bad).s_ (w64 ((ps s i g C bad).at_+1)) (ps s i g C bad).groups_ (ps s i g C bad).code_ (ps s i g C bad).bad_=ps s (i+1) g C bad:=by
  unfold ps;simp only[];rw[ag_ (by omega)]
 have e2:ax_ (aj_ n) (ps s i g C bad) (d:Int)=some (clsP s g C bad (clsN s (i+1)) r):=by
  unfold ax_;rw[bS_ h];simp only[qBs,Bool.not_true,cond_false];rw[e1,class_eq hs (by omega) hc];rfl
 show ResP s C bad (ax_ (aj_ n) (ps s i g C bad) (d:Int)) _;rw[e2];cases r with
 | err e=>exact⟨_,rfl,rfl⟩
 | ok x q=>rfl
theorem go_esc{s:Str}{d i g:Nat}(h:s[i]? = some 92):GoP s .at d i g (escR g (escS s i)):=by
 intro hs hi hg hd C bad n hC hn _;have hlt:=az_ h;show ResP s C bad (ax_ (aj_ n) (ps s i g C bad) (d:Int)) _;unfold ax_;rw[bS_ h];simp only[qBs,Bool.not_true,cond_false];rw[ot_ hs hlt];cases escS s i with
 | err e=>exact⟨_,rfl,rfl⟩
 | ok b q =>
  simp only[qBs,Bool.not_true,cond_false];rw[dx_ (i:=q) (x:=Xz.mk 1 (b.toNat:Int) [] false 0 0) (by omega)];rfl
theorem go_chr{s:Str}{d i g:Nat}{c:UInt8}(h:s[i]? = some c)(hc:spec c=false):GoP s .at d i g (.ok (.chr c) (i+1) g):=by
 intro hs hi hg hd C bad n hC hn _;show _=_;unfold spec at hc;simp only[Bool.or_eq_false_iff]at hc;obtain⟨⟨⟨⟨⟨⟨⟨⟨⟨⟨a1,a2⟩,a3⟩,a4⟩,a5⟩,a6⟩,a7⟩,a8⟩,a9⟩,a10⟩,a11⟩:=hc;have k (m:UInt8) (z:Int) (hz:z=(m.toNat:Int)) (hm:(c==m)=false):((c.toNat:Int)==z)=false:=by
  subst hz;rw[←hm];exact aW_ c m
 unfold ax_;rw[bS_ h];simp only[qBs,Bool.not_true,cond_false];rw[k 40 40 rfl a1,k 41 41 rfl a2,k 42 42 rfl a4,k 43 43 rfl a5,k 63 63 rfl a6,k 46 46 rfl a7,k 94 94 rfl a8,k 36 36 rfl a9,k 91 91 rfl a10,k 92 92 rfl a11];simp only[cond_false,qBs];rw[dx_ (by omega)];exact k9_ (by omega)
theorem la_{s:Str}{d i g n:Nat}{C:List Xz}{bad:Int}{r:PX}(h:ResO s C bad (ae_ (bk_ (d:Int) (aj_ n)) BIG (s,(i:Int),(g:Int),bad,C)) r):ResP s C bad (ck_ (aj_ n) (ps s i g C bad) (d:Int)) r:=by
 have e:ck_ (aj_ n) (ps s i g C bad) (d:Int)=(ae_ (bk_ (d:Int) (aj_ n)) BIG (s,(i:Int),(g:Int),bad,C)).bind λwo1=>match wo1 with
  | .ret r1=>some r1
  | .fall _=>none:=rfl
 rw[e];cases r with
 | err e =>
  obtain⟨p,hp,hb⟩:=h;rw[hp];exact⟨p,rfl,hb⟩
 | ok a q g1 =>
  have h:_=_:=h;rw[h];rfl
theorem regex_S{n:Nat}{p:regex_parser}{d:Int}:aj_ (n+1) p d=b2_ (aj_ n) p d:=rfl
theorem go_rxbad{s:Str}{d i g e:Nat}(ih:GoP s .br d i g (.err e)):GoP s .rx d i g (.err e):=by
 intro hs hi hg hd C bad n hC hn;obtain⟨n,rfl⟩:∃k,n=k+1:=⟨n-1,by omega⟩;obtain⟨p,hp,hb⟩:=la_ (ih hs hi hg hd C bad n hC (by omega) BIG (by unfold BIG;omega));refine⟨p,?_,hb⟩;rw[regex_S];unfold b2_;rw[hp];rfl
theorem go_rxone{s:Str}{d i g q g1:Nat}{a:Re}(ih:GoP s .br d i g (.ok a q g1))(hq:s[q]? ≠ some 124):GoP s .rx d i g (.ok a q g1):=by
 intro hs hi hg hd C bad n hC hn;obtain⟨n,rfl⟩:∃k,n=k+1:=⟨n-1,by omega⟩;have hp:_=_:=la_ (ih hs hi hg hd C bad n hC (by omega) BIG (by unfold BIG;omega));show _=_;rw[regex_S];unfold b2_;rw[hp];simp only[qBs,Bool.not_true,cond_false];rw[next_f hs (c:=124) (k:=124) rfl hq];rfl
theorem rx_step{s:Str}{d i g q g1 n:Nat}{a:Re}{C:List Xz}{bad:Int}(hs:s.length<=1000)(hl:C.length+a.len<=20000)(hgr:a.grps 100)
  (hp:ck_ (aj_ n) (ps s i g C bad) (d:Int)=some (true,ps s q g1 (C++a.code C.length) bad)) (hq:s[q]? = some 124) :
  aj_ (n+1) (ps s i g C bad) (d:Int)=(aj_ n (ps s (q+1) g1 (C++(br_ (C.length+1) (C.length+a.len+2)::(a.code (C.length+1)++[cn_ 0]))) bad) (d:Int)).bind λy6 =>
   (bif(!y6.1)then
    some ((false,y6.2))
   else
    (ah_ y6.2.code_ ((C.length+a.len+1:Nat):Int)).bind λy7 =>
    some ((true,(regex_parser.mk y6.2.s_ y6.2.at_ y6.2.groups_ (y6.2.code_.set (C.length+a.len+1) (Xz.mk y7.Op_ y7.C_ y7.Xu y7.Yq (y6.2.code_.length:Int) y7.Y_)) y6.2.bad_)))):=by
 have hlen1:(a.code (C.length+1)).length=a.len:=aw_ a _;rw[regex_S];unfold b2_;rw[hp];simp only[qBs,Bool.not_true,cond_false,gK_];rw[next_t hs (c:=124) (k:=124) rfl hq];simp only[qBs,Bool.not_true,cond_false];rw[mb_ rfl (by omega) hgr];simp only[qBs];rw[dx_ (by simp only[qLa,qLc];omega)];simp only[qBs,gK_];have hk:(C++Xz.mk 6 0 [] false (w64 ((C.length:Int)+1)) 0::a.code (C.length+1)).length=C.length+a.len+1:=by
  simp only[qLa,qLc,hlen1];omega
 rw[hk,List.append_assoc,List.cons_append,db_ rfl];simp only[qBs];rw[dK_ (fh_ _),ag_ (i:=C.length) (by omega),ag_ (by omega)];rfl
theorem go_rxerr{s:Str}{d i g q g1 e:Nat}{a:Re}(h:RP s .br d i g (.ok a q g1))(hq:s[q]? = some 124)(ih:GoP s .br d i g (.ok a q g1))(ih2:GoP s .rx d (q+1) g1 (.err e)):GoP s .rx d i g (.err e):=by
 intro hs hi hg hd C bad n hC hn;obtain⟨n,rfl⟩:∃k,n=k+1:=⟨n-1,by omega⟩;have hgood:=h.good hi hg;simp only[PK.inc]at hgood;have hlt:=az_ hq;have hp:_=_:=la_ (ih hs hi hg hd C bad n hC (by omega) BIG (by unfold BIG;omega));obtain⟨p,hp2,hb⟩:=ih2 hs (by omega) (by omega) (by omega) (C++(br_ (C.length+1) (C.length+a.len+2)::(a.code (C.length+1)++[cn_ 0]))) bad n (by simp only[qLa,qLc,List.length_nil,aw_];omega) (by omega);refine⟨p,?_,hb⟩;rw[rx_step hs (by omega) hgood.2.2.2.2.2 hp hq,hp2];rfl
theorem go_rxalt{s:Str}{d i g q g1 q2 g2:Nat}{a b:Re}(h:RP s .br d i g (.ok a q g1))(hq:s[q]? = some 124)(ih:GoP s .br d i g (.ok a q g1))(ih2:GoP s .rx d (q+1) g1 (.ok b q2 g2)):GoP s .rx d i g (.ok (.alt a b) q2 g2):=by
 intro hs hi hg hd C bad n hC hn;obtain⟨n,rfl⟩:∃k,n=k+1:=⟨n-1,by omega⟩;have hgood:=h.good hi hg;simp only[PK.inc]at hgood;have hlt:=az_ hq;have hp:_=_:=la_ (ih hs hi hg hd C bad n hC (by omega) BIG (by unfold BIG;omega));have hp2:_=_:=ih2 hs (by omega) (by omega) (by omega) (C++(br_ (C.length+1) (C.length+a.len+2)::(a.code (C.length+1)++[cn_ 0]))) bad n (by simp only[qLa,qLc,List.length_nil,aw_];omega) (by omega);show _=_;rw[rx_step hs (by omega) hgood.2.2.2.2.2 hp hq,hp2];have hlen1:(a.code (C.length+1)).length=a.len:=aw_ a _;simp only[qBs,Bool.not_true,cond_false,gK_];have hk:(C++(br_ (C.length+1) (C.length+a.len+2)::(a.code (C.length+1)++[cn_ 0]))).length=C.length+a.len+2:=by
  simp only[qLa,qLc,List.length_nil,hlen1];omega
 have hk2:(C++(br_ (C.length+1) (C.length+a.len+2)::a.code (C.length+1))).length=C.length+a.len+1:=by
  simp only[qLa,qLc,hlen1];omega
 rw[hk];have e1:(C++(br_ (C.length+1) (C.length+a.len+2)::(a.code (C.length+1)++[cn_ 0])))++b.code (C.length+a.len+2)=(C++(br_ (C.length+1) (C.length+a.len+2)::a.code (C.length+1)))++cn_ 0::b.code (C.length+a.len+2):=by simp
 rw[e1,db_ (by rw[hk2])];simp only[qBs];rw[dK_ hk2.symm];have e2:(((C++(br_ (C.length+1) (C.length+a.len+2)::a.code (C.length+1)))++cn_ 0::b.code (C.length+a.len+2)).length:Int)=((C.length+a.len+b.len+2:Nat):Int):=by
  rw[qLa,hk2];simp only[qLc,aw_];omega
 rw[e2];simp only[Re.code,List.append_assoc,List.cons_append];rfl
theorem RP.go{s:Str}{k:PK}{d i g:Nat}{r:PX}(h:RP s k d i g r):GoP s k d i g r:=by
 induction h with
 | stop h=>exact go_stop h
 | par h=>exact go_par h
 | bad h h1 h2 hp ih=>exact go_bad h h1 h2 ih
 | next h h1 h2 hp ht ih1 ih2=>exact go_next h h1 h2 hp ih1 ih2
 | pcbad h ih=>exact go_pcbad ih
 | pcok h ih=>exact go_pcok h ih
 | many h hg=>exact go_many h hg
 | inner h hg hr ih=>exact go_inner h hg ih
 | unc h hg hr hc ih=>exact go_unc h hg ih hc
 | grp h hg hr hc ih=>exact go_grp h hg hr ih hc
 | sym h hc=>exact go_sym h hc
 | any h=>exact go_any h
 | bol h=>exact go_bol h
 | eol h=>exact go_eol h
 | cls h hc=>exact go_cls h hc
 | esc h=>exact go_esc h
 | chr h hc=>exact go_chr h hc
 | rxbad h ih=>exact go_rxbad ih
 | rxone h hq ih=>exact go_rxone ih hq
 | rxerr h hq ht ih1 ih2=>exact go_rxerr h hq ih1 ih2
 | rxalt h hq ht ih1 ih2=>exact go_rxalt h hq ih1 ih2
def rp(C:List Xz)(i g:Nat)(b:Bool):Xj:=Xj.mk C (i:Int) (g:Int) b
theorem rpE(C:List Xz)(i g:Nat)(b:Bool):Xj.mk C (i:Int) (g:Int) b=rp C i g b:=rfl
theorem kp_{s:Str}{p:Xj}(h:p.Xi=true)(k:Int):bI_ s p k=some (false,p):=by
 unfold bI_;rw[h];rfl
theorem is_eq{s:Str}{C:List Xz}{i g:Nat}{c:UInt8}{k:Int}(hk:k=(c.toNat:Int)):bI_ s (rp C i g false) k=some (decide (s[i]? = some c),rp C i g false):=by
 subst hk;unfold bI_ rp;simp only[Bool.not_false,Bool.true_and];by_cases hi:i<s.length
 .rw[decide_eq_true (by omega),cond_true,aT_ hi];simp only[qBs];rw[aW_,List.getElem?_eq_getElem hi];by_cases h:s[i]=c
  .rw[beq_iff_eq.2 h,decide_eq_true (by rw[h])]
  .rw[beq_eq_false_iff_ne.2 h,decide_eq_false (λe=>h (qSj e))]
 .rw[decide_eq_false (by omega),cond_false,List.getElem?_eq_none (by omega)];rfl
theorem is_t{s:Str}{C:List Xz}{i g:Nat}{c:UInt8}{k:Int}(hk:k=(c.toNat:Int))(h:s[i]? = some c):bI_ s (rp C i g false) k=some (true,rp C i g false):=by
 rw[is_eq hk,decide_eq_true h]
theorem is_f{s:Str}{C:List Xz}{i g:Nat}{c:UInt8}{k:Int}(hk:k=(c.toNat:Int))(h:s[i]? ≠ some c):bI_ s (rp C i g false) k=some (false,rp C i g false):=by
 rw[is_eq hk,decide_eq_false h]
theorem dc_{C:List Xz}{i g:Int}{b:Bool}{x:Xz}(h:C.length<=100000):aN_ (Xj.mk C i g b) x=some (Xj.mk (C++[x]) i g b):=by
 unfold aN_;simp only[];rw[bl_ (by simp only[qLc,List.length_nil];omega) (by simp only[qLc,List.length_nil];omega)];rfl
def rchar (s:Str) (L:List Xz) (i g:Int) (b:Bool):Option (Int×(List Xz)×Int×Int×Bool) :=
 (an_ s i).bind λy22 =>
 (bif(y22 != 92)then
  some (y22,L,(w64 (i+1)),g,b)
 else
  (bif((w64 (i+1))==(s.length:Int))then
   some (0,L,(w64 (i+1)),g,true)
  else
   (an_ s (w64 (i+1))).bind λy23 =>
   (bif(y23==110)then
    some (10,L,(w64 ((w64 (i+1))+1)),g,b)
   else
    (bif(y23==116)then
     some (9,L,(w64 ((w64 (i+1))+1)),g,b)
    else
     some (y23,L,(w64 ((w64 (i+1))+1)),g,b)))))
def chO(L:List Xz)(g:Int):CR->Int×(List Xz)×Int×Int×Bool | .err e=>(0,L,(e:Int),g,true) | .ok b q=>((b.toNat:Int),L,(q:Int),g,false)
def escC(s:Str)(i:Nat)(c:UInt8):CR:=if c=92 then escS s i else .ok c (i+1)
theorem bF_{s:Str}{i:Nat}{c:UInt8}(h:s[i]? = some c):an_ s (i:Int)=some (c.toNat:Int):=by
 rw[byteI_nat,h];rfl
theorem rchar_eq{s:Str}{L:List Xz}{i:Nat}{g:Int}{c:UInt8}(hs:s.length<=1000)(h:s[i]? = some c):rchar s L (i:Int) g false=some (chO L g (escC s i c)):=by
 have hlt:=az_ h;unfold rchar escC;rw[bF_ h];simp only[qBs];have k1:((c.toNat:Int) != 92)=(c != 92):=by
  have:((c.toNat:Int)==92)=(c==92):=aW_ c 92;unfold bne;rw[this]
 rw[k1,ag_ (by omega)];by_cases h92:c=92
 .subst h92;rw[if_pos rfl];simp only[bne_self_eq_false,cond_false];unfold escS;cases h1:s[i+1]? with
  | none =>
   have:=List.getElem?_eq_none_iff.1 h1;rw[beq_iff_eq.2 (by omega:((i+1:Nat):Int)=(s.length:Int))];rfl
  | some d =>
   have hlt1:=az_ h1;rw[beq_eq_false_iff_ne.2 (by omega:((i+1:Nat):Int)≠(s.length:Int)),cond_false,bF_ h1];simp only[qBs];rw[ag_ (by omega)];have k2:((d.toNat:Int)==110)=(d==110):=aW_ d 110;have k3:((d.toNat:Int)==116)=(d==116):=aW_ d 116;rw[k2,k3];unfold escB;by_cases h2:d=110
   .subst h2;rfl
   .rw[beq_eq_false_iff_ne.2 h2,if_neg h2,cond_false];by_cases h3:d=116
    .subst h3;rfl
    .rw[beq_eq_false_iff_ne.2 h3,if_neg h3,cond_false];rfl
 .rw[if_neg h92,bne_iff_ne.2 h92,cond_true];rfl
theorem jR_(x0:Str)(s2:Int×Int×Bool×(List Xz)×(List Int)):fD_ x0 s2 =
 Option.bind (bif(decide (s2.1<(x0.length:Int)))then 
  (an_ x0 s2.1).bind λy17 =>
  some ((y17 != 93)||((s2.2.2.2.2.length:Int)==0))
   else some false) λ(y18:Bool) =>
 (bif y18 then
  (an_ x0 s2.1).bind λy19 =>
  Option.bind (bif(y19==93)then some true else 
   (an_ x0 s2.1).bind λy20 =>
   some (y20==45)
   ) λ(y21:Bool) =>
  (bif y21 then
   some (.done (.ret ((Xj.mk s2.2.2.2.1 s2.1 s2.2.1 true))))
  else
   Option.bind (rchar x0 s2.2.2.2.1 s2.1 s2.2.1 s2.2.2.1) λ(o5:Int×(List Xz)×Int×Int×Bool) =>
   Option.bind (
    (bI_ x0 (Xj.mk o5.2.1 o5.2.2.1 o5.2.2.2.1 o5.2.2.2.2) 45).bind λy24 =>
    (bif y24.1 then
     Option.bind (bif((w64 (o5.2.2.1+1))==(x0.length:Int))then some true else 
      (an_ x0 (w64 (o5.2.2.1+1))).bind λy25 =>
      some (y25==93)
      ) λ(y26:Bool) =>
     Option.bind (bif y26 then some true else 
      (an_ x0 (w64 (o5.2.2.1+1))).bind λy27 =>
      some (y27==45)
      ) λ(y28:Bool) =>
     (bif y28 then
      some (.ret ((Xj.mk y24.2.L_ (w64 (o5.2.2.1+1)) o5.2.2.2.1 true)))
     else
      Option.bind (rchar x0 y24.2.L_ (w64 (o5.2.2.1+1)) o5.2.2.2.1 o5.2.2.2.2) λ(o6:Int×(List Xz)×Int×Int×Bool) =>
      (bif((!o6.2.2.2.2)&&(decide (o6.1<o5.1)))then
       some (.fall (o6.1,o6.2.1,(maxI (w64 (o5.2.2.1+1)) (w64 (o6.2.2.1-1))),o6.2.2.2.1,true))
      else
       some (.fall (o6.1,o6.2.1,o6.2.2.1,o6.2.2.2.1,o6.2.2.2.2))))
    else
     some (.fall (o5.1,y24.2.L_,o5.2.2.1,o5.2.2.2.1,o5.2.2.2.2)))
    ) λ(wo7:Out (Int×(List Xz)×Int×Int×Bool) Xj)=>match wo7 with
   | .ret r7=>some (.done (.ret r7))
   | .fall o7 =>
    (bif o7.2.2.2.2 then
     some (.done (.ret ((Xj.mk o7.2.1 o7.2.2.1 o7.2.2.2.1 o7.2.2.2.2))))
    else
     (room 1 s2.2.2.2.2 [o5.1,o7.1]).bind λy31 =>
     some (.next (o7.2.2.1,o7.2.2.2.1,o7.2.2.2.2,o7.2.1,y31))))
 else
  some (.done (.fall (s2.1,s2.2.1,s2.2.2.1,s2.2.2.2.1,s2.2.2.2.2)))):=rfl
theorem u8_ne(c k:UInt8):((c.toNat:Int) != (k.toNat:Int))=(c != k):=by
 unfold bne;rw[aW_]
theorem lb_{s:Str}{i:Nat}{set:Str}:(bif(decide ((i:Int)<(s.length:Int)))then 
  (an_ s (i:Int)).bind λy17 =>
  some ((y17 != 93)||(((aJ_ set).length:Int)==0))
   else some false)=some (decide (i<s.length)&&decide (¬(set≠[]/\s[i]? = some 93))):=by
 by_cases hi:i<s.length
 .rw[decide_eq_true (by omega),cond_true,aT_ hi,decide_eq_true hi,Bool.true_and];simp only[qBs];have k1:((s[i].toNat:Int) != 93)=(s[i] != 93):=u8_ne _ 93;rw[k1,List.getElem?_eq_getElem hi,gs_]
  congr 1
  cases set with
  | nil=>simp
  | cons b l => 
   simp only[qLc];rw[show(((l.length+1:Nat):Int)==0)=false from beq_eq_false_iff_ne.2 (by omega),Bool.or_false];by_cases h:s[i]=93
   .rw[h];simp
   .rw[bne_iff_ne.2 h,decide_eq_true];exact λe=>h (qSj e.2)
 .rw[decide_eq_false (by omega),cond_false,decide_eq_false hi,Bool.false_and]
def PairO(L:List Xz)(g:Nat)(set:Str):PR2->Step (Int×Int×Bool×(List Xz)×(List Int)) (Out (Int×Int×Bool×(List Xz)×(List Int)) Xj) | .err e => .done (.ret (rp L e g true)) | .ok a b q => .next ((q:Int),(g:Int),false,L,aJ_ (set++[a,b]))
theorem rcls_step {s:Str} (hs:s.length<=1000) {i g:Nat} {L:List Xz} {set:Str} (hset:set.length<=100000) (hi:i<s.length) (h0:¬(set≠[]/\s[i]? = some 93)):fD_ s ((i:Int),(g:Int),false,L,aJ_ set)=some (PairO L g set (eB_ s i)):=by
 rw[jR_];simp only[];rw[lb_,decide_eq_true hi,decide_eq_true h0];obtain⟨c,hc⟩:∃c,s[i]? = some c:=⟨s[i],List.getElem?_eq_getElem hi⟩;simp only[qBs,Bool.and_self,cond_true];rw[bF_ hc];simp only[qBs];have k1:((c.toNat:Int)==93)=(c==93):=aW_ c 93;have k2:((c.toNat:Int)==45)=(c==45):=aW_ c 45;rw[k1,k2];by_cases h1:c=93
 .subst h1;unfold eB_ chS;rw[hc];rfl
 .rw [beq_eq_false_iff_ne.2 h1,cond_false];simp only[qBs];by_cases h2:c=45
  .subst h2;unfold eB_ chS;rw[hc];rfl
  .rw [beq_eq_false_iff_ne.2 h2,cond_false,rchar_eq hs hc];have ech:chS s i=escC s i c:=by
    unfold chS escC;rw[hc];simp only[];rw[if_neg (by rintro(h|h)<;>contradiction)]
   unfold eB_;rw[ech];have hlen:=λb q (e:chS s i = .ok b q)=>gJ_ e
   rw[ech]at hlen;cases he:escC s i c with
   | err e => 
    simp only[qBs,chO];rw[kp_ rfl];rfl
   | ok a p =>
    have hp:=hlen a p he;simp only[qBs,chO];rw[rpE,is_eq (c:=45) (k:=45) rfl];simp only[qBs];have hroom:∀x:Int,room 1 (aJ_ set) [(a.toNat:Int),x]=some (aJ_ set++[(a.toNat:Int),x]):=λx=>bl_ (by rw[gs_];simp only[qLc,List.length_nil];omega) (by rw[gs_];simp only[qLc,List.length_nil];omega)
    have hcat:∀b:UInt8,aJ_ set++[(a.toNat:Int),(b.toNat:Int)]=aJ_ (set++[a,b]):=λb=>by unfold aJ_;rw[List.map_append];rfl
    by_cases h3:s[p]? = some 45
    .have hp3:=az_ h3;rw[decide_eq_true h3,if_pos h3];simp only[cond_true];rw[ag_ (by omega)];cases h4:s[p+1]? with
     | none =>
      have:=List.getElem?_eq_none_iff.1 h4;rw[beq_iff_eq.2 (by omega:((p+1:Nat):Int)=(s.length:Int))];unfold chS;rw[h4];rfl
     | some d =>
      have hp4:=az_ h4;rw[beq_eq_false_iff_ne.2 (by omega:((p+1:Nat):Int)≠(s.length:Int)),cond_false,bF_ h4];simp only[qBs];have k3:((d.toNat:Int)==93)=(d==93):=aW_ d 93;have k4:((d.toNat:Int)==45)=(d==45):=aW_ d 45;rw[k3,k4];by_cases h5:d=93
      .subst h5;unfold chS;rw[h4];rfl
      .rw [beq_eq_false_iff_ne.2 h5,cond_false];simp only[qBs];by_cases h6:d=45
       .subst h6;unfold chS;rw[h4];rfl
       .rw [beq_eq_false_iff_ne.2 h6,cond_false,rchar_eq hs h4];have ech2:chS s (p+1)=escC s (p+1) d:=by
         unfold chS escC;rw[h4];simp only[];rw[if_neg (by rintro(h|h)<;>contradiction)]
        rw[ech2];have hlen2:=λb q (e:chS s (p+1) = .ok b q)=>gJ_ e
        rw[ech2]at hlen2;cases he2:escC s (p+1) d with
        | err e=>rfl
        | ok b q =>
         have hq:=hlen2 b q he2;simp only[qBs,chO,Bool.not_false,Bool.true_and];by_cases h7:b.toNat<a.toNat
         .rw[if_pos h7,decide_eq_true (by omega),cond_true,bE_ (n:=(q:Int)-1) ⟨by omega,by omega⟩];have:maxI ((p+1:Nat):Int) ((q:Int)-1)=((q-1:Nat):Int):=by
           unfold maxI;split<;>omega
          rw[this];rfl
         .rw[if_neg h7,decide_eq_false (by omega),cond_false];simp only[qBs,cond_false];rw[hroom,hcat];rfl
    .rw[decide_eq_false h3,if_neg h3];simp only[cond_false,qBs];rw[hroom,hcat];rfl
def rclsO(s:Str)(L:List Xz)(g:Nat):SR->Out (Int×Int×Bool×(List Xz)×(List Int)) Xj->Prop | .err e,o=>o = .ret (rp L e g true)\/(e=s.length/\∃set,o = .fall ((e:Int),(g:Int),false,L,aJ_ set)) | .ok x q,o=>o = .fall (((q-1:Nat):Int),(g:Int),false,L,aJ_ x)/\0<q/\q<=s.length
theorem rcls_go{s:Str}(hs:s.length<=1000){g:Nat}{L:List Xz}{i:Nat}{set:Str}{r:SR}(h:Cx s i set r):i<=s.length->∀(f:Nat),s.length-i<f->set.length+2*(s.length-i)<=5000 ->
  ∃o,ae_ (fD_ s) f ((i:Int),(g:Int),false,L,aJ_ set)=some o/\rclsO s L g r o:=by
 induction h with
 | @done i set h0 h =>
  intro hi f hf hl;obtain⟨f,rfl⟩:∃k,f=k+1:=⟨f-1,by omega⟩;have hlt:=az_ h;refine⟨_,ai_ (b := .fall ((i:Int),(g:Int),false,L,aJ_ set)) ?_,?_,by omega,by omega⟩
  .rw[jR_];simp only[];rw[lb_,show decide (¬(set≠[]/\s[i]? = some 93))=false from decide_eq_false (λe=>e ⟨h0,h⟩),Bool.and_false];rfl
  .rfl
 | @err i set e h0 h =>
  intro hi f hf hl;obtain⟨f,rfl⟩:∃k,f=k+1:=⟨f-1,by omega⟩;rcases Nat.lt_or_ge i s.length with hlt|hge
  .refine⟨_,ai_ (b := .ret (rp L e g true)) ?_,.inl rfl⟩;rw[rcls_step hs (by omega) hlt h0,h];rfl
  .have hn:s[i]? = none:=List.getElem?_eq_none hge;have he:e=i:=by
    unfold eB_ chS at h;rw[hn]at h;injection h with h;exact h.symm
   subst he;refine⟨_,ai_ (b := .fall ((e:Int),(g:Int),false,L,aJ_ set)) ?_,.inr ⟨by omega,set,rfl⟩⟩;rw[jR_];simp only[];rw[lb_,decide_eq_false (by omega:¬e<s.length),Bool.false_and];rfl
 | @next i set a b q r h0 h t ih =>
  intro hi f hf hl;obtain⟨f,rfl⟩:∃k,f=k+1:=⟨f-1,by omega⟩;have hq:=jw_ h;have hst:=rcls_step hs (i:=i) (g:=g) (L:=L) (set:=set) (by omega) (by omega) h0;rw[h]at hst;obtain⟨o,ho,hr⟩:=ih (by omega) f (by omega) (by simp only[qLa,qLc,List.length_nil];omega);exact⟨o,ap_ hst ho,hr⟩
def rclsP(C:List Xz)(g:Nat)(n:Bool):SR->Xj | .err e=>rp C e g true | .ok x q=>rp (C++[setI x n]) q g false
theorem rclass_eq{s:Str}(hs:s.length<=1000){g:Nat}{C:List Xz}{i:Nat}{r:SR}(hi:i<s.length)(hC:C.length<=100000)(h:Cx s (clsI s (i+1)) [] r):fU_ s (rp C i g false)=some (rclsP C g (clsN s (i+1)) r):=by
 have hci:=clsI_le s (i+1) (by omega);obtain⟨o,ho,hr⟩:=rcls_go hs (g:=g) (L:=C) h hci.2 BIG (by unfold BIG;omega) (by simp only[List.length_nil];omega);unfold fU_;have e1:Xj.mk (rp C i g false).L_ (w64 ((rp C i g false).At_+1)) (rp C i g false).N_ (rp C i g false).Xi=rp C (i+1) g false:=by
  unfold rp;simp only[];rw[ag_ (by omega)]
 rw[e1,is_eq (c:=94) (k:=94) rfl];have e2:(rp C i g false).At_=(i:Int):=rfl;simp only[qBs,e2];rw[ag_ (i:=i) (by omega),ag_ (by omega)];have e3:(bif decide (s[i+1]? = some 94)then some (((i+1+1:Nat):Int),(rp C i g false).N_,(rp C i g false).Xi,(rp C (i+1) g false).L_,(Xz.mk 3 0 [] true 0 0))else some (((i+1:Nat):Int),(rp C i g false).N_,(rp C i g false).Xi,(rp C (i+1) g false).L_,(Xz.mk 3 0 [] false 0 0)))=some ((clsI s (i+1):Int),(g:Int),false,C,Xz.mk 3 0 [] (clsN s (i+1)) 0 0):=by
  unfold clsI clsN;by_cases h:s[i+1]? = some 94
  .rw[if_pos h,decide_eq_true h];rfl
  .rw[if_neg h,decide_eq_false h];rfl
 refine as_ e3 ?_;refine as_ ho ?_;cases r with
 | err e =>
  rcases hr with rfl|⟨he,set,rfl⟩
  .rfl
  .simp only[];rw[beq_iff_eq.2 (by omega:(e:Int)=(s.length:Int))];rfl
 | ok x q =>
  obtain⟨rfl,h1,h2⟩:=hr;simp only[];rw[beq_eq_false_iff_ne.2 (by omega:((q-1:Nat):Int)≠(s.length:Int)),cond_false,dc_ (by omega),hQ_,ag_ (by omega),show q-1+1=q by omega];rfl
def ResR(s:Str)(z:Bool)(C:List Xz)(o:Option Xj):PX->Prop | .err e=>∃p,o=some p/\p.At_=(e:Int)/\(p.Xi=true\/(z=true/\p.Xi=false/\s[e]? = some 41))/\C.length<=p.L_.length | .ok a q g=>o=some (rp (C++a.code C.length) q g false)
def ResL(s:Str)(z:Bool)(C:List Xz)(o:Option (Int×Int×Bool×(List Xz))):PX->Prop | .err e=>∃(n:Int) (b:Bool) (L:List Xz),o=some ((e:Int),n,b,L)/\(b=true\/(z=true/\b=false/\s[e]? = some 41))/\C.length<=L.length | .ok a q g=>o=some ((q:Int),(g:Int),false,C++a.code C.length)
def GoR(s:Str)(k:PK)(d i g:Nat)(r:PX):Prop:=s.length<=1000->i<=s.length->g<=9->∀(C:List Xz) (n:Nat),C.length+2*(s.length-i)<=5000->match k with | .rx=>s.length-i<n->ResR s (decide (d=0)) C (aB_ n s (rp C i g false)) r | .br=>s.length-i<=n->∀f,s.length-i+1<f->ResL s (decide (d=0)) C (ae_ (bD_ s (aB_ n)) f ((i:Int),(g:Int),false,C)) r | .pc=>s.length-i<=n->(∃c,s[i]? = some c/\c≠41)->ResR s false C (c9_ (aB_ n) s (rp C i g false)) r | .at=>s.length-i<=n->(∃c,s[i]? = some c/\c≠41)->ResR s false C (bo_ (aB_ n) s (rp C i g false)) r
theorem rbr_end{s:Str}{f:Str->Xj->Option Xj}{i g:Int}{C:List Xz}:bD_ s f (i,g,true,C)=some (.done (i,g,true,C)):=rfl
theorem rbr_stop{s:Str}{f:Str->Xj->Option Xj}{i:Nat}{g:Int}{C:List Xz}(h:s[i]? = none\/s[i]? = some 124\/s[i]? = some 41):bD_ s f ((i:Int),g,false,C)=some (.done ((i:Int),g,false,C)):=by
 unfold bD_;simp only[Bool.not_false,Bool.true_and];rcases h with h|h|h
 .have:=List.getElem?_eq_none_iff.1 h;rw[decide_eq_false (by omega)];rfl
 .have:=az_ h;rw[decide_eq_true (by omega),bF_ h];rfl
 .have:=az_ h;rw[decide_eq_true (by omega),bF_ h];rfl
theorem rbr_more{s:Str}{f:Str->Xj->Option Xj}{i g:Nat}{C:List Xz}{c:UInt8}(h:s[i]? = some c)(h1:c≠124)(h2:c≠41):bD_ s f ((i:Int),(g:Int),false,C)=(c9_ f s (rp C i g false)).bind λy10=>some (.next (y10.At_,y10.N_,y10.Xi,y10.L_)):=by
 have hlt:=az_ h;unfold bD_;simp only[Bool.not_false,Bool.true_and];rw[decide_eq_true (by omega),cond_true,bF_ h];simp only[qBs];have k1:((c.toNat:Int) != 124)=(c != 124):=u8_ne c 124;have k2:((c.toNat:Int) != 41)=(c != 41):=u8_ne c 41;rw[k1,k2,bne_iff_ne.2 h1,bne_iff_ne.2 h2];rfl
theorem gr_stop{s:Str}{d i g:Nat}(h:s[i]? = none\/s[i]? = some 124\/(s[i]? = some 41/\0<d)):GoR s .br d i g (.ok .emp i g):=by
 intro hs hi hg C n hC hn f hf;obtain⟨f,rfl⟩:∃k,f=k+1:=⟨f-1,by omega⟩;show _=_;rw[show C++Re.emp.code C.length=C from List.append_nil C];refine ai_ (rbr_stop ?_);rcases h with h|h|h
 .exact .inl h
 .exact .inr (.inl h)
 .exact .inr (.inr h.1)
theorem gr_par{s:Str}{i g:Nat}(h:s[i]? = some 41):GoR s .br 0 i g (.err i):=by
 intro hs hi hg C n hC hn f hf;obtain⟨f,rfl⟩:∃k,f=k+1:=⟨f-1,by omega⟩;exact⟨_,false,C,ai_ (rbr_stop (.inr (.inr h))),.inr ⟨rfl,rfl,h⟩,Nat.le_refl _⟩
theorem gr_bad{s:Str}{d i g e:Nat}{c:UInt8}(h:s[i]? = some c)(h1:c≠124)(h2:c≠41)(ih:GoR s .pc d i g (.err e)):GoR s .br d i g (.err e):=by
 intro hs hi hg C n hC hn f hf;have hlt:=az_ h;obtain⟨f,rfl⟩:∃k,f=k+1+1:=⟨f-2,by omega⟩;obtain⟨p,hp,ha,hb,hl⟩:=ih hs hi hg C n hC hn ⟨c,h,h2⟩;have hb:p.Xi=true:=by
  rcases hb with hb|hb
  .exact hb
  .exact absurd hb.1 (by decide)
 refine⟨p.N_,true,p.L_,ap_ (s':=(p.At_,p.N_,p.Xi,p.L_)) ?_ ?_,.inl rfl,hl⟩
 .rw[rbr_more h h1 h2,hp];rfl
 .rw[hb,ha];exact ai_ rbr_end
theorem gr_next{s:Str}{d i g q g1:Nat}{c:UInt8}{a:Re}{r:PX}(h:s[i]? = some c)(h1:c≠124)(h2:c≠41)(hq:RP s .pc d i g (.ok a q g1))(ih:GoR s .pc d i g (.ok a q g1))(ih2:GoR s .br d q g1 r):GoR s .br d i g (r.pre a):=by
 intro hs hi hg C n hC hn f hf;obtain⟨f,rfl⟩:∃k,f=k+1:=⟨f-1,by omega⟩;have hgood:=hq.good hi hg;simp only[PK.inc]at hgood;have hlen:(C++a.code C.length).length=C.length+a.len:=by rw[qLa,aw_]
 have hp:_=_:=ih hs hi hg C n hC hn ⟨c,h,h2⟩;have ht:=ih2 hs (by omega) (by omega) (C++a.code C.length) n (by rw[hlen];omega) (by omega) f (by omega);have hst:bD_ s (aB_ n) ((i:Int),(g:Int),false,C)=some (.next ((q:Int),(g1:Int),false,C++a.code C.length)):=by
  rw[rbr_more h h1 h2,hp];rfl
 cases r with
 | err e =>
  obtain⟨m,b,L,hp,hb,hl⟩:=ht;exact⟨m,b,L,ap_ hst hp,hb,by rw[hlen]at hl;omega⟩
 | ok b q2 g2 =>
  have ht:_=_:=ht;show _=_;refine ap_ hst ?_;rw[ht];simp only[Re.code];rw[hlen,List.append_assoc]
theorem gr_pcbad{s:Str}{d i g e:Nat}(ih:GoR s .at d i g (.err e)):GoR s .pc d i g (.err e):=by
 intro hs hi hg C n hC hn hc;obtain⟨p,hp,ha,hb,hl⟩:=ih hs hi hg C n hC hn hc;have hb:p.Xi=true:=by
  rcases hb with hb|hb
  .exact hb
  .exact absurd hb.1 (by decide)
 refine⟨p,?_,ha,.inl hb,hl⟩;unfold c9_;rw[hp];have e1:Xj.mk p.L_ p.At_ p.N_ p.Xi=p:=rfl;simp only[qBs];rw[kp_ hb];simp only[qBs,cond_false,e1];rw[kp_ hb];simp only[qBs,cond_false,e1];rw[kp_ hb];rfl
theorem rp_L(C:List Xz)(i g:Nat)(b:Bool):(rp C i g b).L_=C:=rfl
theorem e5_(C:List Xz)(i g:Nat)(b:Bool):(rp C i g b).At_=(i:Int):=rfl
theorem rp_N(C:List Xz)(i g:Nat)(b:Bool):(rp C i g b).N_=(g:Int):=rfl
theorem fi_(C:List Xz)(i g:Nat)(b:Bool):(rp C i g b).Xi=b:=rfl
theorem gr_pcok{s:Str}{d i g q g1:Nat}{a:Re}(hq:RP s .at d i g (.ok a q g1))(ih:GoR s .at d i g (.ok a q g1)):GoR s .pc d i g (post s a q g1):=by
 intro hs hi hg C n hC hn hc;have hgood:=hq.good hi hg;simp only[PK.inc]at hgood;have hp:_=_:=ih hs hi hg C n hC hn hc;have hlen:(a.code C.length).length=a.len:=aw_ a _;have hlen1:(a.code (C.length+1)).length=a.len:=aw_ a _;have hw:w64 ((C.length:Int)+1)=((C.length+1:Nat):Int):=ag_ (by omega);have hw2:w64 ((q:Int)+1)=((q+1:Nat):Int):=ag_ (by omega);show ResR s false C (c9_ (aB_ n) s (rp C i g false)) (post s a q g1);unfold c9_;rw[hp];simp only[qBs,rp_L,e5_,rp_N,fi_];unfold post;by_cases h42:s[q]? = some 42
 .rw[if_pos h42,is_t (c:=42) (k:=42) rfl h42];simp only[qBs,cond_true,rp_L];rw[hw2,k7_ rfl (by omega) hgood.2.2.2.2.2];simp only[qBs];rw[dc_ (by simp only[qLa,qLc];omega)];simp only[qBs];rw[List.append_assoc,List.cons_append,db_ rfl];simp only[qBs];rw[dK_ (fh_ _)];show _=_;simp only[Re.code];have e1:(((C++Xz.mk 6 0 [] false (w64 ((C.length:Int)+1)) 0::(a.code (C.length+1)++[Xz.mk 7 0 [] false (C.length:Int) 0])).length:Nat):Int)=((C.length+a.len+2:Nat):Int):=by
   simp only[qLa,qLc,List.length_nil,hlen1];omega
  rw[e1,hw];rfl
 .rw [if_neg h42,is_f (c:=42) (k:=42) rfl h42];simp only[qBs,cond_false,rp_L];rw[rpE];by_cases h43:s[q]? = some 43
  .rw[if_pos h43,is_t (c:=43) (k:=43) rfl h43];simp only[qBs,cond_true,rp_L];rw[hw2,dc_ (by simp only[qLa];omega)];show _=_;simp only[Re.code,qBs];have e1:w64 (((C++a.code C.length).length:Int)+1)=((C.length+a.len+1:Nat):Int):=by
    rw[bE_ ⟨by omega,by simp only[qLa];omega⟩];simp only[qLa];omega
   rw[e1,←List.append_assoc];rfl
  .rw[if_neg h43,is_f (c:=43) (k:=43) rfl h43];simp only[qBs,cond_false,rp_L];rw[rpE];by_cases h63:s[q]? = some 63
   .rw[if_pos h63,is_t (c:=63) (k:=63) rfl h63];simp only[qBs,cond_true,rp_L];rw[hw2,k7_ rfl (by omega) hgood.2.2.2.2.2];simp only[qBs];rw[db_ rfl];simp only[qBs];rw[dK_ (fh_ _)];show _=_;simp only[Re.code];have e1:(((C++Xz.mk 6 0 [] false (w64 ((C.length:Int)+1)) 0::a.code (C.length+1)).length:Nat):Int)=((C.length+a.len+1:Nat):Int):=by
     simp only[qLa,qLc,hlen1];omega
    rw[e1,hw];rfl
   .rw[if_neg h63,is_f (c:=63) (k:=63) rfl h63];rfl
theorem rat_many{s:Str}{d i g:Nat}(h:s[i]? = some 40)(hg9:9<=g):GoR s .at d i g (.err i):=by
 intro hs hi hg C n hC hn hc;refine⟨rp C i g true,?_,rfl,.inl rfl,Nat.le_refl _⟩;unfold bo_;rw[e5_,rp_N,bF_ h];simp only[qBs];rw[show((((40:UInt8).toNat:Int)==40))=true from rfl,cond_true,show decide ((g:Int)>=9)=true from decide_eq_true (by omega)];rfl
theorem jS_{s:Str}{i g n:Nat}{C:List Xz}(h:s[i]? = some 40)(hs:s.length<=1000)(hg:g<9)(hC:C.length<=5000) :
  bo_ (aB_ n) s (rp C i g false)=(aB_ n s (rp (C++[aI_ (2*(g+1))]) (i+1) (g+1) false)).bind λy3 =>
    (bI_ s y3 41).bind λy4 =>
    (bif(!y4.1)then
     some (Xj.mk y4.2.L_ y3.At_ y3.N_ true)
    else
     Option.bind (aN_ (Xj.mk y4.2.L_ y3.At_ y3.N_ y3.Xi) (aI_ (2*(g+1)+1))) λ(y5:Xj) =>
     some (Xj.mk y5.L_ (w64 (y5.At_+1)) y5.N_ y5.Xi)):=by
 have hlt:=az_ h;unfold bo_;rw[e5_,rp_N,rp_L,fi_,bF_ h];simp only[qBs];have e2:w64 (2*(((g+1:Nat):Int)))=((2*(g+1):Nat):Int):=by
  rw[bE_ ⟨by omega,by omega⟩];omega
 have e3:w64 (((2*(g+1):Nat):Int)+1)=((2*(g+1)+1:Nat):Int):=ag_ (by omega);rw[show((((40:UInt8).toNat:Int)==40))=true from rfl,cond_true,show decide ((g:Int)>=9)=false from decide_eq_false (by omega),cond_false,ag_ (i:=g) (by omega),e2,e3,ag_ (i:=i) (by omega),dc_ (by omega)];simp only[qBs];show Option.bind ((aB_ n s (rp (C++[aI_ (2*(g+1))]) (i+1) (g+1) false)).bind _) _=_;cases aB_ n s (rp (C++[aI_ (2*(g+1))]) (i+1) (g+1) false)with
 | none=>rfl
 | some y3 =>
  simp only[qBs];cases bI_ s y3 41 with
  | none=>rfl
  | some y4 =>
   simp only[qBs];cases y4.1 with
   | false=>rfl
   | true =>
    simp only[Bool.not_true,cond_false];show Option.bind (Option.bind (aN_ _ (aI_ (2*(g+1)+1))) _) _=_;cases aN_ (Xj.mk y4.2.L_ y3.At_ y3.N_ y3.Xi) (aI_ (2*(g+1)+1))<;>rfl
theorem rat_inner{s:Str}{d i g e:Nat}(h:s[i]? = some 40)(hg9:g<9)(ih:GoR s .rx (d+1) (i+1) (g+1) (.err e)):GoR s .at d i g (.err e):=by
 intro hs hi hg C n hC hn hc;have hlt:=az_ h;obtain⟨p,hp,ha,hb,hl⟩:=ih hs (by omega) (by omega) (C++[aI_ (2*(g+1))]) n (by simp only[qLa,qLc,List.length_nil];omega) (by omega);have hb:p.Xi=true:=by
  rcases hb with hb|hb
  .exact hb
  .exact absurd hb.1 (by simp)
 refine⟨Xj.mk p.L_ p.At_ p.N_ true,?_,ha,.inl rfl,by simp only[qLa]at hl;show C.length<=p.L_.length;omega⟩;rw[jS_ h hs hg9 (by omega),hp];simp only[qBs];rw[kp_ hb];rfl
theorem rat_unc{s:Str}{d i g q g1:Nat}{a:Re}(h:s[i]? = some 40)(hg9:g<9)(ih:GoR s .rx (d+1) (i+1) (g+1) (.ok a q g1))(hc:s[q]? ≠ some 41):GoR s .at d i g (.err q):=by
 intro hs hi hg C n hC hn _;have hlt:=az_ h;have hp:_=_:=ih hs (by omega) (by omega) (C++[aI_ (2*(g+1))]) n (by simp only[qLa,qLc,List.length_nil];omega) (by omega);refine⟨rp ((C++[aI_ (2*(g+1))])++a.code (C++[aI_ (2*(g+1))]).length) q g1 true,?_,rfl,.inl rfl,by rw[rp_L];simp only[qLa];omega⟩;rw[jS_ h hs hg9 (by omega),hp];simp only[qBs];rw[is_f (c:=41) (k:=41) rfl hc];rfl
theorem rat_grp{s:Str}{d i g q g1:Nat}{a:Re}(h:s[i]? = some 40)(hg9:g<9)(hr:RP s .rx (d+1) (i+1) (g+1) (.ok a q g1))(ih:GoR s .rx (d+1) (i+1) (g+1) (.ok a q g1))(hc:s[q]? = some 41):GoR s .at d i g (.ok (.grp (g+1) a) (q+1) g1):=by
 intro hs hi hg C n hC hn _;have hlt:=az_ h;have hlt2:=az_ hc;have hgood:=hr.good (by omega) (by omega);simp only[PK.inc]at hgood;have hp:_=_:=ih hs (by omega) (by omega) (C++[aI_ (2*(g+1))]) n (by simp only[qLa,qLc,List.length_nil];omega) (by omega);show _=_;rw[jS_ h hs hg9 (by omega),hp];simp only[qBs];rw[is_t (c:=41) (k:=41) rfl hc];simp only[qBs,Bool.not_true,cond_false,rp_L,e5_,rp_N,fi_];rw[dc_ (by simp only[qLa,qLc,List.length_nil,aw_];omega)];simp only[qBs,Re.code];rw[show(C++[aI_ (2*(g+1))]).length=C.length+1 from by simp,List.append_assoc,List.append_assoc,List.singleton_append,ag_ (by omega)]
 rfl
theorem find_any{α:Type}(p:α->Bool):∀l:List α,((l.find? p).map λ_=>true).getD false=l.any p
 | []=>rfl
 | x::l=>by
  rw[List.find?_cons,List.any_cons];cases p x with
  | true=>rfl
  | false=>exact find_any p l
theorem lc_(c:UInt8):gb_ (c.toNat:Int)=some (spec c):=by
 unfold gb_;have hL:=bp_ (body:=gq_ (c.toNat:Int)) ([40,41,124,42,43,63,46,94,36,91,92]:Str) (λ_ x=>if(x==c)=true then some true else none) (by unfold BIG;simp)
  (λi hi=>by
   have hi11:i<11:=hi;unfold gq_;refine i8_ (decide_eq_true (show(i:Int)<((11:Nat):Int)by omega)) ?_;rw[aT_ hi];simp only[qBs];rw[aW_,ag_ (by omega)];cases([40,41,124,42,43,63,46,94,36,91,92]:Str)[i]==c<;>rfl)
  (by rfl)
 refine(bX_ hL (λr=>rfl) rfl).trans ?_;rw[fg_ (λx=>x==c) (λ_=>true),find_any];simp only[List.any_cons,List.any_nil,Bool.or_false];have k:∀x:UInt8,(x==c)=(c==x):=λx=>BEq.comm
 simp only[k];unfold spec;simp only[Bool.or_assoc]
theorem rat_one{s:Str}{i g:Nat}{C:List Xz}{z:Int}(hi:i<900000)(hC:C.length<=5000){f:Str->Xj->Option Xj}{c:UInt8}(h:s[i]? = some c)(hc:(c=46/\z=2)\/(c=94/\z=4)\/(c=36/\z=5)):bo_ f s (rp C i g false)=some (rp (C++[Xz.mk z 0 [] false 0 0]) (i+1) g false):=by
 unfold bo_;rw[e5_,rp_N,rp_L,fi_,bF_ h];simp only[qBs];have hem:∀z:Int,aN_ (rp C i g false) (Xz.mk z 0 [] false 0 0)=some (rp (C++[Xz.mk z 0 [] false 0 0]) i g false):=λz=>dc_ (by omega)
 have hw:w64 ((i:Int)+1)=((i+1:Nat):Int):=ag_ (by omega);rcases hc with⟨rfl,rfl⟩|⟨rfl,rfl⟩|⟨rfl,rfl⟩
 .rw[hem];simp only[qBs,rp_L,e5_,rp_N,fi_];refine Eq.trans (show _=some (Xj.mk (C++[Xz.mk 2 0 [] false 0 0]) (w64 ((i:Int)+1)) (g:Int) false)from rfl) ?_;rw[hw];rfl
 .rw[hem,hem];simp only[qBs,rp_L,e5_,rp_N,fi_];refine Eq.trans (show _=some (Xj.mk (C++[Xz.mk 4 0 [] false 0 0]) (w64 ((i:Int)+1)) (g:Int) false)from rfl) ?_;rw[hw];rfl
 .rw[hem,hem,hem];simp only[qBs,rp_L,e5_,rp_N,fi_];refine Eq.trans (show _=some (Xj.mk (C++[Xz.mk 5 0 [] false 0 0]) (w64 ((i:Int)+1)) (g:Int) false)from rfl) ?_;rw[hw];rfl
theorem gr_sym{s:Str}{d i g:Nat}{c:UInt8}(h:s[i]? = some c)(hc:c=42\/c=43\/c=63):GoR s .at d i g (.err i):=by
 intro hs hi hg C n hC hn _;refine⟨rp C i g true,?_,rfl,.inl rfl,Nat.le_refl _⟩;unfold bo_;rw[e5_,bF_ h];simp only[qBs];rw[lc_];rcases hc with rfl|rfl|rfl<;>rfl
theorem gr_one{s:Str}{d i g:Nat}{c:UInt8}{z:Int}{a:Re}(ha:∀n,a.code n=[Xz.mk z 0 [] false 0 0])(h:s[i]? = some c)(hc:(c=46/\z=2)\/(c=94/\z=4)\/(c=36/\z=5)):GoR s .at d i g (.ok a (i+1) g):=by
 intro hs hi hg C n hC hn _;show _=_;rw[rat_one (by omega) (by omega) h hc,ha]
theorem gr_cls{s:Str}{d i g:Nat}{r:SR}(h:s[i]? = some 91)(hc:Cx s (clsI s (i+1)) [] r):GoR s .at d i g (clsR g (clsN s (i+1)) r):=by
 intro hs hi hg C n hC hn _;have hlt:=az_ h;have e2:bo_ (aB_ n) s (rp C i g false)=some (rclsP C g (clsN s (i+1)) r):=by
  unfold bo_;rw[e5_,bF_ h];simp only[qBs];rw[rclass_eq hs hlt (by omega) hc];rfl
 show ResR s false C (bo_ (aB_ n) s (rp C i g false)) _;rw[e2];cases r with
 | err e=>exact⟨_,rfl,rfl,.inl rfl,Nat.le_refl _⟩
 | ok x q=>rfl
theorem gr_esc{s:Str}{d i g:Nat}(h:s[i]? = some 92):GoR s .at d i g (escR g (escS s i)):=by
 intro hs hi hg C n hC hn _;have hlt:=az_ h;show ResR s false C (bo_ (aB_ n) s (rp C i g false)) _;unfold bo_;rw[e5_,bF_ h];simp only[qBs,rp_N,rp_L,fi_];rw[lc_,ag_ (i:=i) (by omega)];unfold escS;cases h1:s[i+1]? with
 | none =>
  have:=List.getElem?_eq_none_iff.1 h1;rw[beq_iff_eq.2 (by omega:((i+1:Nat):Int)=(s.length:Int))];exact⟨rp C (i+1) g true,rfl,rfl,.inl rfl,Nat.le_refl _⟩
 | some d =>
  have hlt1:=az_ h1;rw[beq_eq_false_iff_ne.2 (by omega:((i+1:Nat):Int)≠(s.length:Int)),cond_false,bF_ h1];simp only[qBs];rw[ag_ (i:=i+1) (by omega)];have k2:((d.toNat:Int)==110)=(d==110):=aW_ d 110;have k3:((d.toNat:Int)==116)=(d==116):=aW_ d 116;have hem:∀z:Int,aN_ (rp C (i+2) g false) (Xz.mk 1 z [] false 0 0)=some (rp (C++[Xz.mk 1 z [] false 0 0]) (i+2) g false):=λz=>dc_ (by omega)
  rw[k2,k3];unfold escB;by_cases h2:d=110
  .subst h2;exact as_ (as_ (hem 10) rfl) rfl
  .rw[beq_eq_false_iff_ne.2 h2,if_neg h2,cond_false];by_cases h3:d=116
   .subst h3;exact as_ (as_ (hem 9) rfl) rfl
   .rw[beq_eq_false_iff_ne.2 h3,if_neg h3,cond_false];exact as_ (as_ (hem d.toNat) rfl) rfl
theorem gr_chr{s:Str}{d i g:Nat}{c:UInt8}(h:s[i]? = some c)(hc:spec c=false):GoR s .at d i g (.ok (.chr c) (i+1) g):=by
 intro hs hi hg C n hC hn _;show _=_;have hsp:=hc;unfold spec at hc;simp only[Bool.or_eq_false_iff]at hc;obtain⟨⟨⟨⟨⟨⟨⟨⟨⟨⟨a1,a2⟩,a3⟩,a4⟩,a5⟩,a6⟩,a7⟩,a8⟩,a9⟩,a10⟩,a11⟩:=hc;have k (m:UInt8) (z:Int) (hz:z=(m.toNat:Int)) (hm:(c==m)=false):((c.toNat:Int)==z)=false:=by
  subst hz;rw[←hm];exact aW_ c m
 have k92:((c.toNat:Int) != 92)=true:=by
  unfold bne;rw[k 92 92 rfl a11];rfl
 unfold bo_;rw[e5_,bF_ h];simp only[qBs,rp_N,rp_L,fi_];rw[k 40 40 rfl a1,k 46 46 rfl a7,k 94 94 rfl a8,k 36 36 rfl a9,k 91 91 rfl a10,lc_,hsp,k92];simp only[cond_false,cond_true,qBs,Bool.false_and];rw[dc_ (by omega),ag_ (by omega)];rfl
theorem jy_{s:Str}{z:Bool}{i g n:Nat}{C:List Xz}{r:PX}(h:ResL s z C (ae_ (bD_ s (aB_ n)) BIG ((i:Int),(g:Int),false,C)) r):ResR s z C (em_ (aB_ n) s (rp C i g false)) r:=by
 have e:em_ (aB_ n) s (rp C i g false)=(ae_ (bD_ s (aB_ n)) BIG ((i:Int),(g:Int),false,C)).bind λo1=>some ((Xj.mk o1.2.2.2 o1.1 o1.2.1 o1.2.2.1)):=rfl
 rw[e];cases r with
 | err e =>
  obtain⟨m,b,L,hp,hb,hl⟩:=h;rw[hp];exact⟨_,rfl,rfl,hb,hl⟩
 | ok a q g1 =>
  have h:_=_:=h;rw[h];rfl
theorem ni_{n:Nat}{s:Str}{p:Xj}:aB_ (n+1) s p=dI_ (aB_ n) s p:=rfl
theorem gr_rxbad{s:Str}{d i g e:Nat}(ih:GoR s .br d i g (.err e)):GoR s .rx d i g (.err e):=by
 intro hs hi hg C n hC hn;obtain⟨n,rfl⟩:∃k,n=k+1:=⟨n-1,by omega⟩;obtain⟨p,hp,ha,hb,hl⟩:=jy_ (ih hs hi hg C n hC (by omega) BIG (by unfold BIG;omega));have his:bI_ s p 124=some (false,p):=by
  rcases hb with hb|⟨_,hb,h41⟩
  .exact kp_ hb _
  .unfold bI_;have:=az_ h41;rw[hb,ha,decide_eq_true (by omega),bF_ h41];rfl
 refine⟨p,?_,ha,hb,hl⟩;rw[ni_];unfold dI_;rw[hp];simp only[qBs];rw[his];rfl
theorem gr_rxone{s:Str}{d i g q g1:Nat}{a:Re}(ih:GoR s .br d i g (.ok a q g1))(hq:s[q]? ≠ some 124):GoR s .rx d i g (.ok a q g1):=by
 intro hs hi hg C n hC hn;obtain⟨n,rfl⟩:∃k,n=k+1:=⟨n-1,by omega⟩;have hp:_=_:=jy_ (ih hs hi hg C n hC (by omega) BIG (by unfold BIG;omega));show _=_;rw[ni_];unfold dI_;rw[hp];simp only[qBs];rw[is_f (c:=124) (k:=124) rfl hq];rfl
theorem rrx_step{s:Str}{i g q g1 n:Nat}{a:Re}{C:List Xz}(hs:s.length<=1000)(hl:C.length+a.len<=20000)(hgr:a.grps 100)
  (hp:em_ (aB_ n) s (rp C i g false)=some (rp (C++a.code C.length) q g1 false)) (hq:s[q]? = some 124) :
  aB_ (n+1) s (rp C i g false)=(aB_ n s (rp (C++(br_ (C.length+1) (C.length+a.len+2)::(a.code (C.length+1)++[cn_ 0]))) (q+1) g1 false)).bind λy6 =>
   (ah_ y6.L_ ((C.length+a.len+1:Nat):Int)).bind λy7 =>
   some ((Xj.mk (y6.L_.set (C.length+a.len+1) (Xz.mk y7.Op_ y7.C_ y7.Xu y7.Yq (y6.L_.length:Int) y7.Y_)) y6.At_ y6.N_ y6.Xi)):=by
 have hlen1:(a.code (C.length+1)).length=a.len:=aw_ a _;have hlt:=az_ hq;rw[ni_];unfold dI_;rw[hp];simp only[qBs];rw[is_t (c:=124) (k:=124) rfl hq];simp only[qBs,Bool.not_true,cond_false,rp_L,e5_,rp_N,fi_];rw[ag_ (i:=q) (by omega),k7_ rfl (by omega) hgr];simp only[qBs];rw[dc_ (by simp only[qLa,qLc];omega)];simp only[qBs];have hk:(C++Xz.mk 6 0 [] false (w64 ((C.length:Int)+1)) 0::a.code (C.length+1)).length=C.length+a.len+1:=by
  simp only[qLa,qLc,hlen1];omega
 rw[hk,List.append_assoc,List.cons_append,db_ rfl];simp only[qBs];have hk2:(((C++Xz.mk 6 0 [] false (w64 ((C.length:Int)+1)) 0::(a.code (C.length+1)++[Xz.mk 7 0 [] false 0 0])).length:Nat):Int)=((C.length+a.len+2:Nat):Int):=by
  simp only[qLa,qLc,List.length_nil,hlen1];omega
 rw[dK_ (fh_ _),hk2,ag_ (i:=C.length) (by omega)];rfl
theorem gr_rxerr{s:Str}{d i g q g1 e:Nat}{a:Re}(h:RP s .br d i g (.ok a q g1))(hq:s[q]? = some 124)(ih:GoR s .br d i g (.ok a q g1))(ih2:GoR s .rx d (q+1) g1 (.err e)):GoR s .rx d i g (.err e):=by
 intro hs hi hg C n hC hn;obtain⟨n,rfl⟩:∃k,n=k+1:=⟨n-1,by omega⟩;have hgood:=h.good hi hg;simp only[PK.inc]at hgood;have hlt:=az_ hq;have hp:_=_:=jy_ (ih hs hi hg C n hC (by omega) BIG (by unfold BIG;omega));obtain⟨p,hp2,ha,hb,hl⟩:=ih2 hs (by omega) (by omega) (C++(br_ (C.length+1) (C.length+a.len+2)::(a.code (C.length+1)++[cn_ 0]))) n (by simp only[qLa,qLc,List.length_nil,aw_];omega) (by omega);have hk:(C++(br_ (C.length+1) (C.length+a.len+2)::(a.code (C.length+1)++[cn_ 0]))).length=C.length+a.len+2:=by
  simp only[qLa,qLc,List.length_nil,aw_];omega
 rw[hk]at hl;refine⟨Xj.mk (p.L_.set (C.length+a.len+1) (Xz.mk (p.L_[C.length+a.len+1]'(by omega)).Op_ (p.L_[C.length+a.len+1]'(by omega)).C_ (p.L_[C.length+a.len+1]'(by omega)).Xu (p.L_[C.length+a.len+1]'(by omega)).Yq (p.L_.length:Int) (p.L_[C.length+a.len+1]'(by omega)).Y_)) p.At_ p.N_ p.Xi,?_,ha,hb,by rw[List.length_set];omega⟩;rw[rrx_step hs (by omega) hgood.2.2.2.2.2 hp hq,hp2];simp only[qBs];rw[aC_ (by omega)];rfl
theorem gr_rxalt{s:Str}{d i g q g1 q2 g2:Nat}{a b:Re}(h:RP s .br d i g (.ok a q g1))(hq:s[q]? = some 124)(ih:GoR s .br d i g (.ok a q g1))(ih2:GoR s .rx d (q+1) g1 (.ok b q2 g2)):GoR s .rx d i g (.ok (.alt a b) q2 g2):=by
 intro hs hi hg C n hC hn;obtain⟨n,rfl⟩:∃k,n=k+1:=⟨n-1,by omega⟩;have hgood:=h.good hi hg;simp only[PK.inc]at hgood;have hlt:=az_ hq;have hp:_=_:=jy_ (ih hs hi hg C n hC (by omega) BIG (by unfold BIG;omega));have hp2:_=_:=ih2 hs (by omega) (by omega) (C++(br_ (C.length+1) (C.length+a.len+2)::(a.code (C.length+1)++[cn_ 0]))) n (by simp only[qLa,qLc,List.length_nil,aw_];omega) (by omega);show _=_;rw[rrx_step hs (by omega) hgood.2.2.2.2.2 hp hq,hp2];have hlen1:(a.code (C.length+1)).length=a.len:=aw_ a _;simp only[qBs,rp_L];have hk:(C++(br_ (C.length+1) (C.length+a.len+2)::(a.code (C.length+1)++[cn_ 0]))).length=C.length+a.len+2:=by
  simp only[qLa,qLc,List.length_nil,hlen1];omega
 have hk2:(C++(br_ (C.length+1) (C.length+a.len+2)::a.code (C.length+1))).length=C.length+a.len+1:=by
  simp only[qLa,qLc,hlen1];omega
 rw[hk];have e1:(C++(br_ (C.length+1) (C.length+a.len+2)::(a.code (C.length+1)++[cn_ 0])))++b.code (C.length+a.len+2)=(C++(br_ (C.length+1) (C.length+a.len+2)::a.code (C.length+1)))++cn_ 0::b.code (C.length+a.len+2):=by simp
 rw[e1,db_ (by rw[hk2])];simp only[qBs];rw[dK_ hk2.symm];have e2:(((C++(br_ (C.length+1) (C.length+a.len+2)::a.code (C.length+1)))++cn_ 0::b.code (C.length+a.len+2)).length:Int)=((C.length+a.len+b.len+2:Nat):Int):=by
  rw[qLa,hk2];simp only[qLc,aw_];omega
 rw[e2];simp only[Re.code,List.append_assoc,List.cons_append];rfl
theorem RP.goR{s:Str}{k:PK}{d i g:Nat}{r:PX}(h:RP s k d i g r):GoR s k d i g r:=by
 induction h with
 | stop h=>exact gr_stop h
 | par h=>exact gr_par h
 | bad h h1 h2 hp ih=>exact gr_bad h h1 h2 ih
 | next h h1 h2 hp ht ih1 ih2=>exact gr_next h h1 h2 hp ih1 ih2
 | pcbad h ih=>exact gr_pcbad ih
 | pcok h ih=>exact gr_pcok h ih
 | many h hg=>exact rat_many h hg
 | inner h hg hr ih=>exact rat_inner h hg ih
 | unc h hg hr hc ih=>exact rat_unc h hg ih hc
 | grp h hg hr hc ih=>exact rat_grp h hg hr ih hc
 | sym h hc=>exact gr_sym h hc
 | any h=>exact gr_one (λ_=>rfl) h (.inl ⟨rfl,rfl⟩)
 | bol h=>exact gr_one (λ_=>rfl) h (.inr (.inl ⟨rfl,rfl⟩))
 | eol h=>exact gr_one (λ_=>rfl) h (.inr (.inr ⟨rfl,rfl⟩))
 | cls h hc=>exact gr_cls h hc
 | esc h=>exact gr_esc h
 | chr h hc=>exact gr_chr h hc
 | rxbad h ih=>exact gr_rxbad ih
 | rxone h hq ih=>exact gr_rxone ih hq
 | rxerr h hq ht ih1 ih2=>exact gr_rxerr h hq ih1 ih2
 | rxalt h hq ht ih1 ih2=>exact gr_rxalt h hq ih1 ih2
def prog(a:Re)(g:Nat):Xk:=Xk.mk (aI_ 0::(a.code 1++[aI_ 1,iOne 9])) ((g+1:Nat):Int)
def compV:PX->Xk×Int×Int | .err e=>(Xk.mk [] 0,(e:Int),49) | .ok a _ g=>(prog a g,0,0)
theorem mh_(s:Str):(256<s.length/\aE_ s=some (Xk.mk [] 0,0,4)/\bL_ s=some (Xk.mk [] 0,0,4)) \/
  (s.length<=256/\∃r,RP s .rx 0 0 0 r/\aE_ s=some (compV r)/\bL_ s=some (compV r)):=by
 rcases Nat.lt_or_ge 256 s.length with hl|hl
 .refine .inl ⟨hl,?_,?_⟩
  .unfold aE_;rw[decide_eq_true (by omega)];rfl
  .unfold bL_;rw[decide_eq_true (by omega)];rfl
 .obtain⟨r,hr⟩:=(RP.ex (s:=s) _ 0 (Nat.lt_succ_self _) (Nat.zero_le _)).2 0 0 (Nat.zero_le _);refine .inr ⟨hl,r,hr,?_,?_⟩
  .have h:=hr.go (by omega) (Nat.zero_le _) (Nat.zero_le _) (Nat.le_refl _) [aI_ 0] 0 BIG (by simp only[qLc,List.length_nil];omega) (by unfold BIG;omega);unfold aE_;rw[decide_eq_false (by omega),cond_false];have e1:av_ (regex_parser.mk s 0 0 [] 0) (Xz.mk 8 0 [] false 0 0)=some (0,ps s 0 0 [aI_ 0] 0):=dx_ (s:=s) (i:=0) (g:=0) (C:=[]) (bad:=0) (x:=aI_ 0) (by simp);rw[e1];simp only[qBs];cases r with
   | err e =>
    obtain⟨p,hp,hb⟩:=h;have hp:aj_ BIG (ps s 0 0 [aI_ 0] 0) 0=some (false,p):=hp;rw[hp];simp only[qBs,Bool.not_false,cond_true];rw[hb];rfl
   | ok a q g =>
    have hgood:=hr.good (Nat.zero_le _) (Nat.zero_le _);have hp:aj_ BIG (ps s 0 0 [aI_ 0] 0) 0=some (true,ps s q g ([aI_ 0]++a.code 1) 0):=h;have hlen:=aw_ a 1;rw[hp];simp only[qBs,Bool.not_true,cond_false];rw[dx_ (by simp only[qLa,qLc,List.length_nil];omega)];simp only[qBs];rw[dx_ (by simp only[qLa,qLc,List.length_nil];omega)];simp only[qBs,gK_,me_];rw[ag_ (by omega)];simp only[List.append_assoc];rfl
  .have h:=hr.goR (by omega) (Nat.zero_le _) (Nat.zero_le _) [aI_ 0] BIG (by simp only[qLc,List.length_nil];omega) (by unfold BIG;omega);unfold bL_;rw[decide_eq_false (by omega),cond_false];have e1:aN_ (Xj.mk [] 0 0 false) (Xz.mk 8 0 [] false 0 0)=some (rp [aI_ 0] 0 0 false):=dc_ (by simp);rw[e1];simp only[qBs];cases r with
   | err e =>
    obtain⟨p,hp,ha,hb,hl⟩:=h;rw[hp];simp only[qBs];have:(p.Xi||decide (p.At_<(s.length:Int)))=true:=by
     rcases hb with hb|⟨_,hb,h41⟩
     .rw[hb];rfl
     .have:=az_ h41;rw[ha,decide_eq_true (by omega),Bool.or_true]
    rw[this,cond_true,ha];rfl
   | ok a q g =>
    have hgood:=hr.good (Nat.zero_le _) (Nat.zero_le _);have hend:=(hr.ends rfl a q g rfl).1 rfl;have hq:=List.getElem?_eq_none_iff.1 hend;have hp:aB_ BIG s (rp [aI_ 0] 0 0 false)=some (rp ([aI_ 0]++a.code 1) q g false):=h;have hlen:=aw_ a 1;rw[hp];simp only[qBs];have:((rp ([aI_ 0]++a.code 1) q g false).Xi||decide ((rp ([aI_ 0]++a.code 1) q g false).At_<(s.length:Int)))=false:=by
     rw[fi_,e5_,decide_eq_false (by omega)];rfl
    rw[this,cond_false];have e2:aN_ (rp ([aI_ 0]++a.code 1) q g false) (Xz.mk 8 0 [] false 1 0)=some (rp (([aI_ 0]++a.code 1)++[aI_ 1]) q g false):=dc_ (by simp only[qLa,qLc,List.length_nil];omega);have e3:aN_ (rp (([aI_ 0]++a.code 1)++[aI_ 1]) q g false) (Xz.mk 9 0 [] false 0 0)=some (rp ((([aI_ 0]++a.code 1)++[aI_ 1])++[iOne 9]) q g false):=dc_ (by simp only[qLa,qLc,List.length_nil];omega);rw[e2];simp only[qBs];rw[e3];simp only[qBs,rp_L,rp_N];rw[ag_ (by omega)];simp only[List.append_assoc];rfl
def h4_(s:Str):Bool:=match aE_ s with|some v=>v.2.2==0|none=>false
theorem comp_eq(s:Str):∃v,aE_ s=some v/\bL_ s=some v/\(v.2.2==0)=h4_ s:=by
 rcases mh_ s with⟨_,h1,h2⟩|⟨_,r,_,h1,h2⟩
 .exact⟨_,h1,h2,by unfold h4_;rw[h1]⟩
 .exact⟨_,h1,h2,by unfold h4_;rw[h1]⟩
def bM_(o:Str):Bool:=((((o==[115,114,99])||(o==[100,115,116]))||(o==[119,100,105,114]))||(o==[116,121,112,101]))||(o==[100,97,116,97])
def cX_(o:Str):Bool:=o==[97,116,116,114]
def bx_(o:Str):Bool:=o==[112,108,117,109,98]
def gL_(v:Str):Bool:=v==[109,97,116,99,104,101,115]
def hR_(f a p:Bool)(v:Str):Bool:=bif f then(v==[105,115]||(v==[105,115,110]||(gL_ v||v==[115,101,116])))else bif a then(v==[105,115]||(v==[105,115,110]||(v==[97,100,100]||v==[100,101,108,101,116,101])))else bif p then v==[116,111]else false
def cb_(p:Xp):Bool:=hR_ (bM_ p.Xy) (cX_ p.Xy) (bx_ p.Xy) p.Xg&&(!(p.Xl==[])&&(decide (p.Xl.length<=1024)&&(!(p.Xl.contains 10)&&(!(gL_ p.Xg)||h4_ p.Xl))))
theorem h5_(o:Str):(bM_ o=true->cX_ o=false)/\(bM_ o=true->bx_ o=false)/\(cX_ o=true->bx_ o=false):=by
 refine⟨λh => ?_,λh => ?_,λh => ?_⟩
 .unfold bM_ at h;simp only[Bool.or_eq_true,beq_iff_eq]at h;rcases h with(((h|h)|h)|h)|h<;>subst h<;>rfl
 .unfold bM_ at h;simp only[Bool.or_eq_true,beq_iff_eq]at h;rcases h with(((h|h)|h)|h)|h<;>subst h<;>rfl
 .unfold cX_ at h;rw[beq_iff_eq]at h;subst h;rfl
theorem verb_ref (f a p c:Bool) (h1:f=true->a=false) (h2:f=true->p=false) (h3:a=true->p=false) (v:Str) :
  (bif(bif v==[105,115]then v==[105,115]else v==[105,115,110])then(f||a)else bif v==[115,101,116]then f else bif v==[109,97,116,99,104,101,115]then(f&&c)else bif(bif v==[97,100,100]then v==[97,100,100]else v==[100,101,108,101,116,101])then a else bif v==[116,111]then p else false)=(hR_ f a p v&&(!(gL_ v)||c)):=by
 by_cases e1:v=[105,115]
 .subst e1;cases f<;>cases a<;>cases p<;>cases c<;>first|rfl|exact absurd (h1 rfl) (by decide)|exact absurd (h2 rfl) (by decide)|exact absurd (h3 rfl) (by decide)
 .by_cases e2:v=[105,115,110]
  .subst e2;cases f<;>cases a<;>cases p<;>cases c<;>first|rfl|exact absurd (h1 rfl) (by decide)|exact absurd (h2 rfl) (by decide)|exact absurd (h3 rfl) (by decide)
  .by_cases e3:v=[115,101,116]
   .subst e3;cases f<;>cases a<;>cases p<;>cases c<;>first|rfl|exact absurd (h1 rfl) (by decide)|exact absurd (h2 rfl) (by decide)|exact absurd (h3 rfl) (by decide)
   .by_cases e4:v=[109,97,116,99,104,101,115]
    .subst e4;cases f<;>cases a<;>cases p<;>cases c<;>first|rfl|exact absurd (h1 rfl) (by decide)|exact absurd (h2 rfl) (by decide)|exact absurd (h3 rfl) (by decide)
    .by_cases e5:v=[97,100,100]
     .subst e5;cases f<;>cases a<;>cases p<;>cases c<;>first|rfl|exact absurd (h1 rfl) (by decide)|exact absurd (h2 rfl) (by decide)|exact absurd (h3 rfl) (by decide)
     .by_cases e6:v=[100,101,108,101,116,101]
      .subst e6;cases f<;>cases a<;>cases p<;>cases c<;>first|rfl|exact absurd (h1 rfl) (by decide)|exact absurd (h2 rfl) (by decide)|exact absurd (h3 rfl) (by decide)
      .by_cases e7:v=[116,111]
       .subst e7;cases f<;>cases a<;>cases p<;>cases c<;>first|rfl|exact absurd (h1 rfl) (by decide)|exact absurd (h2 rfl) (by decide)|exact absurd (h3 rfl) (by decide)
       .unfold hR_ gL_;rw[beq_eq_false_iff_ne.2 e1,beq_eq_false_iff_ne.2 e2,beq_eq_false_iff_ne.2 e3,beq_eq_false_iff_ne.2 e4,beq_eq_false_iff_ne.2 e5,beq_eq_false_iff_ne.2 e6,beq_eq_false_iff_ne.2 e7];cases f<;>cases a<;>cases p<;>rfl
theorem hc_{l:List Str}{x:Str}(hl:l.length<=1000):aA_ l x=some (l.contains x):=by
 unfold aA_ dl_;have h:=bp_ (body:=b1_ l x) l (λi y=>if(x==y)=true then some ((i:Nat):Int)else none) (aS_ (by omega)) (λi hi=>by
  unfold b1_;rw[aR_ hi,cond_true,aC_ hi];simp only[qBs];cases x==l[i]with
  | true=>rfl
  | false =>
   simp only[cond_false,Bool.false_eq_true,if_false,ec_];rw[ag_ (by omega)]) (by
  unfold b1_;rw[bj_];rfl)
 refine as_ ((bX_ (x:=(-1:Int)) h (λr=>rfl) rfl).trans (congrArg some (at_getD (λy=>x==y) l))) ?_;rw[at_any]
 congr 1
 induction l with
 | nil=>rfl
 | cons y l ih =>
  rw[List.any_cons,List.contains_cons]
  congr 1
  clear h ih hl
  induction l with
  | nil=>rfl
  | cons y l ih=>rw[List.any_cons,List.contains_cons,ih]
theorem verbs_eq(o v:Str):((cp_ o).bind λy=>(aA_ y v).bind λz=>some z)=some (hR_ (bM_ o) (cX_ o) (bx_ o) v):=by
 have e:cp_ o=some (bif bM_ o then[[105,115],[105,115,110],[109,97,116,99,104,101,115],[115,101,116]]else bif cX_ o then[[105,115],[105,115,110],[97,100,100],[100,101,108,101,116,101]]else bif bx_ o then[[116,111]]else[]):=by
  unfold cp_ bM_ cX_ bx_;cases o==[115,114,99]<;>cases o==[100,115,116]<;>cases o==[119,100,105,114]<;>cases o==[116,121,112,101]<;>cases o==[100,97,116,97]<;>cases o==[97,116,116,114]<;>cases o==[112,108,117,109,98]<;>rfl
 rw[e];unfold hR_ gL_;simp only[qBs];cases bM_ o with
 | true =>
  simp only[cond_true];rw[hc_ (by simp)];simp only[qBs,List.contains_cons,List.contains_nil,Bool.or_false]
 | false =>
  simp only[cond_false];cases cX_ o with
  | true =>
   simp only[cond_true];rw[hc_ (by simp)];simp only[qBs,List.contains_cons,List.contains_nil,Bool.or_false]
  | false =>
   simp only[cond_false];cases bx_ o with
   | true =>
    simp only[cond_true];rw[hc_ (by simp)];simp only[qBs,List.contains_cons,List.contains_nil,Bool.or_false]
   | false =>
    simp only[cond_false];rw[hc_ (by simp)];rfl
theorem bind_eta{α β γ:Type}{A:Option α}{B:α->Option β}{f:β->Option γ}{r:β}(h:(A.bind λy=>(B y).bind λz=>some z)=some r):(A.bind λy=>(B y).bind f)=f r:=by
 cases A with
 | none=>cases h
 | some a =>
  simp only[qBs]at h ⊢;cases hB:B a with
  | none=>rw[hB]at h;cases h
  | some b =>
   rw[hB]at h;simp only[qBs]at h ⊢;rw[qSj h]
theorem sound_eq(p:Xp):d6_ p=some (cb_ p):=by
 unfold d6_ cb_;rw[jg_,jg_];rw[bind_eta (verbs_eq p.Xy p.Xg)];cases hR_ (bM_ p.Xy) (cX_ p.Xy) (bx_ p.Xy) p.Xg with
 | false=>rfl
 | true =>
  simp only[Bool.not_true,cond_false,Bool.true_and];cases h1:p.Xl==[]with
  | true=>rfl
  | false =>
   simp only[cond_false,Bool.not_false,Bool.true_and];by_cases h2:p.Xl.length<=1024
   .rw[decide_eq_false (by omega),cond_false,jQ_,decide_eq_true h2,Bool.true_and];simp only[qBs];cases p.Xl.contains 10 with
    | true=>rfl
    | false =>
     unfold gL_;simp only[cond_false,Bool.not_false,Bool.true_and];cases p.Xg==[109,97,116,99,104,101,115]with
     | false=>rfl
     | true =>
      obtain⟨v,hv,_,hc⟩:=comp_eq p.Xl;rw[hv];simp only[Bool.not_true,cond_false,qBs,Bool.false_or];rw[hc]
   .rw[decide_eq_true (by omega),decide_eq_false h2];rfl
theorem pattern_eq(p:Xp):gc_ p=some (cb_ p):=by
 obtain⟨h1,h2,h3⟩:=h5_ p.Xy;obtain⟨v,_,hv,hc⟩:=comp_eq p.Xl;have hf:fT_ p.Xy=some (bM_ p.Xy):=rfl;have hvr:=verb_ref (bM_ p.Xy) (cX_ p.Xy) (bx_ p.Xy) (h4_ p.Xl) h1 h2 h3 p.Xg;unfold gc_ cb_;cases e1:p.Xl==[]with
 | true=>simp only[cond_true,qBs,Bool.not_true,Bool.false_and,Bool.and_false]
 | false =>
  simp only[cond_false];rw[op_];simp only[qBs];by_cases e2:p.Xl.length<=1024
  .cases e3:p.Xl.contains 10 with
   | true =>
    have:e4_ p.Xl=2:=by unfold e4_;rw[if_neg (by omega),if_pos e3]
    rw[this];simp
   | false =>
    have:e4_ p.Xl=0:=by unfold e4_;rw[if_neg (by omega),e3];rfl
    rw[this,show((0:Int) != 0)=false from rfl,cond_false,hv,hf,decide_eq_true e2];simp only[qBs,Bool.not_false,Bool.true_and];rw[hc,←hvr];unfold cX_ bx_;cases p.Xg==[105,115]<;>cases p.Xg==[105,115,110]<;>cases p.Xg==[115,101,116]<;>cases p.Xg==[109,97,116,99,104,101,115]<;>cases p.Xg==[97,100,100]<;>cases p.Xg==[100,101,108,101,116,101]<;>cases p.Xg==[116,111]<;>rfl
  .have:e4_ p.Xl=4:=by unfold e4_;rw[if_pos (by omega)]
   rw[this,decide_eq_false e2];simp
theorem sound_lens{p:Xp}(h:cb_ p=true):p.Xy.length<=5/\p.Xg.length<=7/\p.Xl.length<=1024/\p.Xl≠[]/\p.Xl.contains 10=false/\p.Xy≠[]/\p.Xg≠[]/\(∀b∈p.Xy,97<=b.toNat)/\(∀b∈p.Xg,97<=b.toNat):=by
 unfold cb_ at h;simp only[qAn,Bool.not_eq_true',qDe]at h;obtain⟨h1,h2,h3,h4,_⟩:=h;have hv:p.Xg=[105,115]\/p.Xg=[105,115,110]\/p.Xg=[109,97,116,99,104,101,115]\/p.Xg=[115,101,116]\/p.Xg=[97,100,100]\/p.Xg=[100,101,108,101,116,101]\/p.Xg=[116,111]:=by
  unfold hR_ gL_ at h1;cases hf:bM_ p.Xy with
  | true =>
   rw[hf]at h1;simp only[cond_true,Bool.or_eq_true,beq_iff_eq]at h1;rcases h1 with h|h|h|h<;>simp[h]
  | false =>
   cases ha:cX_ p.Xy with
   | true =>
    rw[hf,ha]at h1;simp only[cond_true,cond_false,Bool.or_eq_true,beq_iff_eq]at h1;rcases h1 with h|h|h|h<;>simp[h]
   | false =>
    cases hp:bx_ p.Xy with
    | true =>
     rw[hf,ha,hp]at h1;simp only[cond_true,cond_false,beq_iff_eq]at h1;simp[h1]
    | false=>rw[hf,ha,hp]at h1;cases h1
 have ho:p.Xy=[115,114,99]\/p.Xy=[100,115,116]\/p.Xy=[119,100,105,114]\/p.Xy=[116,121,112,101]\/p.Xy=[100,97,116,97]\/p.Xy=[97,116,116,114]\/p.Xy=[112,108,117,109,98]:=by
  cases hf:bM_ p.Xy with
  | true =>
   unfold bM_ at hf;simp only[Bool.or_eq_true,beq_iff_eq]at hf;rcases hf with(((h|h)|h)|h)|h<;>simp[h]
  | false =>
   cases ha:cX_ p.Xy with
   | true=>unfold cX_ at ha;rw[beq_iff_eq]at ha;simp[ha]
   | false =>
    cases hp:bx_ p.Xy with
    | true=>unfold bx_ at hp;rw[beq_iff_eq]at hp;simp[hp]
    | false=>rw[hf,ha,hp]at h1;cases h1
 have h2:p.Xl≠[]:=by simpa using h2
 refine⟨?_,?_,h3,h2,h4,?_,?_,?_,?_⟩
 .rcases ho with h|h|h|h|h|h|h<;>rw[h]<;>decide
 .rcases hv with h|h|h|h|h|h|h<;>rw[h]<;>decide
 .rcases ho with h|h|h|h|h|h|h<;>rw[h]<;>decide
 .rcases hv with h|h|h|h|h|h|h<;>rw[h]<;>decide
 .rcases ho with h|h|h|h|h|h|h<;>rw[h]<;>decide
 .rcases hv with h|h|h|h|h|h|h<;>rw[h]<;>decide
def gVal(n:Nat)(i:Nat)(p:Xp):Option Bool:=if(!(cb_ p) || !((bx_ p.Xy)==((i:Int)==(n:Int)-1)))=true then some false else none
def h6_(r:Xw):Bool:=decide (1<=r.Xh.length)&&(decide (r.Xh.length<=32)&&(bh_ (gVal r.Xh.length) 0 r.Xh).getD true)
theorem valid_eq(r:Xw):eN_ r=some (h6_ r):=by
 unfold eN_ h6_;by_cases h1:1<=r.Xh.length
 .by_cases h2:r.Xh.length<=32
  .rw[decide_eq_false (by omega),decide_eq_false (by omega),decide_eq_true h1,decide_eq_true h2,Bool.true_and,Bool.true_and,Bool.or_false,cond_false];refine bX_ (bp_ r.Xh (gVal r.Xh.length) (aS_ (by omega)) (λi hi => ?_) ?_) (λr=>rfl) rfl
   .unfold ej_ gVal;rw[aR_ hi,cond_true,aC_ hi];simp only[qBs];rw[sound_eq];simp only[qBs];rw[bE_ (n:=(r.Xh.length:Int)-1) ⟨by omega,by omega⟩,ag_ (by omega)];show(bif(!(cb_ r.Xh[i]) || !((bx_ (r.Xh[i]).Xy)==((i:Int)==(r.Xh.length:Int)-1)))then some (Step.done (Out.ret false))else some (Step.next ((i+1:Nat):Int)))=_;cases(!(cb_ r.Xh[i]) || !((bx_ (r.Xh[i]).Xy)==((i:Int)==(r.Xh.length:Int)-1)))<;>rfl
   .unfold ej_;rw[bj_];rfl
  .rw[decide_eq_true (by omega:(r.Xh.length:Int)>32),decide_eq_false h2,Bool.or_true,cond_true,Bool.false_and,Bool.and_false]
 .rw[decide_eq_true (by omega:(r.Xh.length:Int)<1),decide_eq_false h1];rfl
theorem refValid_eq(r:Xw):hN_ r=some (h6_ r):=by
 unfold hN_ h6_;by_cases h1:1<=r.Xh.length
 .by_cases h2:r.Xh.length<=32
  .rw[decide_eq_false (by omega),decide_eq_false (by omega),decide_eq_true h1,decide_eq_true h2,Bool.true_and,Bool.true_and,Bool.or_false,cond_false];refine bX_ (bp_ r.Xh (gVal r.Xh.length) (aS_ (by omega)) (λi hi => ?_) ?_) (λr=>rfl) rfl
   .unfold hv_ gVal;rw[aR_ hi,cond_true,aC_ hi];simp only[qBs];rw[pattern_eq];simp only[qBs];rw[bE_ (n:=(r.Xh.length:Int)-1) ⟨by omega,by omega⟩,ag_ (by omega)];have e:(bif !(cb_ r.Xh[i])then some true else some (!(((r.Xh[i]).Xy==[112,108,117,109,98])==((i:Int)==(r.Xh.length:Int)-1))))=some (!(cb_ r.Xh[i]) || !((bx_ (r.Xh[i]).Xy)==((i:Int)==(r.Xh.length:Int)-1))):=by
     cases cb_ r.Xh[i]<;>rfl
    rw[e];simp only[qBs];cases(!(cb_ r.Xh[i]) || !((bx_ (r.Xh[i]).Xy)==((i:Int)==(r.Xh.length:Int)-1)))<;>rfl
   .unfold hv_;rw[bj_];rfl
  .rw[decide_eq_true (by omega:(r.Xh.length:Int)>32),decide_eq_false h2,Bool.or_true,cond_true,Bool.false_and,Bool.and_false]
 .rw[decide_eq_true (by omega:(r.Xh.length:Int)<1),decide_eq_false h1];rfl
theorem mi_(r:Xw):h6_ r=true↔1<=r.Xh.length/\r.Xh.length<=32/\∀i p,r.Xh[i]? = some p->cb_ p=true/\bx_ p.Xy=decide (i+1=r.Xh.length):=by
 have hg:∀i p,gVal r.Xh.length i p=none↔cb_ p=true/\bx_ p.Xy=decide (i+1=r.Xh.length):=by
  intro i p;unfold gVal;have e:((i:Int)==(r.Xh.length:Int)-1)=decide (i+1=r.Xh.length):=by
   by_cases h:i+1=r.Xh.length
   .rw[decide_eq_true h,beq_iff_eq];omega
   .rw[decide_eq_false h,beq_eq_false_iff_ne];omega
  rw[e];cases cb_ p<;>cases bx_ p.Xy<;>cases decide (i+1=r.Xh.length)<;>simp
 unfold h6_;rw[qAn,qAn,qDe,qDe];refine and_congr_right λ_=>and_congr_right λ_ => ?_
 constructor
 .intro h i p hp;cases hs:bh_ (gVal r.Xh.length) 0 r.Xh with
  | none =>
   have:=scan_none.1 hs i p hp;rw[Nat.zero_add]at this;exact(hg i p).1 this
  | some b =>
   rw[hs]at h;obtain⟨j,q,_,h2,_⟩:=h1_ hs;unfold gVal at h2;split at h2
   .rw[←qSj h2]at h;cases h
   .cases h2
 .intro h;have:bh_ (gVal r.Xh.length) 0 r.Xh=none:=scan_none.2 λi p hp=>by
   rw[Nat.zero_add];exact(hg i p).2 (h i p hp)
  rw[this];rfl
structure RulesL(l:List Xw):Prop where
 n:l.length<=9223372036854775807
 ls:∀r∈l,r.Xh.length<=9223372036854775807
theorem sameRules_refl{l:List Xw}(h:RulesL l):ju_ l l=some true:=by
 unfold ju_;rw[bne_self_eq_false,cond_false];have hL:ae_ (dW_ l l) BIG 0=some (.fall ()):=by
  refine ff_ (T:=λi=>(i:Int)) l.length (aS_ h.n) (λi hi => ?_) ?_
  .unfold dW_;rw[aR_ hi,cond_true,aC_ hi];simp only[qBs];rw[bne_self_eq_false,cond_false];have hr:=h.ls _ (List.getElem_mem hi);have hin:ae_ (dV_ l (i:Int) l) BIG 0=some (.fall ()):=by
    refine ff_ (T:=λi=>(i:Int)) (l[i]).Xh.length (aS_ hr) (λk hk => ?_) ?_
    .unfold dV_;rw[aC_ hi];simp only[qBs];rw[aR_ hk,cond_true,aC_ hk];simp only[qBs];rw[ag_ (by omega)];rfl
    .unfold dV_;rw[aC_ hi];simp only[qBs];rw[bj_];rfl
   rw[hin];simp only[qBs];rw[ag_ (by have:=h.n;omega)]
  .unfold dW_;rw[bj_];rfl
 rw[hL];rfl
def gFew(_:Nat)(p:Xp):Option Bool:=if(decide ((w64 ((p.Xy.length:Int)+(p.Xg.length:Int)))>100)||decide ((p.Xl.length:Int)>1100))=true then some false else none
theorem few_in{l:List Xw}(h:RulesL l){i:Nat}(hi:i<l.length){s:Int}:ae_ (g4_ l[i] l (s,(i:Int))) BIG 0=some (outO (bh_ gFew 0 (l[i]).Xh)):=by
 have hr:=h.ls _ (List.getElem_mem hi);refine bp_ (l[i]).Xh gFew (aS_ hr) (λk hk => ?_) ?_
 .unfold g4_ gFew;rw[aR_ hk,cond_true];simp only[];rw[aC_ hi];simp only[qBs];rw[aC_ hk];simp only[qBs];cases(decide ((w64 (((l[i]).Xh[k].Xy.length:Int)+((l[i]).Xh[k].Xg.length:Int)))>100)||decide (((l[i]).Xh[k].Xl.length:Int)>1100))with
  | true=>rfl
  | false =>
   simp only[cond_false,Bool.false_eq_true,if_false,ec_];rw[ag_ (by omega)]
 .unfold g4_;rw[bj_];rfl
theorem few_go{l:List Xw}(h:RulesL l):∀(k i:Nat) (s:Int) (f:Nat),l.length-i<=k->k<f->i<=l.length->∃o,ae_ (dB_ l) f (s,(i:Int))=some o:=by
 intro k
 induction k with
 | zero =>
  intro i s f hk hf hi;obtain⟨f,rfl⟩:∃g,f=g+1:=⟨f-1,by omega⟩;have:i=l.length:=by omega
  subst this;refine⟨.fall (),ai_ ?_⟩;unfold dB_;simp only[];rw[bj_];rfl
 | succ k ih =>
  intro i s f hk hf hi;obtain⟨f,rfl⟩:∃g,f=g+1:=⟨f-1,by omega⟩;rcases Nat.lt_or_ge i l.length with hlt|hge
  .have hn:=h.n;have hst:∃o:Option Bool,dB_ l (s,(i:Int))=some (match o with
    | some b => .done (.ret b)
    | none => .next ((w64 (s+(minI ((l[i]).Xh.length:Int) 1000))),((i+1:Nat):Int))):=by
    unfold dB_;simp only[];rw[aR_ hlt,cond_true,aC_ hlt];simp only[qBs];cases decide (w64 (s+(minI ((l[i]).Xh.length:Int) 1000))>100)with
    | true=>exact⟨some false,rfl⟩
    | false =>
     simp only[cond_false];rw[few_in h hlt,ag_ (by omega)];cases bh_ gFew 0 (l[i]).Xh with
     | none=>exact⟨none,rfl⟩
     | some b=>exact⟨some b,rfl⟩
   obtain⟨o,ho⟩:=hst;cases o with
   | some b=>exact⟨_,ai_ ho⟩
   | none =>
    obtain⟨o2,ho2⟩:=ih (i+1) (w64 (s+(minI ((l[i]).Xh.length:Int) 1000))) f (by omega) (by omega) (by omega);exact⟨o2,ap_ ho ho2⟩
  .have:i=l.length:=by omega
   subst this;refine⟨.fall (),ai_ ?_⟩;unfold dB_;simp only[];rw[bj_];rfl
theorem few_eq{l:List Xw}(h:RulesL l):∃b,js_ l=some b/\(b=true->l.length<=70):=by
 unfold js_;by_cases h70:l.length<=70
 .obtain⟨o,ho⟩:=few_go h l.length 0 0 BIG (by omega) (aS_ h.n) (Nat.zero_le _);have ho:ae_ (dB_ l) BIG (0,0)=some o:=ho;rw[decide_eq_false (by omega),cond_false,ho];cases o with
  | ret b=>exact⟨b,rfl,λ_=>h70⟩
  | fall u=>exact⟨true,rfl,λ_=>h70⟩
 .rw[decide_eq_true (by omega),cond_true];exact⟨false,rfl,λe=>by cases e⟩
def Re.labs:Re->List Nat->List (List Nat) | .emp,_=>[] | .chr _,O=>[O] | .any,O=>[O] | .bol,O=>[O] | .eol,O=>[O] | .set _ _,O=>[O] | .seq a b,O=>a.labs O++b.labs O | .alt a b,O=>O::(a.labs O++O::b.labs O) | .grp k a,O=>O::(a.labs (k::O)++[k::O]) | .star a,O=>O::(a.labs O++[O]) | .plus a,O=>a.labs O++[O] | .opt a,O=>O::a.labs O
theorem bY_:∀(a:Re) (O:List Nat),(a.labs O).length=a.len
 | .emp,_=>rfl
 | .chr _,_=>rfl
 | .any,_=>rfl
 | .bol,_=>rfl
 | .eol,_=>rfl
 | .set _ _,_=>rfl
 | .seq a b,O=>by simp only[Re.labs,Re.len,qLa,bY_ a,bY_ b]
 | .alt a b,O=>by simp only[Re.labs,Re.len,qLa,qLc,bY_ a,bY_ b];omega
 | .grp k a,O=>by simp only[Re.labs,Re.len,qLa,qLc,List.length_nil,bY_ a]
 | .star a,O=>by simp only[Re.labs,Re.len,qLa,qLc,List.length_nil,bY_ a]
 | .plus a,O=>by simp only[Re.labs,Re.len,qLa,qLc,List.length_nil,bY_ a]
 | .opt a,O=>by simp only[Re.labs,Re.len,qLc,bY_ a]
inductive Edge(Lb:Nat->Option (List Nat))(G i:Nat)(O:List Nat):Xz->Prop
 | chr (b:UInt8) (h:Lb (i+1)=some O):Edge Lb G i O (iC b)
 | any (h:Lb (i+1)=some O):Edge Lb G i O (iOne 2)
 | set (x:Str) (n:Bool) (h:Lb (i+1)=some O):Edge Lb G i O (setI x n)
 | bol (h:Lb (i+1)=some O):Edge Lb G i O (iOne 4)
 | eol (h:Lb (i+1)=some O):Edge Lb G i O (iOne 5)
 | split(x y:Nat) (h1:Lb x=some O) (h2:Lb y=some O):Edge Lb G i O (br_ x y)
 | jump (x:Nat) (h1:Lb x=some O):Edge Lb G i O (cn_ x)
 | begin_ (m:Nat) (hm:m<G) (h1:Lb (i+1)=some (m::O)):Edge Lb G i O (aI_ (2*m))
 | end_ (m:Nat) (hm:m<G) (P:List Nat) (h0:O=m::P) (h1:Lb (i+1)=some P):Edge Lb G i O (aI_ (2*m+1))
 | done (h0:O=[]):Edge Lb G i O (iOne 9)
def LabsAt(Lb:Nat->Option (List Nat))(n:Nat)(l:List (List Nat)):Prop:=∀j,j<l.length->Lb (n+j)=l[j]?
theorem LabsAt.left{Lb:Nat->Option (List Nat)}{n:Nat}{a b:List (List Nat)}(h:LabsAt Lb n (a++b)):LabsAt Lb n a:=λj hj=>by
 rw[h j (by rw[qLa];omega),List.getElem?_append_left hj]
theorem LabsAt.right{Lb:Nat->Option (List Nat)}{n:Nat}{a b:List (List Nat)}(h:LabsAt Lb n (a++b)):LabsAt Lb (n+a.length) b:=λj hj=>by
 rw[Nat.add_assoc,h (a.length+j) (by rw[qLa];omega),List.getElem?_append_right (by omega)]
 congr 1
 omega
theorem LabsAt.head{Lb:Nat->Option (List Nat)}{n:Nat}{O:List Nat}{b:List (List Nat)}(h:LabsAt Lb n (O::b)):Lb n=some O:=h 0 (Nat.succ_pos _)
theorem LabsAt.tail{Lb:Nat->Option (List Nat)}{n:Nat}{O:List Nat}{b:List (List Nat)}(h:LabsAt Lb n (O::b)):LabsAt Lb (n+1) b:=λj hj=>by
 rw[show n+1+j=n+(j+1)by omega,h (j+1) (by rw[qLc];omega)];rfl
theorem cy_:∀(a:Re) {Lb:Nat->Option (List Nat)} {n:Nat} {O:List Nat},LabsAt Lb n (a.labs O)->Lb (n+a.len)=some O->Lb n=some O
 | .emp,_,_,_,_,h=>h
 | .chr _,_,_,_,h,_=>h.head
 | .any,_,_,_,h,_=>h.head
 | .bol,_,_,_,h,_=>h.head
 | .eol,_,_,_,h,_=>h.head
 | .set _ _,_,_,_,h,_=>h.head
 | .seq a b,Lb,n,O,h,he=>by
  have hr:=LabsAt.right h;rw[bY_]at hr;refine cy_ a (LabsAt.left h) (cy_ b hr ?_);rw[Nat.add_assoc];exact he
 | .alt _ _,_,_,_,h,_=>h.head
 | .grp _ _,_,_,_,h,_=>h.head
 | .star _,_,_,_,h,_=>h.head
 | .plus a,Lb,n,O,h,he=>by
  have hr:=LabsAt.right h;rw[bY_]at hr;exact cy_ a (LabsAt.left h) hr.head
 | .opt _,_,_,_,h,_=>h.head
def EdgesAt(Lb:Nat->Option (List Nat))(G n:Nat)(l:List Xz):Prop:=∀j x,l[j]? = some x->∃O,Lb (n+j)=some O/\Edge Lb G (n+j) O x
theorem EdgesAt.nil{Lb:Nat->Option (List Nat)}{G n:Nat}:EdgesAt Lb G n []:=λj x h=>by cases h
theorem EdgesAt.cons{Lb:Nat->Option (List Nat)}{G n:Nat}{x:Xz}{l:List Xz}{O:List Nat}(h0:Lb n=some O)(hx:Edge Lb G n O x)(h:EdgesAt Lb G (n+1) l):EdgesAt Lb G n (x::l):=λj y hy=>by
 cases j with
 | zero =>
  obtain rfl:=qSj hy;exact⟨O,h0,hx⟩
 | succ j =>
  have:=h j y hy;rw[show n+1+j=n+(j+1)by omega]at this;exact this
theorem EdgesAt.app{Lb:Nat->Option (List Nat)}{G n:Nat}{a b:List Xz}(h1:EdgesAt Lb G n a)(h2:EdgesAt Lb G (n+a.length) b):EdgesAt Lb G n (a++b):=λj y hy=>by
 rcases Nat.lt_or_ge j a.length with h|h
 .rw[List.getElem?_append_left h]at hy;exact h1 j y hy
 .rw[List.getElem?_append_right h]at hy;have:=h2 (j-a.length) y hy;rw[show n+a.length+(j-a.length)=n+j by omega]at this;exact this
theorem do_:∀(a:Re) {Lb:Nat->Option (List Nat)} {G n:Nat} {O:List Nat},a.grps (G-1)->0<G->LabsAt Lb n (a.labs O)->Lb (n+a.len)=some O->EdgesAt Lb G n (a.code n)
 | .emp,_,_,_,_,_,_,_,_=>EdgesAt.nil
 | .chr b,_,_,_,_,_,_,h,he=>EdgesAt.cons h.head (.chr b he) EdgesAt.nil
 | .any,_,_,_,_,_,_,h,he=>EdgesAt.cons h.head (.any he) EdgesAt.nil
 | .bol,_,_,_,_,_,_,h,he=>EdgesAt.cons h.head (.bol he) EdgesAt.nil
 | .eol,_,_,_,_,_,_,h,he=>EdgesAt.cons h.head (.eol he) EdgesAt.nil
 | .set x k,_,_,_,_,_,_,h,he=>EdgesAt.cons h.head (.set x k he) EdgesAt.nil
 | .seq a b,Lb,G,n,O,hg,hG,h,he=>by
  have hr:=LabsAt.right h;rw[bY_]at hr;have he2:Lb (n+a.len+b.len)=some O:=by rw[Nat.add_assoc];exact he
  refine EdgesAt.app (do_ a hg.1 hG (LabsAt.left h) (cy_ b hr he2)) ?_;rw[aw_];exact do_ b hg.2 hG hr he2
 | .alt a b,Lb,G,n,O,hg,hG,h,he=>by
  have ht:=h.tail;have hr:=LabsAt.right ht;rw[bY_]at hr;have hrt:=hr.tail;have he2:Lb (n+1+a.len+1+b.len)=some O:=by rw[show n+1+a.len+1+b.len=n+(a.len+b.len+2)by omega];exact he
  have hs2:Lb (n+a.len+2)=some O:=by
   have:=cy_ b hrt he2;rw[show n+1+a.len+1=n+a.len+2 by omega]at this;exact this
  refine EdgesAt.cons h.head (.split _ _ (cy_ a (LabsAt.left ht) hr.head) hs2) (EdgesAt.app (do_ a hg.1 hG (LabsAt.left ht) hr.head) ?_);rw[aw_];refine EdgesAt.cons hr.head (.jump _ (by rw[show n+a.len+b.len+2=n+(a.len+b.len+2)by omega];exact he)) ?_;have:=do_ b hg.2 hG hrt he2;rw[show n+1+a.len+1=n+a.len+2 by omega]at this ⊢;exact this
 | .grp k a,Lb,G,n,O,hg,hG,h,he=>by
  have ht:=h.tail;have hr:=LabsAt.right ht;rw[bY_]at hr;have hk:=hg.1;refine EdgesAt.cons h.head (.begin_ k (by omega) (cy_ a (LabsAt.left ht) hr.head)) (EdgesAt.app (do_ a hg.2 hG (LabsAt.left ht) hr.head) ?_);rw[aw_];refine EdgesAt.cons hr.head (.end_ k (by omega) O rfl ?_) EdgesAt.nil;rw[show n+1+a.len+1=n+(a.len+2)by omega];exact he
 | .star a,Lb,G,n,O,hg,hG,h,he=>by
  have ht:=h.tail;have hr:=LabsAt.right ht;rw[bY_]at hr;refine EdgesAt.cons h.head (.split _ _ (cy_ a (LabsAt.left ht) hr.head) (by rw[show n+a.len+2=n+(a.len+2)by omega];exact he)) (EdgesAt.app (do_ a hg hG (LabsAt.left ht) hr.head) ?_);rw[aw_];exact EdgesAt.cons hr.head (.jump _ h.head) EdgesAt.nil
 | .plus a,Lb,G,n,O,hg,hG,h,he=>by
  have hr:=LabsAt.right h;rw[bY_]at hr;refine EdgesAt.app (do_ a hg hG (LabsAt.left h) hr.head) ?_;rw[aw_];exact EdgesAt.cons hr.head (.split _ _ (cy_ a (LabsAt.left h) hr.head) (by rw[show n+a.len+1=n+(a.len+1)by omega];exact he)) EdgesAt.nil
 | .opt a,Lb,G,n,O,hg,hG,h,he=>by
  have ht:=h.tail;have he2:Lb (n+1+a.len)=some O:=by rw[show n+1+a.len=n+(a.len+1)by omega];exact he
  exact EdgesAt.cons h.head (.split _ _ (cy_ a ht he2) (by rw[show n+a.len+1=n+(a.len+1)by omega];exact he)) (do_ a hg hG ht he2)
theorem du_:∀(a:Re) {m k:Nat},a.grps m->m<=k->a.grps k
 | .emp,_,_,_,_=>trivial
 | .chr _,_,_,_,_=>trivial
 | .any,_,_,_,_=>trivial
 | .bol,_,_,_,_=>trivial
 | .eol,_,_,_,_=>trivial
 | .set _ _,_,_,_,_=>trivial
 | .seq a b,_,_,h,hk=>⟨du_ a h.1 hk,du_ b h.2 hk⟩
 | .alt a b,_,_,h,hk=>⟨du_ a h.1 hk,du_ b h.2 hk⟩
 | .grp _ a,_,_,h,hk=>⟨Nat.le_trans h.1 hk,du_ a h.2 hk⟩
 | .star a,_,_,h,hk=>du_ a h hk
 | .plus a,_,_,h,hk=>du_ a h hk
 | .opt a,_,_,h,hk=>du_ a h hk
theorem RP.grps{s:Str}{k:PK}{d i g:Nat}{r:PX}(h:RP s k d i g r):i<=s.length->g<=9->∀a q g1,r = .ok a q g1->a.grps g1:=by
 induction h with
 | stop h=>intro _ _ a q g1 e;injection e with e _ _;subst e;trivial
 | @next d i g c a q g1 r h h1 h2 hp ht ih1 ih2 =>
  intro hi hg a' q' g' e;cases r with
  | err e'=>cases e
  | ok b q2 g2 =>
   injection e with e0 e1 e2;subst e0;subst e1;subst e2;have hgood:=hp.good hi hg;have hgood2:=ht.good hgood.2.1 hgood.2.2.2.2.1;exact⟨du_ a (ih1 hi hg _ _ _ rfl) hgood2.2.2.2.1,ih2 hgood.2.1 hgood.2.2.2.2.1 _ _ _ rfl⟩
 | @pcok d i g a q g1 h ih =>
  intro hi hg a' q' g' e;have:=ih hi hg _ _ _ rfl;unfold post at e;split at e
  .injection e with e0 e1 e2;subst e0;subst e2;exact this
  .split at e
   .injection e with e0 e1 e2;subst e0;subst e2;exact this
   .split at e
    .injection e with e0 e1 e2;subst e0;subst e2;exact this
    .injection e with e0 e1 e2;subst e0;subst e2;exact this
 | @grp d i g a q g1 h hg9 hr hc ih =>
  intro hi hg a' q' g' e;injection e with e0 e1 e2;subst e0;subst e2;have hlt:=az_ h;have hgood:=hr.good (by omega) (by omega);exact⟨hgood.2.2.2.1,ih (by omega) (by omega) _ _ _ rfl⟩
 | any h=>intro _ _ a q g1 e;injection e with e _ _;subst e;trivial
 | bol h=>intro _ _ a q g1 e;injection e with e _ _;subst e;trivial
 | eol h=>intro _ _ a q g1 e;injection e with e _ _;subst e;trivial
 | @cls d i g r h hc =>
  intro _ _ a q g1 e;cases r with
  | err e'=>cases e
  | ok x q'=>injection e with e _ _;subst e;trivial
 | @esc d i g h =>
  intro _ _ a q g1 e;cases he:escS s i with
  | err e'=>rw[he]at e;cases e
  | ok b q'=>rw[he]at e;injection e with e _ _;subst e;trivial
 | chr h hc=>intro _ _ a q g1 e;injection e with e _ _;subst e;trivial
 | rxone h hq ih=>exact ih
 | @rxalt d i g a q g1 b q2 g2 h hq ht ih1 ih2 =>
  intro hi hg a' q' g' e;injection e with e0 e1 e2;subst e0;subst e1;subst e2;have hlt:=az_ hq;have hgood:=h.good hi hg;have hgood2:=ht.good (by omega) hgood.2.2.2.2.1;exact⟨du_ a (ih1 hi hg _ _ _ rfl) hgood2.2.2.2.1,ih2 (by omega) hgood.2.2.2.2.1 _ _ _ rfl⟩
 | _=>intro _ _ a q g1 e;cases e
def Re.setB(m:Nat):Re->Prop | .seq a b=>a.setB m/\b.setB m | .alt a b=>a.setB m/\b.setB m | .grp _ a=>a.setB m | .star a=>a.setB m | .plus a=>a.setB m | .opt a=>a.setB m | .set x _=>x.length<=m|_=>True
theorem dX_:∀(a:Re) (n:Nat) {m:Nat},a.setB m->∀x∈a.code n,x.Xu.length<=m
 | .emp,_,_,_,x,h=>by cases h
 | .chr _,_,_,_,x,h=>by rw[List.mem_singleton.1 h];exact Nat.zero_le _
 | .any,_,_,_,x,h=>by rw[List.mem_singleton.1 h];exact Nat.zero_le _
 | .bol,_,_,_,x,h=>by rw[List.mem_singleton.1 h];exact Nat.zero_le _
 | .eol,_,_,_,x,h=>by rw[List.mem_singleton.1 h];exact Nat.zero_le _
 | .set y _,_,_,hm,x,h=>by rw[List.mem_singleton.1 h];exact hm
 | .seq a b,n,_,hm,x,h=>by
  rcases List.mem_append.1 h with h|h
  .exact dX_ a _ hm.1 x h
  .exact dX_ b _ hm.2 x h
 | .alt a b,n,_,hm,x,h=>by
  rcases List.mem_cons.1 h with rfl|h
  .exact Nat.zero_le _
  .rcases List.mem_append.1 h with h|h
   .exact dX_ a _ hm.1 x h
   .rcases List.mem_cons.1 h with rfl|h
    .exact Nat.zero_le _
    .exact dX_ b _ hm.2 x h
 | .grp k a,n,_,hm,x,h=>by
  rcases List.mem_cons.1 h with rfl|h
  .exact Nat.zero_le _
  .rcases List.mem_append.1 h with h|h
   .exact dX_ a _ hm x h
   .rw[List.mem_singleton.1 h];exact Nat.zero_le _
 | .star a,n,_,hm,x,h=>by
  rcases List.mem_cons.1 h with rfl|h
  .exact Nat.zero_le _
  .rcases List.mem_append.1 h with h|h
   .exact dX_ a _ hm x h
   .rw[List.mem_singleton.1 h];exact Nat.zero_le _
 | .plus a,n,_,hm,x,h=>by
  rcases List.mem_append.1 h with h|h
  .exact dX_ a _ hm x h
  .rw[List.mem_singleton.1 h];exact Nat.zero_le _
 | .opt a,n,_,hm,x,h=>by
  rcases List.mem_cons.1 h with rfl|h
  .exact Nat.zero_le _
  .exact dX_ a _ hm x h
theorem RP.sets{s:Str}{k:PK}{d i g:Nat}{r:PX}(h:RP s k d i g r):∀a q g1,r = .ok a q g1->a.setB (2*s.length):=by
 induction h with
 | stop h=>intro a q g1 e;injection e with e _ _;subst e;trivial
 | @next d i g c a q g1 r h h1 h2 hp ht ih1 ih2 =>
  intro a' q' g' e;cases r with
  | err e'=>cases e
  | ok b q2 g2 =>
   injection e with e0 e1 e2;subst e0;exact⟨ih1 _ _ _ rfl,ih2 _ _ _ rfl⟩
 | @pcok d i g a q g1 h ih =>
  intro a' q' g' e;have:=ih _ _ _ rfl;unfold post at e;split at e
  .injection e with e0 e1 e2;subst e0;exact this
  .split at e
   .injection e with e0 e1 e2;subst e0;exact this
   .split at e
    .injection e with e0 e1 e2;subst e0;exact this
    .injection e with e0 e1 e2;subst e0;exact this
 | @grp d i g a q g1 h hg9 hr hc ih =>
  intro a' q' g' e;injection e with e0 e1 e2;subst e0;have h2:=ih _ _ _ rfl;exact h2
 | any h=>intro a q g1 e;injection e with e _ _;subst e;trivial
 | bol h=>intro a q g1 e;injection e with e _ _;subst e;trivial
 | eol h=>intro a q g1 e;injection e with e _ _;subst e;trivial
 | @cls d i g r h hc =>
  intro a q g1 e;cases r with
  | err e'=>cases e
  | ok x q' =>
   injection e with e _ _;subst e;have:=(hc.len.2 x q' rfl).2.2;simp only[List.length_nil]at this;show x.length<=2*s.length;omega
 | @esc d i g h =>
  intro a q g1 e;cases he:escS s i with
  | err e'=>rw[he]at e;cases e
  | ok b q'=>rw[he]at e;injection e with e _ _;subst e;trivial
 | chr h hc=>intro a q g1 e;injection e with e _ _;subst e;trivial
 | rxone h hq ih=>exact ih
 | @rxalt d i g a q g1 b q2 g2 h hq ht ih1 ih2 =>
  intro a' q' g' e;injection e with e0 e1 e2;subst e0;exact⟨ih1 _ _ _ rfl,ih2 _ _ _ rfl⟩
 | _=>intro a q g1 e;cases e
structure ProgOK(L:List Xz)(G:Nat)(Lb:Nat->Option (List Nat)):Prop where
 n:0<L.length/\L.length<=1000
 g:0<G/\G<=10
 lb:∀i,(Lb i).isSome=true->i<L.length
 z:Lb 0=some []
 e:EdgesAt Lb G 0 L
 st:∀x∈L,x.Xu.length<=1000
theorem prog_ok{s:Str}{a:Re}{q g:Nat}(hs:s.length<=256)(h:RP s .rx 0 0 0 (.ok a q g)):∃Lb,ProgOK (prog a g).Yx (g+1) Lb/\(prog a g).Yj=((g+1:Nat):Int):=by
 have hgood:=h.good (Nat.zero_le _) (Nat.zero_le _);have hgr:=h.grps (Nat.zero_le _) (Nat.zero_le _) a q g rfl;have hlen:(prog a g).Yx.length=a.len+3:=by
  unfold prog;simp only[qLc,qLa,List.length_nil,aw_]
 have hall:LabsAt (λi=>([]::(a.labs [0]++[[0],[]]):List (List Nat))[i]?) 0 ([]::(a.labs [0]++[[0],[]])):=λj _=>by rw[Nat.zero_add]
 refine⟨λi=>([]::(a.labs [0]++[[0],[]]):List (List Nat))[i]?,⟨⟨by omega,by omega⟩,⟨by omega,by omega⟩,λi hi => ?_,rfl,?_,?_⟩,rfl⟩
 .rw[hlen];rcases Nat.lt_or_ge i (a.len+3)with h1|h1
  .exact h1
  .rw[List.getElem?_eq_none (by simp only[qLc,qLa,List.length_nil,bY_];omega)]at hi;cases hi
 .have ht:=hall.tail;have hr:=LabsAt.right ht;rw[bY_]at hr;have hrt:=hr.tail;refine EdgesAt.cons hall.head (.begin_ 0 (by omega) (cy_ a (LabsAt.left ht) hr.head)) (EdgesAt.app (do_ a (by rw[Nat.add_sub_cancel];exact hgr) (by omega) (LabsAt.left ht) hr.head) ?_);rw[aw_];exact EdgesAt.cons hr.head (.end_ 0 (by omega) [] rfl hrt.head) (EdgesAt.cons hrt.head (.done rfl) EdgesAt.nil)
 .intro x hx;rcases List.mem_cons.1 hx with rfl|hx
  .exact Nat.zero_le _
  .rcases List.mem_append.1 hx with hx|hx
   .have:=dX_ a 1 (h.sets a q g rfl) x hx;omega
   .rcases List.mem_cons.1 hx with rfl|hx
    .exact Nat.zero_le _
    .rw[List.mem_singleton.1 hx];exact Nat.zero_le _
structure CapsOK(G pos:Nat)(O:List Nat)(c:List Int):Prop where
 len:c.length=2*G
 up:∀k,k<G->∃u v,c[2*k]? = some u/\c[2*k+1]? = some v/\u<=(pos:Int)/\v<=(pos:Int)/\(k∈O->0<=u)/\(k∉O->u<0\/(0<=u/\u<=v))
theorem CapsOK.later{G pos pos':Nat}{O:List Nat}{c:List Int}(h:CapsOK G pos O c)(hp:pos<=pos'):CapsOK G pos' O c:=⟨h.len,λk hk=>by
 obtain⟨u,v,h1,h2,h3,h4,h5⟩:=h.up k hk;exact⟨u,v,h1,h2,by omega,by omega,h5⟩⟩
theorem CapsOK.begin_{G pos m:Nat}{O:List Nat}{c:List Int}(h:CapsOK G pos O c):CapsOK G pos (m::O) (c.set (2*m) (pos:Int)):=by
 refine⟨by rw[List.length_set];exact h.len,λk hk => ?_⟩;have hl:=h.len;obtain⟨u,v,h1,h2,h3,h4,h5,h6⟩:=h.up k hk;by_cases hm:k=m
 .subst hm;refine⟨(pos:Int),v,?_,?_,Int.le_refl _,h4,λ_=>by omega,λhn=>absurd List.mem_cons_self hn⟩
  .rw[List.getElem?_set_self (by omega)]
  .rw[List.getElem?_set_ne (by omega)];exact h2
 .refine⟨u,v,?_,?_,h3,h4,λhk => ?_,λhn=>h6 λhk=>hn (List.mem_cons_of_mem _ hk)⟩
  .rw[List.getElem?_set_ne (by omega)];exact h1
  .rw[List.getElem?_set_ne (by omega)];exact h2
  .rcases List.mem_cons.1 hk with hk|hk
   .exact absurd hk hm
   .exact h5 hk
theorem CapsOK.end_{G pos m:Nat}{O:List Nat}{c:List Int}(h:CapsOK G pos (m::O) c):CapsOK G pos O (c.set (2*m+1) (pos:Int)):=by
 refine⟨by rw[List.length_set];exact h.len,λk hk => ?_⟩;have hl:=h.len;obtain⟨u,v,h1,h2,h3,h4,h5,h6⟩:=h.up k hk;by_cases hm:k=m
 .subst hm;have h0:=h5 List.mem_cons_self;refine⟨u,(pos:Int),?_,?_,h3,Int.le_refl _,λ_=>h0,λ_ => .inr ⟨h0,h3⟩⟩
  .rw[List.getElem?_set_ne (by omega)];exact h1
  .rw[List.getElem?_set_self (by omega)]
 .refine⟨u,v,?_,?_,h3,h4,λhk=>h5 (List.mem_cons_of_mem _ hk),λhn=>h6 λhk => ?_⟩
  .rw[List.getElem?_set_ne (by omega)];exact h1
  .rw[List.getElem?_set_ne (by omega)];exact h2
  .rcases List.mem_cons.1 hk with hk|hk
   .exact absurd hk hm
   .exact absurd hk hn
abbrev Th:=Nat×List Int
def pT(t:Th):regex_thread:=regex_thread.mk (t.1:Int) t.2
def rT(t:Th):Xe:=Xe.mk (t.1:Int) t.2
def bI(b:Bool):Int:=bif b then 1 else 0
def pm(r:Xk)(s:Str)(pos:Nat)(seen:List Bool)(T:List Th):regex_machine:=regex_machine.mk r s (pos:Int) (seen.map bI) (T.map pT)
def rm(seen:List Bool)(T:List Th):Xb:=Xb.mk (T.map rT) seen
def ThOK(Lb:Nat->Option (List Nat))(G pos:Nat)(t:Th):Prop:=∃O,Lb t.1=some O/\CapsOK G pos O t.2
theorem bI_set{seen:List Bool}{i:Nat}:(seen.map bI).set i 1=(seen.set i true).map bI:=by
 rw[List.map_set];rfl
theorem count_set{seen:List Bool}{i:Nat}(h:seen[i]? = some false):(seen.set i true).count false+1=seen.count false:=by
 induction seen generalizing i with
 | nil=>cases h
 | cons b l ih =>
  cases i with
  | zero =>
   obtain rfl:=qSj h;simp
  | succ i =>
   have:=ih (i:=i) h;rw[List.set_cons_succ,List.count_cons,List.count_cons];omega
def padd (n:Nat) (m:regex_machine) (at_:Int) (x:Xz) (c:List Int):Option regex_machine :=
 (bif(x.Op_==7)then
  (al_ n m x.X_ c).bind λy5=>some y5
 else
  (bif(x.Op_==6)then
   (al_ n m x.X_ c).bind λy6 =>
   (al_ n y6 x.Y_ c).bind λy7 =>
   some y7
  else
   (bif(x.Op_==8)then
    (aU_ c).bind λy8 =>
    (ah_ y8 x.X_).bind λ_ =>
    (al_ n m (w64 (at_+1)) (y8.set x.X_.toNat m.pos_)).bind λy10 =>
    some y10
   else
    (bif(x.Op_==4)then
     (bif(m.pos_==0)then
      (al_ n m (w64 (at_+1)) c).bind λy11 =>
      some y11
     else
      some m)
    else
     (bif(x.Op_==5)then
      (bif(m.pos_==(m.s_.length:Int))then
       (al_ n m (w64 (at_+1)) c).bind λy12 =>
       some y12
      else
       some m)
     else
      (room 32 m.list_ [(regex_thread.mk at_ c)]).bind λy13 =>
      some (regex_machine.mk m.r_ m.s_ m.pos_ m.visited_ y13))))))
def radd (n:Nat) (r:Xk) (s:Str) (t:Xb) (at_:Int) (x:Xz) (pos:Int) (c:List Int):Option Xb :=
 (bif(x.Op_==7)then
  (ao_ n r s t x.X_ pos c).bind λy5=>some y5
 else
  (bif(x.Op_==6)then
   (ao_ n r s t x.X_ pos c).bind λy6 =>
   (ao_ n r s y6 x.Y_ pos c).bind λy7 =>
   some y7
  else
   (bif(x.Op_==8)then
    (room 8 ([]:List Int) c).bind λy8 =>
    (ah_ y8 x.X_).bind λ_ =>
    (ao_ n r s t (w64 (at_+1)) pos (y8.set x.X_.toNat pos)).bind λy10 =>
    some y10
   else
    (bif(x.Op_==4)then
     (bif(pos==0)then
      (ao_ n r s t (w64 (at_+1)) pos c).bind λy11 =>
      some y11
     else
      some t)
    else
     (bif(x.Op_==5)then
      (bif(pos==(s.length:Int))then
       (ao_ n r s t (w64 (at_+1)) pos c).bind λy12 =>
       some y12
      else
       some t)
     else
      (room 32 t.L_ [(Xe.mk at_ c)]).bind λy13 =>
      some (Xb.mk y13 t.Xo))))))
theorem padd_eq{r:Xk}{s:Str}{pos n i:Nat}{seen:List Bool}{T:List Th}{c:List Int}{x:Xz}(hi:seen[i]? = some false)(hx:r.Yx[i]? = some x):al_ (n+1) (pm r s pos seen T) (i:Int) c=padd n (pm r s pos (seen.set i true) T) (i:Int) x c:=by
 have hb:ah_ (seen.map bI) (i:Int)=some 0:=by rw[bf_,List.getElem?_map,hi];rfl
 have e:al_ (n+1) (pm r s pos seen T) (i:Int) c=b7_ (al_ n) (pm r s pos seen T) (i:Int) c:=rfl;rw[e];unfold b7_;have e1:(pm r s pos seen T).visited_=seen.map bI:=rfl;have e2:(pm r s pos seen T).r_=r:=rfl;rw[e1,e2,hb];simp only[qBs];rw[bf_,hx];simp only[qBs];rw[show decide ((0:Int)>0)=false from rfl,cond_false];have e3:w64 ((0:Int)+1)=1:=rfl;have e4:((i:Nat):Int).toNat=i:=rfl;rw[e3,e4,bI_set];rfl
theorem padd_seen{r:Xk}{s:Str}{pos n i:Nat}{seen:List Bool}{T:List Th}{c:List Int}(hi:seen[i]? = some true):al_ (n+1) (pm r s pos seen T) (i:Int) c=some (pm r s pos seen T):=by
 have hb:ah_ (seen.map bI) (i:Int)=some 1:=by rw[bf_,List.getElem?_map,hi];rfl
 have e:al_ (n+1) (pm r s pos seen T) (i:Int) c=b7_ (al_ n) (pm r s pos seen T) (i:Int) c:=rfl;rw[e];unfold b7_;have e1:(pm r s pos seen T).visited_=seen.map bI:=rfl;rw[e1,hb];rfl
theorem radd_eq{r:Xk}{s:Str}{pos n i:Nat}{seen:List Bool}{T:List Th}{c:List Int}{x:Xz}(hi:seen[i]? = some false)(hx:r.Yx[i]? = some x):ao_ (n+1) r s (rm seen T) (i:Int) (pos:Int) c=radd n r s (rm (seen.set i true) T) (i:Int) x (pos:Int) c:=by
 have hb:ah_ seen (i:Int)=some false:=by rw[bf_,hi]
 have e:ao_ (n+1) r s (rm seen T) (i:Int) (pos:Int) c=eO_ (ao_ n) r s (rm seen T) (i:Int) (pos:Int) c:=rfl;rw[e];unfold eO_;have e1:(rm seen T).Xo=seen:=rfl;rw[e1,hb];simp only[qBs,cond_false];rw[bf_,hx];rfl
theorem radd_seen{r:Xk}{s:Str}{pos n i:Nat}{seen:List Bool}{T:List Th}{c:List Int}(hi:seen[i]? = some true):ao_ (n+1) r s (rm seen T) (i:Int) (pos:Int) c=some (rm seen T):=by
 have hb:ah_ seen (i:Int)=some true:=by rw[bf_,hi]
 have e:ao_ (n+1) r s (rm seen T) (i:Int) (pos:Int) c=eO_ (ao_ n) r s (rm seen T) (i:Int) (pos:Int) c:=rfl;rw[e];unfold eO_;have e1:(rm seen T).Xo=seen:=rfl;rw[e1,hb];rfl
structure Added(L:List Xz)(G:Nat)(Lb:Nat->Option (List Nat))(pos:Nat)(seen:List Bool)(T:List Th)(seen':List Bool)(T':List Th):Prop where
 len:seen'.length=L.length
 ok:∀t∈T',ThOK Lb G pos t
 few:T'.length+seen'.count false<=T.length+seen.count false
 less:seen'.count false<=seen.count false
theorem hd_{α:Type}(o:Option α):(o.bind λy=>some y)=o:=by cases o<;>rfl
theorem add_both {L:List Xz} {G:Nat} {Lb:Nat->Option (List Nat)} (hP:ProgOK L G Lb) {s:Str} {pos:Nat} (_:s.length<=100000) (_:pos<=s.length):∀(n:Nat) (seen:List Bool) (T:List Th) (i:Nat) (O:List Nat) (c:List Int),seen.length=L.length->seen.count false<n->Lb i=some O->CapsOK G pos O c->(∀t∈T,ThOK Lb G pos t)->T.length+seen.count false<=100000 ->
  ∃seen' T',al_ n (pm (Xk.mk L (G:Int)) s pos seen T) (i:Int) c=some (pm (Xk.mk L (G:Int)) s pos seen' T')/\ao_ n (Xk.mk L (G:Int)) s (rm seen T) (i:Int) (pos:Int) c=some (rm seen' T')/\Added L G Lb pos seen T seen' T':=by
 intro n
 induction n with
 | zero=>exact λseen T i O c _ h=>absurd h (Nat.not_lt_zero _)
 | succ n ih =>
  intro seen T i O c hlen hn hi hc hT hroom;have hilt:i<L.length:=hP.lb i (by rw[hi];rfl);have hL1:=hP.n;have hG:=hP.g;obtain⟨b,hb⟩:∃b,seen[i]? = some b:=⟨_,List.getElem?_eq_getElem (by omega)⟩;cases b with
  | true=>exact⟨seen,T,padd_seen hb,radd_seen hb,hlen,hT,Nat.le_refl _,Nat.le_refl _⟩
  | false =>
   have hx:=List.getElem?_eq_getElem hilt;have hcnt:=count_set hb;obtain⟨O',hO',hedge⟩:=hP.e i _ hx;rw[Nat.zero_add]at hO' hedge;rw[hi]at hO';obtain rfl:=qSj hO';rw[padd_eq hb hx,radd_eq hb hx];generalize L[i]=x at hedge hx;have hw:w64 ((i:Int)+1)=((i+1:Nat):Int):=ag_ (by omega);have hl1:(seen.set i true).length=L.length:=by rw[List.length_set];exact hlen
   -- one more call
   have one:∀(j:Nat) (O2:List Nat) (c2:List Int),Lb j=some O2->CapsOK G pos O2 c2->∃seen' T',al_ n (pm (Xk.mk L (G:Int)) s pos (seen.set i true) T) (j:Int) c2=some (pm (Xk.mk L (G:Int)) s pos seen' T')/\ao_ n (Xk.mk L (G:Int)) s (rm (seen.set i true) T) (j:Int) (pos:Int) c2=some (rm seen' T')/\Added L G Lb pos seen T seen' T':=by
    intro j O2 c2 hj hc2;obtain⟨s',T',h1,h2,h3⟩:=ih (seen.set i true) T j O2 c2 hl1 (by omega) hj hc2 hT (by omega);exact⟨s',T',h1,h2,h3.len,h3.ok,by have:=h3.few;omega,by have:=h3.less;omega⟩
   have stay:Added L G Lb pos seen T (seen.set i true) T:=⟨hl1,hT,by omega,by omega⟩;have put:∀{x:Xz},(x.Op_==7)=false->(x.Op_==6)=false->(x.Op_==8)=false->(x.Op_==4)=false->(x.Op_==5)=false->∃seen' T',padd n (pm (Xk.mk L (G:Int)) s pos (seen.set i true) T) (i:Int) x c=some (pm (Xk.mk L (G:Int)) s pos seen' T')/\radd n (Xk.mk L (G:Int)) s (rm (seen.set i true) T) (i:Int) x (pos:Int) c=some (rm seen' T')/\Added L G Lb pos seen T seen' T':=by
    intro x h7 h6 h8 h4 h5;refine⟨seen.set i true,T++[(i,c)],?_,?_,hl1,λt ht => ?_,by simp only[qLa,qLc,List.length_nil];omega,by omega⟩
    .unfold padd;rw[h7,h6,h8,h4,h5];simp only[cond_false];have e:(pm (Xk.mk L (G:Int)) s pos (seen.set i true) T).list_=T.map pT:=rfl;rw[e,bl_ (by simp only[List.length_map,qLc,List.length_nil];omega) (by simp only[List.length_map,qLc,List.length_nil];omega)];unfold pm;rw[List.map_append];rfl
    .unfold radd;rw[h7,h6,h8,h4,h5];simp only[cond_false];have e:(rm (seen.set i true) T).L_=T.map rT:=rfl;rw[e,bl_ (by simp only[List.length_map,qLc,List.length_nil];omega) (by simp only[List.length_map,qLc,List.length_nil];omega)];unfold rm;rw[List.map_append];rfl
    .rcases List.mem_append.1 ht with ht|ht
     .exact hT t ht
     .rw[List.mem_singleton.1 ht];exact⟨O,hi,hc⟩
   cases hedge with
   | chr b h=>exact put rfl rfl rfl rfl rfl
   | any h=>exact put rfl rfl rfl rfl rfl
   | set y k h=>exact put rfl rfl rfl rfl rfl
   | done h0=>exact put rfl rfl rfl rfl rfl
   | bol h =>
    rcases Nat.eq_zero_or_pos pos with h0|h0
    .obtain⟨s',T',h1,h2,h3⟩:=one (i+1) O c h hc;refine⟨s',T',?_,?_,h3⟩
     .have e:padd n (pm (Xk.mk L (G:Int)) s pos (seen.set i true) T) (i:Int) (iOne 4) c=(bif((pos:Int)==0)then(al_ n (pm (Xk.mk L (G:Int)) s pos (seen.set i true) T) (w64 ((i:Int)+1)) c).bind λy=>some y else some (pm (Xk.mk L (G:Int)) s pos (seen.set i true) T)):=rfl;rw[e,beq_iff_eq.2 (by omega:(pos:Int)=0),cond_true,hw,h1];rfl
     .have e:radd n (Xk.mk L (G:Int)) s (rm (seen.set i true) T) (i:Int) (iOne 4) (pos:Int) c=(bif((pos:Int)==0)then(ao_ n (Xk.mk L (G:Int)) s (rm (seen.set i true) T) (w64 ((i:Int)+1)) (pos:Int) c).bind λy=>some y else some (rm (seen.set i true) T)):=rfl;rw[e,beq_iff_eq.2 (by omega:(pos:Int)=0),cond_true,hw,h2];rfl
    .refine⟨_,_,?_,?_,stay⟩
     .have e:padd n (pm (Xk.mk L (G:Int)) s pos (seen.set i true) T) (i:Int) (iOne 4) c=(bif((pos:Int)==0)then(al_ n (pm (Xk.mk L (G:Int)) s pos (seen.set i true) T) (w64 ((i:Int)+1)) c).bind λy=>some y else some (pm (Xk.mk L (G:Int)) s pos (seen.set i true) T)):=rfl;rw[e,beq_eq_false_iff_ne.2 (by omega:(pos:Int)≠0)];rfl
     .have e:radd n (Xk.mk L (G:Int)) s (rm (seen.set i true) T) (i:Int) (iOne 4) (pos:Int) c=(bif((pos:Int)==0)then(ao_ n (Xk.mk L (G:Int)) s (rm (seen.set i true) T) (w64 ((i:Int)+1)) (pos:Int) c).bind λy=>some y else some (rm (seen.set i true) T)):=rfl;rw[e,beq_eq_false_iff_ne.2 (by omega:(pos:Int)≠0)];rfl
   | eol h =>
    have e1:padd n (pm (Xk.mk L (G:Int)) s pos (seen.set i true) T) (i:Int) (iOne 5) c=(bif((pos:Int)==(s.length:Int))then(al_ n (pm (Xk.mk L (G:Int)) s pos (seen.set i true) T) (w64 ((i:Int)+1)) c).bind λy=>some y else some (pm (Xk.mk L (G:Int)) s pos (seen.set i true) T)):=rfl;have e2:radd n (Xk.mk L (G:Int)) s (rm (seen.set i true) T) (i:Int) (iOne 5) (pos:Int) c=(bif((pos:Int)==(s.length:Int))then(ao_ n (Xk.mk L (G:Int)) s (rm (seen.set i true) T) (w64 ((i:Int)+1)) (pos:Int) c).bind λy=>some y else some (rm (seen.set i true) T)):=rfl;by_cases h0:pos=s.length
    .obtain⟨s',T',h1,h2,h3⟩:=one (i+1) O c h hc;refine⟨s',T',?_,?_,h3⟩
     .rw[e1,beq_iff_eq.2 (by omega:(pos:Int)=(s.length:Int)),cond_true,hw,h1];rfl
     .rw[e2,beq_iff_eq.2 (by omega:(pos:Int)=(s.length:Int)),cond_true,hw,h2];rfl
    .refine⟨_,_,?_,?_,stay⟩
     .rw[e1,beq_eq_false_iff_ne.2 (by omega:(pos:Int)≠(s.length:Int))];rfl
     .rw[e2,beq_eq_false_iff_ne.2 (by omega:(pos:Int)≠(s.length:Int))];rfl
   | jump j h1 =>
    obtain⟨s',T',k1,k2,k3⟩:=one j O c h1 hc;refine⟨s',T',?_,?_,k3⟩
    .have e:padd n (pm (Xk.mk L (G:Int)) s pos (seen.set i true) T) (i:Int) (cn_ j) c=(al_ n (pm (Xk.mk L (G:Int)) s pos (seen.set i true) T) (j:Int) c).bind λy=>some y:=rfl
     rw[e,k1];rfl
    .have e:radd n (Xk.mk L (G:Int)) s (rm (seen.set i true) T) (i:Int) (cn_ j) (pos:Int) c=(ao_ n (Xk.mk L (G:Int)) s (rm (seen.set i true) T) (j:Int) (pos:Int) c).bind λy=>some y:=rfl
     rw[e,k2];rfl
   | split j k h1 h2 =>
    obtain⟨s',T',k1,k2,k3⟩:=one j O c h1 hc;obtain⟨s2,T2,m1,m2,m3⟩:=ih s' T' k O c k3.len (by
     obtain⟨a1,a2,a3⟩:=ih (seen.set i true) T j O c hl1 (by omega) h1 hc hT (by omega);obtain⟨b1,b2,b3⟩:=a3;rw[k1]at b1;have e:=qSj b1;have e':s'.map bI=a1.map bI:=congrArg regex_machine.visited_ e;have hcc:∀l l':List Bool,l.map bI=l'.map bI->l.count false=l'.count false:=by
      intro l
      induction l with
      | nil=>intro l' h;cases l' with
       | nil=>rfl
       | cons b l'=>cases h
      | cons b l ihl=>intro l' h;cases l' with
       | nil=>cases h
       | cons b' l' =>
        injection h with h1 h2;have hbb:b=b':=by cases b<;>cases b'<;>first|rfl|exact absurd h1 (by decide)
        rw[hbb,List.count_cons,List.count_cons,ihl l' h2]
     rw[hcc _ _ e'];have:=b3.less;omega) h2 hc k3.ok (by have:=k3.few;omega)
    refine⟨s2,T2,?_,?_,m3.len,m3.ok,by have:=k3.few;have:=m3.few;omega,by have:=k3.less;have:=m3.less;omega⟩
    .have e:padd n (pm (Xk.mk L (G:Int)) s pos (seen.set i true) T) (i:Int) (br_ j k) c=(al_ n (pm (Xk.mk L (G:Int)) s pos (seen.set i true) T) (j:Int) c).bind λy6=>(al_ n y6 (k:Int) c).bind λy=>some y:=rfl
     rw[e,k1];simp only[qBs];rw[m1];rfl
    .have e:radd n (Xk.mk L (G:Int)) s (rm (seen.set i true) T) (i:Int) (br_ j k) (pos:Int) c=(ao_ n (Xk.mk L (G:Int)) s (rm (seen.set i true) T) (j:Int) (pos:Int) c).bind λy6=>(ao_ n (Xk.mk L (G:Int)) s y6 (k:Int) (pos:Int) c).bind λy=>some y:=rfl
     rw[e,k2];simp only[qBs];rw[m2];rfl
   | begin_ m hm h1 =>
    have hcl:=hc.len;obtain⟨s',T',k1,k2,k3⟩:=one (i+1) (m::O) _ h1 hc.begin_;refine⟨s',T',?_,?_,k3⟩
    .have e:padd n (pm (Xk.mk L (G:Int)) s pos (seen.set i true) T) (i:Int) (aI_ (2*m)) c=(aU_ c).bind λy8=>(ah_ y8 ((2*m:Nat):Int)).bind λ_=>(al_ n (pm (Xk.mk L (G:Int)) s pos (seen.set i true) T) (w64 ((i:Int)+1)) (y8.set (2*m) (pos:Int))).bind λy=>some y:=rfl
     have e2:aU_ c=some c:=bl_ (by simp only[List.length_nil];omega) (by simp only[List.length_nil];omega);rw[e,e2];simp only[qBs];rw[aC_ (by omega)];simp only[qBs];rw[hw,k1];rfl
    .have e:radd n (Xk.mk L (G:Int)) s (rm (seen.set i true) T) (i:Int) (aI_ (2*m)) (pos:Int) c=(room 8 ([]:List Int) c).bind λy8=>(ah_ y8 ((2*m:Nat):Int)).bind λ_=>(ao_ n (Xk.mk L (G:Int)) s (rm (seen.set i true) T) (w64 ((i:Int)+1)) (pos:Int) (y8.set (2*m) (pos:Int))).bind λy=>some y:=rfl
     have e2:room 8 ([]:List Int) c=some c:=bl_ (by simp only[List.length_nil];omega) (by simp only[List.length_nil];omega);rw[e,e2];simp only[qBs];rw[aC_ (by omega)];simp only[qBs];rw[hw,k2];rfl
   | end_ m hm Q h0 h1 =>
    have hcl:=hc.len;rw[h0]at hc;obtain⟨s',T',k1,k2,k3⟩:=one (i+1) Q _ h1 hc.end_;refine⟨s',T',?_,?_,k3⟩
    .have e:padd n (pm (Xk.mk L (G:Int)) s pos (seen.set i true) T) (i:Int) (aI_ (2*m+1)) c=(aU_ c).bind λy8=>(ah_ y8 ((2*m+1:Nat):Int)).bind λ_=>(al_ n (pm (Xk.mk L (G:Int)) s pos (seen.set i true) T) (w64 ((i:Int)+1)) (y8.set (2*m+1) (pos:Int))).bind λy=>some y:=rfl
     have e2:aU_ c=some c:=bl_ (by simp only[List.length_nil];omega) (by simp only[List.length_nil];omega);rw[e,e2];simp only[qBs];rw[aC_ (by omega)];simp only[qBs];rw[hw,k1];rfl
    .have e:radd n (Xk.mk L (G:Int)) s (rm (seen.set i true) T) (i:Int) (aI_ (2*m+1)) (pos:Int) c=(room 8 ([]:List Int) c).bind λy8=>(ah_ y8 ((2*m+1:Nat):Int)).bind λ_=>(ao_ n (Xk.mk L (G:Int)) s (rm (seen.set i true) T) (w64 ((i:Int)+1)) (pos:Int) (y8.set (2*m+1) (pos:Int))).bind λy=>some y:=rfl
     have e2:room 8 ([]:List Int) c=some c:=bl_ (by simp only[List.length_nil];omega) (by simp only[List.length_nil];omega);rw[e,e2];simp only[qBs];rw[aC_ (by omega)];simp only[qBs];rw[hw,k2];rfl
theorem acc_go{x:Xz}(hx:x.Xu.length<=1000)(c:Int):∀(k i f:Nat) (b:Bool),x.Xu.length-i<=k->k<f->i<=x.Xu.length+1->∃r,ae_ (cg_ x c) f (b,(i:Int))=some r:=by
 intro k
 induction k with
 | zero =>
  intro i f b hk hf hi;obtain⟨f,rfl⟩:∃g,f=g+1:=⟨f-1,by omega⟩;refine⟨b,ai_ ?_⟩;unfold cg_;simp only[];rw[ag_ (by omega),decide_eq_false (by omega)];rfl
 | succ k ih =>
  intro i f b hk hf hi;obtain⟨f,rfl⟩:∃g,f=g+1:=⟨f-1,by omega⟩;rcases Nat.lt_or_ge (i+1) x.Xu.length with hlt|hge
  .have hst:∃b',cg_ x c (b,(i:Int))=some (.next (b',((i+2:Nat):Int))):=by
    unfold cg_;simp only[];rw[ag_ (by omega),decide_eq_true (by omega),cond_true,bE_ (n:=(i:Int)+2) ⟨by omega,by omega⟩,aT_ (by omega),aT_ hlt];simp only[qBs];cases b with
    | true=>exact⟨true,rfl⟩
    | false =>
     simp only[cond_false];cases decide (((x.Xu[i]'(by omega)).toNat:Int)<=c)with
     | false=>exact⟨_,rfl⟩
     | true=>exact⟨_,rfl⟩
   obtain⟨b',hst⟩:=hst;obtain⟨r,hr⟩:=ih (i+2) f b' (by omega) (by omega) (by omega);exact⟨r,ap_ hst hr⟩
  .refine⟨b,ai_ ?_⟩;unfold cg_;simp only[];rw[ag_ (by omega),decide_eq_false (by omega)];rfl
theorem accepts_ex{x:Xz}(hx:x.Xu.length<=1000)(c:Int):∃b,eE_ x c=some b/\eG_ x c=some b/\(b=true->x.Op_=1\/x.Op_=2\/x.Op_=3):=by
 have e:eG_ x c=eE_ x c:=rfl;rw[e];unfold eE_;cases h1:x.Op_==1 with
 | true=>exact⟨_,rfl,rfl,λ_ => .inl (by simpa using h1)⟩
 | false =>
  cases h2:x.Op_==2 with
  | true=>exact⟨_,rfl,rfl,λ_ => .inr (.inl (by simpa using h2))⟩
  | false =>
   cases h3:x.Op_==3 with
   | false=>exact⟨false,rfl,rfl,λe=>by cases e⟩
   | true =>
    obtain⟨r,hr⟩:=acc_go hx c x.Xu.length 0 BIG false (by omega) (by unfold BIG;omega) (Nat.zero_le _);have hr:ae_ (cg_ x c) BIG (false,0)=some r:=hr;refine⟨!(r==x.Yq),?_,?_,λ_ => .inr (.inr (by simpa using h3))⟩ <;>
    .simp only[cond_true,cond_false];rw[hr];rfl
def isM(L:List Xz)(t:Th):Bool:=match L[t.1]? with|some x=>x.Op_==9|none=>false
theorem th_at{L:List Xz}{G pos:Nat}{Lb:Nat->Option (List Nat)}(hP:ProgOK L G Lb){t:Th}(h:ThOK Lb G pos t):∃O x,L[t.1]? = some x/\Lb t.1=some O/\CapsOK G pos O t.2/\Edge Lb G t.1 O x:=by
 obtain⟨O,h1,h2⟩:=h;have hlt:=hP.lb t.1 (by rw[h1];rfl);have hx:=List.getElem?_eq_getElem hlt;obtain⟨O',h3,h4⟩:=hP.e t.1 _ hx;rw[Nat.zero_add]at h3 h4;rw[h1]at h3;obtain rfl:=qSj h3;exact⟨O,_,hx,h1,h2,h4⟩
theorem edge_next{Lb:Nat->Option (List Nat)}{G i:Nat}{O:List Nat}{x:Xz}(h:Edge Lb G i O x)(hx:x.Op_=1\/x.Op_=2\/x.Op_=3):Lb (i+1)=some O:=by
 cases h with
 | chr b h=>exact h
 | any h=>exact h
 | set y k h=>exact h
 | bol h=>rcases hx with h|h|h<;>exact absurd h (by decide)
 | eol h=>rcases hx with h|h|h<;>exact absurd h (by decide)
 | split a b h1 h2=>exact absurd (show(6:Int)=1\/(6:Int)=2\/(6:Int)=3 from hx) (by decide)
 | jump a h1=>exact absurd (show(7:Int)=1\/(7:Int)=2\/(7:Int)=3 from hx) (by decide)
 | begin_ m hm h1=>exact absurd (show(8:Int)=1\/(8:Int)=2\/(8:Int)=3 from hx) (by decide)
 | end_ m hm Q h0 h1=>exact absurd (show(8:Int)=1\/(8:Int)=2\/(8:Int)=3 from hx) (by decide)
 | done h0=>rcases hx with h|h|h<;>exact absurd h (by decide)
theorem edge_done{Lb:Nat->Option (List Nat)}{G i:Nat}{O:List Nat}{x:Xz}(h:Edge Lb G i O x)(hx:x.Op_=9):O=[]:=by
 cases h with
 | done h0=>exact h0
 | chr b h=>exact absurd (show(1:Int)=9 from hx) (by decide)
 | any h=>exact absurd hx (by decide)
 | set y k h=>exact absurd (show(3:Int)=9 from hx) (by decide)
 | bol h=>exact absurd hx (by decide)
 | eol h=>exact absurd hx (by decide)
 | split a b h1 h2=>exact absurd (show(6:Int)=9 from hx) (by decide)
 | jump a h1=>exact absurd (show(7:Int)=9 from hx) (by decide)
 | begin_ m hm h1=>exact absurd (show(8:Int)=9 from hx) (by decide)
 | end_ m hm Q h0 h1=>exact absurd (show(8:Int)=9 from hx) (by decide)
def foundO(L:List Xz)(T S:List Th):Out (List regex_thread) ((List Int)×(List regex_thread)):=match S.find? (isM L)with|some t => .ret (t.2,T.map pT)|none => .fall (T.map pT)
theorem found_go{L:List Xz}{T:List Th}(hT:T.length<=1000000)(hok:∀t∈T,∃x,L[t.1]? = some x){B:List Int}{E G pos:Int}{s:Str}{V:List Int}:∀(k i f:Nat),T.length-i<=k->k<f->i<=T.length->ae_ (cw_ (B,E,L,G,s,pos,V,T.map pT)) f ((i:Int),T.map pT)=some (foundO L T (T.drop i)):=by
 intro k
 induction k with
 | zero =>
  intro i f hk hf hi;obtain⟨f,rfl⟩:∃g,f=g+1:=⟨f-1,by omega⟩;have:i=T.length:=by omega
  subst this;rw[List.drop_length];refine ai_ ?_;unfold cw_;simp only[List.length_map];rw[bj_];rfl
 | succ k ih =>
  intro i f hk hf hi;obtain⟨f,rfl⟩:∃g,f=g+1:=⟨f-1,by omega⟩;rcases Nat.lt_or_ge i T.length with hlt|hge
  .rw[List.drop_eq_getElem_cons hlt];obtain⟨x,hx⟩:=hok _ (List.getElem_mem hlt);have hg:ah_ (T.map pT) (i:Int)=some (pT T[i]):=by rw[bf_,List.getElem?_map,List.getElem?_eq_getElem hlt];rfl
   have hgx:ah_ L (pT T[i]).at_=some x:=by show ah_ L ((T[i].1:Nat):Int)=some x;rw[bf_,hx]
   have him:isM L T[i]=(x.Op_==9):=by unfold isM;rw[hx]
   unfold foundO;rw[List.find?_cons,him];cases h9:x.Op_==9 with
   | true =>
    refine ai_ ?_;unfold cw_;simp only[List.length_map];rw[aR_ hlt,cond_true,hg];simp only[qBs];rw[hgx];simp only[qBs];rw[h9];rfl
   | false =>
    refine ap_ (s':=(((i+1:Nat):Int),T.map pT)) ?_ (ih (i+1) f (by omega) (by omega) (by omega));unfold cw_;simp only[List.length_map];rw[aR_ hlt,cond_true,hg];simp only[qBs];rw[hgx];simp only[qBs];rw[h9,ag_ (by omega)];rfl
  .have:i=T.length:=by omega
   subst this;rw[List.drop_length];refine ai_ ?_;unfold cw_;simp only[List.length_map];rw[bj_];rfl
def bst(L:List Xz)(cnd:Bool)(x2 pos:Int)(b0:Xs)(S:List Th):Xs:=bif cnd then(match S.find? (isM L)with|some t=>Xs.mk t.2 x2 pos true|none=>b0)else b0
def mtd(L:List Xz)(cnd:Bool)(S:List Th):Bool:=cnd&&S.any (isM L)
theorem bst_snoc{L:List Xz}{cnd:Bool}{x2 pos:Int}{b0:Xs}{S:List Th}{t:Th}{m:List Xe}{c:List Int}(hc:c=t.2) :
  (bif((isM L t&&(!mtd L cnd S))&&cnd)then(true,m,Xs.mk c x2 pos true)else(mtd L cnd S,m,bst L cnd x2 pos b0 S))=(mtd L cnd (S++[t]),m,bst L cnd x2 pos b0 (S++[t])):=by
 subst hc;unfold mtd bst;cases cnd with
 | false=>cases isM L t<;>rfl
 | true =>
  simp only[cond_true,Bool.true_and,Bool.and_true];rw[List.any_append,List.find?_append];have h1:([t].any (isM L))=isM L t:=by simp
  rw[h1];cases hS:S.find? (isM L)with
  | some u =>
   have ha:S.any (isM L)=true:=List.any_eq_true.2 ⟨u,List.mem_of_find?_eq_some hS,List.find?_some hS⟩;rw[ha];simp
  | none =>
   have ha:S.any (isM L)=false:=by
    rw[List.any_eq_false];intro u hu;have:=List.find?_eq_none.1 hS u hu;exact this
   rw[ha];cases hm:isM L t with
   | true=>simp[hm]
   | false=>simp[hm]
theorem next_both{L:List Xz}{G:Nat}{Lb:Nat->Option (List Nat)}(hP:ProgOK L G Lb){s:Str}{pos:Nat}(hs:s.length<=100000)(hpos:pos<s.length){T:List Th}(hTl:T.length<=100000)(hT:∀t∈T,ThOK Lb G pos t){x3 cnd:Bool}(hcnd:cnd=((!x3)||((pos:Int)==(s.length:Int)))){x2:Int}{b0:Xs}{seen:List Bool}{B:List Int}{E:Int}{W:List Int} :
  ∀(k i f1 f2:Nat) (seen1:List Bool) (T1:List Th),T.length-i<=k->k<f1->k<f2->i<=T.length->seen1.length=L.length->(∀t∈T1,ThOK Lb G (pos+1) t)->T1.length+seen1.count false<=1000 ->
  ∃(seen2:List Bool) (T2:List Th),ae_ (cT_ (B,E,L,(G:Int),s,(pos:Int),W,T.map pT) (Xk.mk L (G:Int)) ((s[pos].toNat:Nat):Int)) f1 ((i:Int),L,(G:Int),s,((pos+1:Nat):Int),seen1.map bI,T1.map pT,T.map pT)=some (L,(G:Int),s,((pos+1:Nat):Int),seen2.map bI,T2.map pT) /\
   ae_ (bs_ (Xk.mk L (G:Int)) x3 ((pos:Int),T.map rT,seen,b0) s x2) f2 (mtd L cnd (T.take i),(i:Int),T.map rT,bst L cnd x2 (pos:Int) b0 (T.take i),T1.map rT,seen1)=some (T.map rT,bst L cnd x2 (pos:Int) b0 T,T2.map rT,seen2)/\seen2.length=L.length/\(∀t∈T2,ThOK Lb G (pos+1) t)/\T2.length<=1000:=by
 have hend:∀(f1 f2:Nat) (seen1:List Bool) (T1:List Th),ae_ (cT_ (B,E,L,(G:Int),s,(pos:Int),W,T.map pT) (Xk.mk L (G:Int)) ((s[pos].toNat:Nat):Int)) (f1+1) ((T.length:Int),L,(G:Int),s,((pos+1:Nat):Int),seen1.map bI,T1.map pT,T.map pT)=some (L,(G:Int),s,((pos+1:Nat):Int),seen1.map bI,T1.map pT) /\
   ae_ (bs_ (Xk.mk L (G:Int)) x3 ((pos:Int),T.map rT,seen,b0) s x2) (f2+1) (mtd L cnd (T.take T.length),(T.length:Int),T.map rT,bst L cnd x2 (pos:Int) b0 (T.take T.length),T1.map rT,seen1)=some (T.map rT,bst L cnd x2 (pos:Int) b0 T,T1.map rT,seen1):=by
  intro f1 f2 seen1 T1;refine⟨ai_ ?_,ai_ ?_⟩
  .unfold cT_;simp only[List.length_map];rw[bj_];rfl
  .unfold bs_;simp only[List.length_map];rw[bj_,List.take_length];rfl
 intro k
 induction k with
 | zero =>
  intro i f1 f2 seen1 T1 hk hf1 hf2 hi hl1 hok1 hfew;obtain⟨f1,rfl⟩:∃g,f1=g+1:=⟨f1-1,by omega⟩;obtain⟨f2,rfl⟩:∃g,f2=g+1:=⟨f2-1,by omega⟩;have:i=T.length:=by omega
  subst this;exact⟨seen1,T1,(hend f1 f2 seen1 T1).1,(hend f1 f2 seen1 T1).2,hl1,hok1,by omega⟩
 | succ k ih =>
  intro i f1 f2 seen1 T1 hk hf1 hf2 hi hl1 hok1 hfew;obtain⟨f1,rfl⟩:∃g,f1=g+1:=⟨f1-1,by omega⟩;obtain⟨f2,rfl⟩:∃g,f2=g+1:=⟨f2-1,by omega⟩;rcases Nat.lt_or_ge i T.length with hlt|hge
  .obtain⟨O,x,hx,hO,hcaps,hedge⟩:=th_at hP (hT _ (List.getElem_mem hlt));obtain⟨b,hb1,hb2,hb3⟩:=accepts_ex (hP.st x (List.mem_of_getElem? hx)) ((s[pos].toNat:Nat):Int);have hg1:ah_ (T.map pT) (i:Int)=some (pT T[i]):=by rw[bf_,List.getElem?_map,List.getElem?_eq_getElem hlt];rfl
   have hg2:ah_ (T.map rT) (i:Int)=some (rT T[i]):=by rw[bf_,List.getElem?_map,List.getElem?_eq_getElem hlt];rfl
   have hgx:ah_ L ((T[i].1:Nat):Int)=some x:=by rw[bf_,hx]
   have him:isM L T[i]=(x.Op_==9):=by unfold isM;rw[hx]
   have hTs:T.take (i+1)=T.take i++[T[i]]:=ds_ hlt;have hilt:T[i].1<L.length:=hP.lb _ (by rw[hO];rfl);have hLn:=hP.n;have e1:(bif(((x.Op_==9)&&(!mtd L cnd (T.take i)))&&((!x3)||((pos:Int)==(s.length:Int))))then
     (ah_ (T.map rT) (i:Int)).bind λy61=>some (true,T.map rT,(Xs.mk y61.At_ x2 (pos:Int) true))
    else some (mtd L cnd (T.take i),T.map rT,bst L cnd x2 (pos:Int) b0 (T.take i)))=some (mtd L cnd (T.take (i+1)),T.map rT,bst L cnd x2 (pos:Int) b0 (T.take (i+1))):=by
    rw[hg2,←hcnd,←him,hTs,←bst_snoc (L:=L) (cnd:=cnd) (x2:=x2) (pos:=(pos:Int)) (b0:=b0) (S:=T.take i) (t:=T[i]) (m:=T.map rT) (c:=(rT T[i]).At_) rfl];cases((isM L T[i]&&(!mtd L cnd (T.take i)))&&cnd)<;>rfl
   have e2:(bif decide ((pos:Int)<(s.length:Int))then(an_ s (pos:Int)).bind λy62=>(eG_ x y62).bind λy63=>some y63 else some false)=some b:=by
    rw[decide_eq_true (by omega),cond_true,aT_ hpos];simp only[qBs];rw[hb2];rfl
   have step:∀(seen2:List Bool) (T2:List Th),
     ((bif b then
      (al_ BIG (pm (Xk.mk L (G:Int)) s (pos+1) seen1 T1) ((T[i].1+1:Nat):Int) T[i].2)else some (pm (Xk.mk L (G:Int)) s (pos+1) seen1 T1))=some (pm (Xk.mk L (G:Int)) s (pos+1) seen2 T2)) ->
     ((bif b then(ao_ BIG (Xk.mk L (G:Int)) s (rm seen1 T1) ((T[i].1+1:Nat):Int) ((pos+1:Nat):Int) T[i].2)else some (rm seen1 T1))=some (rm seen2 T2)) ->
     cT_ (B,E,L,(G:Int),s,(pos:Int),W,T.map pT) (Xk.mk L (G:Int)) ((s[pos].toNat:Nat):Int) ((i:Int),L,(G:Int),s,((pos+1:Nat):Int),seen1.map bI,T1.map pT,T.map pT)=some (.next (((i+1:Nat):Int),L,(G:Int),s,((pos+1:Nat):Int),seen2.map bI,T2.map pT,T.map pT)) /\
     bs_ (Xk.mk L (G:Int)) x3 ((pos:Int),T.map rT,seen,b0) s x2 (mtd L cnd (T.take i),(i:Int),T.map rT,bst L cnd x2 (pos:Int) b0 (T.take i),T1.map rT,seen1)=some (.next (mtd L cnd (T.take (i+1)),((i+1:Nat):Int),T.map rT,bst L cnd x2 (pos:Int) b0 (T.take (i+1)),T2.map rT,seen2)):=by
    intro seen2 T2 hp hr;constructor
    .unfold cT_;simp only[List.length_map];rw[aR_ hlt,cond_true,hg1];simp only[qBs];have hgx':ah_ L (pT T[i]).at_=some x:=hgx;rw[hgx'];simp only[qBs];rw[hb1];simp only[qBs];have ew:w64 ((pT T[i]).at_+1)=((T[i].1+1:Nat):Int):=ag_ (by omega);rw[ew,ag_ (i:=i) (by omega)];cases b with
     | true =>
      simp only[cond_true]at hp ⊢;have hp':al_ BIG (regex_machine.mk (Xk.mk L (G:Int)) s ((pos+1:Nat):Int) (seen1.map bI) (T1.map pT)) ((T[i].1+1:Nat):Int) (pT T[i]).caps_=some (pm (Xk.mk L (G:Int)) s (pos+1) seen2 T2):=hp;rw[hp'];rfl
     | false =>
      simp only[cond_false]at hp ⊢;have hp:=qSj hp;have h1:seen1.map bI=seen2.map bI:=congrArg regex_machine.visited_ hp;have h2:T1.map pT=T2.map pT:=congrArg regex_machine.list_ hp;rw[h1,h2];rfl
    .unfold bs_;simp only[List.length_map];rw[aR_ hlt,cond_true,hg2];simp only[qBs];have hgx':ah_ L (rT T[i]).K_=some x:=hgx;rw[hgx'];simp only[qBs];have e1':=e1;rw[hg2]at e1';simp only[qBs]at e1';rw[e1'];simp only[qBs];rw[e2];simp only[qBs];rw[hg2];simp only[qBs];have ew:w64 ((rT T[i]).K_+1)=((T[i].1+1:Nat):Int):=ag_ (by omega);rw[ew,ag_ (i:=i) (by omega),ag_ (i:=pos) (by omega)];cases b with
     | true =>
      simp only[cond_true]at hr ⊢;have hr':ao_ BIG (Xk.mk L (G:Int)) s (Xb.mk (T1.map rT) seen1) ((T[i].1+1:Nat):Int) ((pos+1:Nat):Int) (rT T[i]).At_=some (rm seen2 T2):=hr;rw[hr'];rfl
     | false =>
      simp only[cond_false]at hr ⊢;have hr:=qSj hr;have h1:seen1=seen2:=congrArg Xb.Xo hr;have h2:T1.map rT=T2.map rT:=congrArg Xb.L_ hr;rw[h1,h2];rfl
   have hex:∃(seen2:List Bool) (T2:List Th),((bif b then
      (al_ BIG (pm (Xk.mk L (G:Int)) s (pos+1) seen1 T1) ((T[i].1+1:Nat):Int) T[i].2)else some (pm (Xk.mk L (G:Int)) s (pos+1) seen1 T1))=some (pm (Xk.mk L (G:Int)) s (pos+1) seen2 T2)) /\
     ((bif b then(ao_ BIG (Xk.mk L (G:Int)) s (rm seen1 T1) ((T[i].1+1:Nat):Int) ((pos+1:Nat):Int) T[i].2)else some (rm seen1 T1))=some (rm seen2 T2))/\Added L G Lb (pos+1) seen1 T1 seen2 T2:=by
    cases b with
    | false=>exact⟨seen1,T1,rfl,rfl,hl1,hok1,Nat.le_refl _,Nat.le_refl _⟩
    | true =>
     have hcl:seen1.count false<=seen1.length:=List.count_le_length;exact add_both hP hs (by omega) BIG seen1 T1 (T[i].1+1) O T[i].2 hl1 (by unfold BIG;omega) (edge_next hedge (hb3 rfl)) (hcaps.later (by omega)) hok1 (by omega)
   obtain⟨seen2,T2,hp,hr,hadd⟩:=hex;obtain⟨hs1,hs2⟩:=step seen2 T2 hp hr;obtain⟨seen3,T3,k1,k2,k3⟩:=ih (i+1) f1 f2 seen2 T2 (by omega) (by omega) (by omega) (by omega) hadd.len hadd.ok (by have:=hadd.few;omega);exact⟨seen3,T3,ap_ hs1 k1,ap_ hs2 k2,k3⟩
  .have:i=T.length:=by omega
   subst this;exact⟨seen1,T1,(hend f1 f2 seen1 T1).1,(hend f1 f2 seen1 T1).2,hl1,hok1,by omega⟩
theorem last_go{L:List Xz}{G:Nat}{Lb:Nat->Option (List Nat)}(hP:ProgOK L G Lb){s:Str}{pos:Nat}(hpos:pos=s.length){T:List Th}(hTl:T.length<=100000)(hT:∀t∈T,ThOK Lb G pos t){x3 cnd:Bool}(hcnd:cnd=((!x3)||((pos:Int)==(s.length:Int)))){x2:Int}{b0:Xs}{seen:List Bool}{l1:List Xe}{seen1:List Bool} :
  ∀(k i f2:Nat),T.length-i<=k->k<f2->i<=T.length ->
   ae_ (bs_ (Xk.mk L (G:Int)) x3 ((pos:Int),T.map rT,seen,b0) s x2) f2 (mtd L cnd (T.take i),(i:Int),T.map rT,bst L cnd x2 (pos:Int) b0 (T.take i),l1,seen1)=some (T.map rT,bst L cnd x2 (pos:Int) b0 T,l1,seen1):=by
 have hend:∀(f2:Nat),ae_ (bs_ (Xk.mk L (G:Int)) x3 ((pos:Int),T.map rT,seen,b0) s x2) (f2+1) (mtd L cnd (T.take T.length),(T.length:Int),T.map rT,bst L cnd x2 (pos:Int) b0 (T.take T.length),l1,seen1)=some (T.map rT,bst L cnd x2 (pos:Int) b0 T,l1,seen1):=by
  intro f2;refine ai_ ?_;unfold bs_;simp only[List.length_map];rw[bj_,List.take_length];rfl
 intro k
 induction k with
 | zero =>
  intro i f2 hk hf2 hi;obtain⟨f2,rfl⟩:∃g,f2=g+1:=⟨f2-1,by omega⟩;have:i=T.length:=by omega
  subst this;exact hend f2
 | succ k ih =>
  intro i f2 hk hf2 hi;obtain⟨f2,rfl⟩:∃g,f2=g+1:=⟨f2-1,by omega⟩;rcases Nat.lt_or_ge i T.length with hlt|hge
  .obtain⟨O,x,hx,hO,hcaps,hedge⟩:=th_at hP (hT _ (List.getElem_mem hlt));have hg2:ah_ (T.map rT) (i:Int)=some (rT T[i]):=by rw[bf_,List.getElem?_map,List.getElem?_eq_getElem hlt];rfl
   have hgx:ah_ L (rT T[i]).K_=some x:=by show ah_ L ((T[i].1:Nat):Int)=some x;rw[bf_,hx]
   have him:isM L T[i]=(x.Op_==9):=by unfold isM;rw[hx]
   have hTs:T.take (i+1)=T.take i++[T[i]]:=ds_ hlt;have e1:(bif(((x.Op_==9)&&(!mtd L cnd (T.take i)))&&((!x3)||((pos:Int)==(s.length:Int))))then
     some (true,T.map rT,(Xs.mk (rT T[i]).At_ x2 (pos:Int) true))
    else some (mtd L cnd (T.take i),T.map rT,bst L cnd x2 (pos:Int) b0 (T.take i)))=some (mtd L cnd (T.take (i+1)),T.map rT,bst L cnd x2 (pos:Int) b0 (T.take (i+1))):=by
    rw[←hcnd,←him,hTs,←bst_snoc (L:=L) (cnd:=cnd) (x2:=x2) (pos:=(pos:Int)) (b0:=b0) (S:=T.take i) (t:=T[i]) (m:=T.map rT) (c:=(rT T[i]).At_) rfl];cases((isM L T[i]&&(!mtd L cnd (T.take i)))&&cnd)<;>rfl
   refine ap_ ?_ (ih (i+1) f2 (by omega) (by omega) (by omega));unfold bs_;simp only[List.length_map];rw[aR_ hlt,cond_true,hg2];simp only[qBs];rw[hgx];simp only[qBs];rw[e1];simp only[qBs];rw[decide_eq_false (by omega:¬(pos:Int)<(s.length:Int)),ag_ (i:=i) (by omega)];rfl
  .have:i=T.length:=by omega
   subst this;exact hend f2
def BR(G:Nat)(s:Str)(B:List Int)(E:Int)(b:Xs):Prop:=(E = -1/\B=[]/\b=Xs.mk [] 0 0 false)\/∃e:Nat,E=(e:Int)/\e<=s.length/\CapsOK G e [] B/\∃x2,b=Xs.mk B x2 (e:Int) true
abbrev PS3:=(List Int)×Int×(List Xz)×Int×Str×Int×(List Int)×(List regex_thread)
def ps3(L:List Xz)(G:Nat)(s:Str)(B:List Int)(E:Int)(pos:Nat)(seen:List Bool)(T:List Th):PS3:=(B,E,L,(G:Int),s,(pos:Int),seen.map bI,T.map pT)
theorem look_eq{L:List Xz}{G:Nat}{Lb:Nat->Option (List Nat)}(hP:ProgOK L G Lb){s:Str}{pos:Nat}{T:List Th}(hTl:T.length<=100000)(hT:∀t∈T,ThOK Lb G pos t)(hpos:pos<=s.length){x3:Bool}{B:List Int}{E:Int}{b x2}(hb:BR G s B E b){seen:List Bool} :
  ∃B' E',BR G s B' E' (bst L ((!x3)||((pos:Int)==(s.length:Int))) x2 (pos:Int) b T) /\
  Option.bind (
  (ae_ (cw_ (ps3 L G s B E pos seen T)) BIG (0,T.map pT)).bind λwo6=>match wo6 with
  | .ret r2 =>
   (nilB r2.1 λ(n2:Bool) =>
   (bif((!n2)&&((!x3)||((pos:Int)==(s.length:Int))))then
    some (r2.1,(pos:Int),L,(G:Int),s,(pos:Int),seen.map bI,r2.2)
   else
    some (B,E,L,(G:Int),s,(pos:Int),seen.map bI,r2.2)))
  | .fall o6 =>
   (bif(false&&((!x3)||((pos:Int)==(s.length:Int))))then
    some ([],(pos:Int),L,(G:Int),s,(pos:Int),seen.map bI,o6)
   else
    some (B,E,L,(G:Int),s,(pos:Int),seen.map bI,o6))) (λy=>some y)=some (ps3 L G s B' E' pos seen T):=by
 have hf:=found_go (L:=L) (T:=T) (by omega) (λt ht=>by obtain⟨O,x,hx,_⟩:=th_at hP (hT t ht);exact⟨x,hx⟩) (B:=B) (E:=E) (G:=(G:Int)) (pos:=(pos:Int)) (s:=s) (V:=seen.map bI) T.length 0 BIG (by omega) (by unfold BIG;omega) (Nat.zero_le _);have hf:ae_ (cw_ (ps3 L G s B E pos seen T)) BIG (0,T.map pT)=some (foundO L T (T.drop 0)):=hf;rw[List.drop_zero]at hf;rw[hf];unfold foundO bst;cases hS:T.find? (isM L)with
 | none =>
  refine⟨B,E,?_,rfl⟩;cases((!x3)||((pos:Int)==(s.length:Int)))<;>exact hb
 | some t =>
  have htm:=List.mem_of_find?_eq_some hS;have hmt:=List.find?_some hS;obtain⟨O,x,hx,hO,hcaps,hedge⟩:=th_at hP (hT t htm);have hx9:x.Op_=9:=by
   unfold isM at hmt;rw[hx]at hmt;simpa using hmt
  have hO0:=edge_done hedge hx9;subst hO0;have hne:t.2≠[]:=by
   intro e;have h1:=hcaps.len;have h2:=hP.g;rw[e]at h1;simp only[List.length_nil]at h1;omega
  have hnil:∀{R:Type} (k:Bool->Option R),nilB t.2 k=k false:=by
   intro R k;cases ht:t.2 with
   | nil=>exact absurd ht hne
   | cons a l=>rfl
  simp only[qBs];rw[hnil];cases hc:((!x3)||((pos:Int)==(s.length:Int)))with
  | false=>exact⟨B,E,hb,rfl⟩
  | true=>exact⟨t.2,(pos:Int),.inr ⟨pos,rfl,hpos,hcaps,x2,rfl⟩,rfl⟩
theorem rep_map(n:Nat):(List.replicate n false).map bI=List.replicate n 0:=by rw[List.map_replicate];rfl
theorem run_both{L:List Xz}{G:Nat}{Lb:Nat->Option (List Nat)}(hP:ProgOK L G Lb){s:Str}(hs:s.length<=100000){x3:Bool}{x2:Int}:∀(k pos f1 f2:Nat) (seen:List Bool) (T:List Th) (B:List Int) (E:Int) (b:Xs),s.length-pos<=k->k<f1->k+1<f2->pos<=s.length->T.length<=1000->(∀t∈T,ThOK Lb G pos t)->BR G s B E b ->
  ∃B' E' b',ae_ (cU_ x3 s (Xk.mk L (G:Int))) f1 (ps3 L G s B E pos seen T)=some (.ret (B',E'))/\ae_ (cc_ s (Xk.mk L (G:Int)) x3 x2) f2 ((pos:Int),T.map rT,seen,b)=some b'/\BR G s B' E' b':=by
 have hLn:=hP.n;have hnone:bv_ (Xk.mk L (G:Int))=some (Xb.mk [] (List.replicate L.length false)):=by
  unfold bv_;rw[k2_ (by omega) (by show((L.length:Nat):Int)<=_;omega) (by show 1*((L.length:Nat):Int)<=_;omega)];rfl
 intro k
 induction k with
 | zero =>
  intro pos f1 f2 seen T B E b hk hf1 hf2 hpos hTl hT hb;obtain⟨f1,rfl⟩:∃g,f1=g+1:=⟨f1-1,by omega⟩;obtain⟨f2,rfl⟩:∃g,f2=g+2:=⟨f2-2,by omega⟩;have hpe:pos=s.length:=by omega
  obtain⟨B',E',hb',hlook⟩:=look_eq hP (by omega:T.length<=100000) hT hpos (x3:=x3) (x2:=x2) hb (seen:=seen);rw[hd_]at hlook;refine⟨B',E',bst L ((!x3)||((pos:Int)==(s.length:Int))) x2 (pos:Int) b T,ai_ ?_,?_,hb'⟩
  .unfold cU_;refine as_ hlook ?_;unfold ps3;simp only[];rw[decide_eq_true (by omega:(pos:Int)>=(s.length:Int))];rfl
  .by_cases hT0:T=[]
   .subst hT0;refine ai_ ?_;unfold cc_;simp only[List.map_nil,List.length_nil];rw[show decide (((0:Nat):Int)>0)=false from rfl,Bool.and_false,cond_false];unfold bst;cases((!x3)||((pos:Int)==(s.length:Int)))<;>rfl
   .have hTp:=List.length_pos_iff.2 hT0;have hl:=last_go hP hpe (by omega:T.length<=100000) hT (x3:=x3) rfl (x2:=x2) (b0:=b) (seen:=seen) (l1:=[]) (seen1:=List.replicate L.length false) T.length 0 BIG (by omega) (by unfold BIG;omega) (Nat.zero_le _);have hl:ae_ (bs_ (Xk.mk L (G:Int)) x3 ((pos:Int),T.map rT,seen,b) s x2) BIG (false,0,T.map rT,b,[],List.replicate L.length false)=some (T.map rT,bst L ((!x3)||((pos:Int)==(s.length:Int))) x2 (pos:Int) b T,[],List.replicate L.length false):=by
     refine Eq.trans ?_ hl;unfold mtd bst;cases((!x3)||((pos:Int)==(s.length:Int)))<;>rfl
    refine ap_ (s':=(((pos+1:Nat):Int),[],List.replicate L.length false,bst L ((!x3)||((pos:Int)==(s.length:Int))) x2 (pos:Int) b T)) ?_ (ai_ ?_)
    .unfold cc_;simp only[List.length_map];rw[decide_eq_true (by omega:(pos:Int)<=(s.length:Int)),decide_eq_true (by omega:((T.length:Nat):Int)>0),Bool.and_self,cond_true,hnone];simp only[qBs];rw[hl,ag_ (by omega)];rfl
    .unfold cc_;simp only[];rw[decide_eq_false (by omega:¬((pos+1:Nat):Int)<=(s.length:Int))];rfl
 | succ k ih =>
  intro pos f1 f2 seen T B E b hk hf1 hf2 hpos hTl hT hb;obtain⟨f1,rfl⟩:∃g,f1=g+1:=⟨f1-1,by omega⟩;obtain⟨f2,rfl⟩:∃g,f2=g+2:=⟨f2-2,by omega⟩;obtain⟨B',E',hb',hlook⟩:=look_eq hP (by omega:T.length<=100000) hT hpos (x3:=x3) (x2:=x2) hb (seen:=seen);rw[hd_]at hlook;by_cases hT0:T=[]
  .subst hT0;refine⟨B',E',bst L ((!x3)||((pos:Int)==(s.length:Int))) x2 (pos:Int) b [],ai_ ?_,ai_ ?_,hb'⟩
   .unfold cU_;refine as_ hlook ?_;unfold ps3;simp only[List.map_nil,List.length_nil];rw[show((((0:Nat):Int)==0))=true from rfl,Bool.or_true];rfl
   .unfold cc_;simp only[List.map_nil,List.length_nil];rw[show decide (((0:Nat):Int)>0)=false from rfl,Bool.and_false,cond_false];unfold bst;cases((!x3)||((pos:Int)==(s.length:Int)))<;>rfl
  .have hTp:=List.length_pos_iff.2 hT0;by_cases hpe:pos=s.length
   .refine⟨B',E',bst L ((!x3)||((pos:Int)==(s.length:Int))) x2 (pos:Int) b T,ai_ ?_,?_,hb'⟩
    .unfold cU_;refine as_ hlook ?_;unfold ps3;simp only[];rw[decide_eq_true (by omega:(pos:Int)>=(s.length:Int))];rfl
    .have hl:=last_go hP hpe (by omega:T.length<=100000) hT (x3:=x3) rfl (x2:=x2) (b0:=b) (seen:=seen) (l1:=[]) (seen1:=List.replicate L.length false) T.length 0 BIG (by omega) (by unfold BIG;omega) (Nat.zero_le _);have hl:ae_ (bs_ (Xk.mk L (G:Int)) x3 ((pos:Int),T.map rT,seen,b) s x2) BIG (false,0,T.map rT,b,[],List.replicate L.length false)=some (T.map rT,bst L ((!x3)||((pos:Int)==(s.length:Int))) x2 (pos:Int) b T,[],List.replicate L.length false):=by
      refine Eq.trans ?_ hl;unfold mtd bst;cases((!x3)||((pos:Int)==(s.length:Int)))<;>rfl
     refine ap_ (s':=(((pos+1:Nat):Int),[],List.replicate L.length false,bst L ((!x3)||((pos:Int)==(s.length:Int))) x2 (pos:Int) b T)) ?_ (ai_ ?_)
     .unfold cc_;simp only[List.length_map];rw[decide_eq_true (by omega:(pos:Int)<=(s.length:Int)),decide_eq_true (by omega:((T.length:Nat):Int)>0),Bool.and_self,cond_true,hnone];simp only[qBs];rw[hl,ag_ (by omega)];rfl
     .unfold cc_;simp only[];rw[decide_eq_false (by omega:¬((pos+1:Nat):Int)<=(s.length:Int))];rfl
   .have hlt:pos<s.length:=by omega
    have hcntr:(List.replicate L.length false).count false=L.length:=by simp
    obtain⟨seen2,T2,h1,h2,h3,h4,h5⟩:=next_both hP hs hlt (by omega:T.length<=100000) hT (x3:=x3) rfl (x2:=x2) (b0:=b) (seen:=seen) (B:=B') (E:=E') (W:=seen.map bI) T.length 0 BIG BIG (List.replicate L.length false) [] (by omega) (by unfold BIG;omega) (by unfold BIG;omega) (Nat.zero_le _) (by rw[List.length_replicate]) (λt ht=>by cases ht) (by rw[hcntr];simp only[List.length_nil];omega);have h2:ae_ (bs_ (Xk.mk L (G:Int)) x3 ((pos:Int),T.map rT,seen,b) s x2) BIG (false,0,T.map rT,b,[],List.replicate L.length false)=some (T.map rT,bst L ((!x3)||((pos:Int)==(s.length:Int))) x2 (pos:Int) b T,T2.map rT,seen2):=by
     refine Eq.trans ?_ h2;unfold mtd bst;cases((!x3)||((pos:Int)==(s.length:Int)))<;>rfl
    obtain⟨B2,E2,b2,k1,k2,k3⟩:=ih (pos+1) f1 (f2+1) seen2 T2 B' E' _ (by omega) (by omega) (by omega) (by omega) h5 h4 hb';refine⟨B2,E2,b2,ap_ (s':=ps3 L G s B' E' (pos+1) seen2 T2) ?_ k1,ap_ (s':=(((pos+1:Nat):Int),T2.map rT,seen2,bst L ((!x3)||((pos:Int)==(s.length:Int))) x2 (pos:Int) b T)) ?_ k2,k3⟩
    .unfold cU_;refine as_ hlook ?_;unfold ps3;simp only[List.length_map];rw[decide_eq_false (by omega:¬(pos:Int)>=(s.length:Int)),beq_eq_false_iff_ne.2 (by omega:((T.length:Nat):Int)≠0),Bool.or_self,cond_false,aT_ hlt];simp only[qBs];rw[k2_ (by omega) (by omega) (by omega)];simp only[qBs];rw[rep_map]at h1;rw[ag_ (by omega),show((L.length:Nat):Int).toNat=L.length from rfl];have h1:ae_ (cT_ (B',E',L,(G:Int),s,(pos:Int),seen.map bI,T.map pT) (Xk.mk L (G:Int)) ((s[pos].toNat:Nat):Int)) BIG (0,L,(G:Int),s,((pos+1:Nat):Int),List.replicate L.length 0,[],T.map pT)=some (L,(G:Int),s,((pos+1:Nat):Int),seen2.map bI,T2.map pT):=h1
     rw[h1];rfl
    .unfold cc_;simp only[List.length_map];rw[decide_eq_true (by omega:(pos:Int)<=(s.length:Int)),decide_eq_true (by omega:((T.length:Nat):Int)>0),Bool.and_self,cond_true,hnone];simp only[qBs];rw[h2,ag_ (by omega)];rfl
theorem rep_neg:∀{G:Nat},0<G->G<=10->dm_ [(-1)] (w64 (2*(G:Int)))=some (List.replicate (2*G) (-1))
 | 0,h,_=>absurd h (by decide)
 | 1,_,_=>by kernel_rfl
 | 2,_,_=>by kernel_rfl
 | 3,_,_=>by kernel_rfl
 | 4,_,_=>by kernel_rfl
 | 5,_,_=>by kernel_rfl
 | 6,_,_=>by kernel_rfl
 | 7,_,_=>by kernel_rfl
 | 8,_,_=>by kernel_rfl
 | 9,_,_=>by kernel_rfl
 | 10,_,_=>by kernel_rfl
 | n+11,_,h=>absurd h (by omega)
theorem all_neg:∀{G:Nat},0<G->G<=10->((cY_ 8 (0:Int) (w64 (2*(G:Int)))).bind λy1=>ae_ ie_ BIG (0,y1))=some (List.replicate (2*G) (-1))
 | 0,h,_=>absurd h (by decide)
 | 1,_,_=>by kernel_rfl
 | 2,_,_=>by kernel_rfl
 | 3,_,_=>by kernel_rfl
 | 4,_,_=>by kernel_rfl
 | 5,_,_=>by kernel_rfl
 | 6,_,_=>by kernel_rfl
 | 7,_,_=>by kernel_rfl
 | 8,_,_=>by kernel_rfl
 | 9,_,_=>by kernel_rfl
 | 10,_,_=>by kernel_rfl
 | n+11,_,h=>absurd h (by omega)
theorem capsOK_neg(G:Nat)(pos:Nat):CapsOK G pos [] (List.replicate (2*G) (-1)):=⟨List.length_replicate,λk hk=>⟨-1,-1,by rw[List.getElem?_replicate,if_pos (by omega)],by rw[List.getElem?_replicate,if_pos (by omega)],by omega,by omega,λh=>(by cases h),λ_ => .inl (by decide)⟩⟩
def CapsR(s:Str)(c:List Int):Prop:=∀k u v,c[2*k]? = some u->c[2*k+1]? = some v->u<0\/(0<=u/\u<=v/\v<=(s.length:Int))
theorem whole_both{L:List Xz}{G:Nat}{Lb:Nat->Option (List Nat)}(hP:ProgOK L G Lb){s:Str}(hs:s.length<=100000):∃c ok,b0_ (Xk.mk L (G:Int)) s=some (c,ok)/\d7_ (Xk.mk L (G:Int)) s=some (c,ok)/\CapsR s c/\c.length<=20:=by
 have hG:=hP.g;have hLn:=hP.n;have hcntr:(List.replicate L.length false).count false=L.length:=by simp
 obtain⟨seen,T,h1,h2,h3⟩:=add_both hP hs (Nat.zero_le _) BIG (List.replicate L.length false) [] 0 [] (List.replicate (2*G) (-1)) (by rw[List.length_replicate]) (by rw[hcntr];unfold BIG;omega) hP.z (capsOK_neg G 0) (λt ht=>by cases ht) (by rw[hcntr];simp only[List.length_nil];omega);have hfew:=h3.few;rw[hcntr]at hfew;simp only[List.length_nil]at hfew;obtain⟨B,E,b,k1,k2,k3⟩:=run_both hP hs (x3:=true) (x2:=0) s.length 0 BIG BIG seen T [] (-1) (Xs.mk [] 0 0 false) (by omega) (by unfold BIG;omega) (by unfold BIG;omega) (Nat.zero_le _) (by omega) h3.ok (.inl ⟨rfl,rfl,rfl⟩);have hrun:fc_ (Xk.mk L (G:Int)) s 0 true=some (B,E):=by
  unfold fc_;have em:cY_ 8 (0:Int) (((Xk.mk L (G:Int)).Yx.length:Nat):Int)=some (List.replicate L.length 0):=k2_ (by omega) (by show((L.length:Nat):Int)<=_;omega) (by show 8*((L.length:Nat):Int)<=_;omega);rw[em];simp only[qBs];rw[rep_neg hG.1 hG.2];simp only[qBs];have h1:al_ BIG (regex_machine.mk (Xk.mk L (G:Int)) s 0 (List.replicate L.length 0) []) 0 (List.replicate (2*G) (-1))=some (pm (Xk.mk L (G:Int)) s 0 seen T):=by
   rw[←rep_map];exact h1
  rw[h1];simp only[qBs];exact as_ k1 rfl
 have hfrom:iG_ (Xk.mk L (G:Int)) s 0 true=some b:=by
  unfold iG_;have hall:=all_neg hG.1 hG.2;cases hm:cY_ 8 (0:Int) (w64 (2*(G:Int)))with
  | none=>rw[hm]at hall;cases hall
  | some y1 =>
   rw[hm]at hall;have hall:ae_ ie_ BIG (0,y1)=some (List.replicate (2*G) (-1)):=hall;simp only[qBs];rw[hall];simp only[qBs];have hnone:bv_ (Xk.mk L (G:Int))=some (Xb.mk [] (List.replicate L.length false)):=by
    unfold bv_;rw[k2_ (by omega) (by show((L.length:Nat):Int)<=_;omega) (by show 1*((L.length:Nat):Int)<=_;omega)];rfl
   have h2:ao_ BIG (Xk.mk L (G:Int)) s (Xb.mk [] (List.replicate L.length false)) 0 0 (List.replicate (2*G) (-1))=some (rm seen T):=h2;simp only[hnone,qBs,h2,jg_];refine as_ k2 rfl
 have hcl:B.length<=20:=by
  rcases k3 with⟨_,rfl,_⟩|⟨e,_,_,hc,_⟩
  .exact Nat.zero_le _
  .rw[hc.len];omega
 have e1:aU_ B=some B:=bl_ (by simp only[List.length_nil];omega) (by simp only[List.length_nil];omega);refine⟨B,decide (E>=0),?_,?_,?_,hcl⟩
 .unfold b0_;rw[hrun];simp only[qBs];rw[e1];rfl
 .unfold d7_;rw[hfrom];have e2:room 8 ([]:List Int) B=some B:=e1;rcases k3 with⟨rfl,rfl,rfl⟩|⟨e,rfl,_,hc,x2,rfl⟩
  .rfl
  .simp only[qBs];rw[e2,decide_eq_true (by omega)];rfl
 .intro k u v hu hv;rcases k3 with⟨_,rfl,_⟩|⟨e,_,he,hc,_⟩
  .cases hu
  .have hk:k<G:=by
    have h1:=hc.len;rcases Nat.lt_or_ge (2*k) B.length with h2|h2
    .omega
    .rw[List.getElem?_eq_none h2]at hu;cases hu
   obtain⟨u',v',a1,a2,a3,a4,_,a6⟩:=hc.up k hk;rw[hu]at a1;rw[hv]at a2;obtain rfl:=qSj a1;obtain rfl:=qSj a2;rcases a6 (λh=>by cases h)with h|⟨h1,h2⟩
   .exact .inl h
   .exact .inr ⟨h1,h2,by omega⟩
theorem fZ_{α:Type}(p:α->Bool)(A:List α)(x:α):(A++[x]).filter p=if p x then A.filter p++[x]else A.filter p:=by
 rw[List.filter_append];cases h:p x with
 | true=>simp[h]
 | false=>simp[h]
theorem kq_{α:Type}(p:α->Bool)(l:List α)(j:Nat):((l.take j).filter p).length<=j:=by
 have h1:=List.length_filter_le p (l.take j);have h2:=List.length_take_le j l;omega
theorem del_go{l:List Xq}(hl:l.length<=1000000)(q:Xq->Bool):∀(k j f:Nat) (M:List Xq),l.length-j<=k->k<f->j<=l.length->M.length+((l.take j).filter λa => !(q a)).length=j ->
  ∃M':List Xq,ae_ (aO_ (λa=>some (q a))) f ((((l.take j).filter λa => !(q a)).length:Int),(j:Int),((l.take j).filter λa => !(q a))++(M++l.drop j))=some (((l.filter λa => !(q a)).length:Int),(l.filter λa => !(q a))++M')/\M'.length+(l.filter λa => !(q a)).length=l.length:=by
 intro k
 induction k with
 | zero =>
  intro j f M hk hf hj hM;obtain⟨f,rfl⟩:∃g,f=g+1:=⟨f-1,by omega⟩;have:j=l.length:=by omega
  subst this;rw[List.take_length]at hM ⊢;refine⟨M,ai_ ?_,by omega⟩;unfold aO_;simp only[];rw[List.drop_length,List.append_nil,decide_eq_false (by rw[qLa];omega)];rfl
 | succ k ih =>
  intro j f M hk hf hj hM;obtain⟨f,rfl⟩:∃g,f=g+1:=⟨f-1,by omega⟩;rcases Nat.lt_or_ge j l.length with hlt|hge
  .have hts:=ds_ hlt;obtain⟨W,hW⟩:∃W,(l.take j).filter (λa => !(q a))=W:=⟨_,rfl⟩;have hlen:(W++(M++l.drop j)).length=l.length:=by rw[qLa,qLa,List.length_drop,←hW];omega
   have hget:ah_ (W++(M++l.drop j)) (j:Int)=some l[j]:=by
    rw[bf_,←List.append_assoc,List.getElem?_append_right (by rw[qLa,←hW];omega)];rw[show j-(W++M).length=0 by rw[qLa,←hW];omega,List.drop_eq_getElem_cons hlt];rfl
   rw[hW]at hM ⊢;cases hq:q l[j]with
   | true =>
    have hf2:(l.take (j+1)).filter (λa => !(q a))=W:=by
     rw[hts,fZ_,hq,hW];rfl
    obtain⟨M',h1,h2⟩:=ih (j+1) f (M++[l[j]]) (by omega) (by omega) (by omega) (by rw[hf2,qLa];simp only[qLc,List.length_nil];omega);refine⟨M',ap_ ?_ h1,h2⟩;rw[hf2];unfold aO_;simp only[];rw[hlen,decide_eq_true (by omega),cond_true,hget];simp only[qBs];rw[hq,ag_ (i:=j) (by omega)];simp only[Bool.not_true,cond_false,qBs];rw[List.append_assoc,List.singleton_append,←List.drop_eq_getElem_cons hlt]
   | false =>
    have hf2:(l.take (j+1)).filter (λa => !(q a))=W++[l[j]]:=by
     rw[hts,fZ_,hq,hW];rfl
    -- the element goes behind those that stay
    have hset:∃M1:List Xq,(W++(M++l.drop j)).set W.length l[j]=(W++[l[j]])++(M1++l.drop (j+1))/\M1.length=M.length:=by
     cases M with
     | nil =>
      refine⟨[],?_,rfl⟩;rw[List.nil_append,List.drop_eq_getElem_cons hlt,dK_ rfl];simp
     | cons a M =>
      refine⟨M++[l[j]],?_,by simp⟩;rw[List.cons_append,dK_ rfl,List.drop_eq_getElem_cons hlt];simp
    obtain⟨M1,hset,hM1⟩:=hset;have hgw:∃a,ah_ (W++(M++l.drop j)) (W.length:Int)=some a:=⟨_,aC_ (by omega)⟩;obtain⟨a,hgw⟩:=hgw;obtain⟨M',h1,h2⟩:=ih (j+1) f M1 (by omega) (by omega) (by omega) (by rw[hf2,qLa];simp only[qLc,List.length_nil];omega);refine⟨M',ap_ ?_ h1,h2⟩;rw[hf2];unfold aO_;simp only[];rw[hlen,decide_eq_true (by omega),cond_true,hget];simp only[qBs];rw[hq];simp only[Bool.not_false,cond_true];rw[hgw];simp only[qBs];rw[show((W.length:Nat):Int).toNat=W.length from rfl,hset,ag_ (by omega),ag_ (by omega)];simp only[qLa,qLc,List.length_nil]
  .have:j=l.length:=by omega
   subst this;rw[List.take_length]at hM ⊢;refine⟨M,ai_ ?_,by omega⟩;unfold aO_;simp only[];rw[List.drop_length,List.append_nil,decide_eq_false (by rw[qLa];omega)];rfl
theorem p5_{l:List Xq}(hl:l.length<=1000000)(q:Xq->Bool):bH_ l (λa=>some (q a))=some (l.filter λa => !(q a)):=by
 unfold bH_;rw[ja_ l q (by omega)];simp only[qBs];rcases mD_ q l with⟨h1,h2⟩|⟨i,x,h1,h2,h3,h4,h5⟩
 .rw[h2,beq_self_eq_true,cond_true]
  congr 1
  rw[List.find?_eq_none]at h1;rw[List.filter_eq_self.2];intro a ha;have:=h1 a ha;simpa using this
 .have hi:i<l.length:=by
   rcases Nat.lt_or_ge i l.length with h|h
   .exact h
   .rw[List.getElem?_eq_none h]at h3;cases h3
  have hx:l[i]=x:=by rw[List.getElem?_eq_getElem hi]at h3;exact qSj h3
  have hpre:(l.take i).filter (λa => !(q a))=l.take i:=List.filter_eq_self.2 λa ha=>by
   obtain⟨j,hj⟩:=List.mem_iff_getElem?.1 ha;have hji:j<i:=by
    rcases Nat.lt_or_ge j (l.take i).length with h|h
    .rw[List.length_take]at h;omega
    .rw[List.getElem?_eq_none h]at hj;cases hj
   rw[List.getElem?_take_of_lt hji]at hj;rw[h5 j a hji hj];rfl
  have hpre1:(l.take (i+1)).filter (λa => !(q a))=l.take i:=by
   rw[ds_ hi,fZ_,hx,h4,hpre];rfl
  have hti:(l.take i).length=i:=by rw[List.length_take];omega
  obtain⟨M',k1,k2⟩:=del_go hl q (l.length) (i+1) BIG [x] (by omega) (by unfold BIG;omega) (by omega) (by rw[hpre1,hti];simp only[qLc,List.length_nil];omega);rw[hpre1,hti]at k1;have e:l.take i++([x]++l.drop (i+1))=l:=by
   rw[List.singleton_append,←hx,←List.drop_eq_getElem_cons hi,List.take_append_drop]
  rw[e]at k1;rw[h2,beq_eq_false_iff_ne.2 (by omega),cond_false,ag_ (by omega),k1];simp only[qBs];have hlen2:((l.filter λa => !(q a))++M').length=l.length:=by rw[qLa];omega
  rw[bm_ (by omega) (by omega) (Int.le_refl _)];simp only[qBs];have ec:dH_ ((l.filter λa => !(q a))++M') ((l.filter λa => !(q a)).length:Int).toNat (Xq.mk [] [] false)=(l.filter λa => !(q a))++List.replicate (l.length-(l.filter λa => !(q a)).length) (Xq.mk [] [] false):=by
   unfold dH_;rw[show((l.filter λa => !(q a)).length:Int).toNat=(l.filter λa => !(q a)).length from rfl,hlen2];rw[List.take_left]
  rw[ec,bm_ (Int.le_refl 0) (by omega) (by rw[qLa];omega)];simp only[qBs];rw[show((l.filter λa => !(q a)).length:Int).toNat=(l.filter λa => !(q a)).length from rfl,List.take_left]
theorem without_eq{l:List Xq}(hl:l.length<=1000000)(n:Str):gX_ l n=some (l.filter λa => !(a.Xc==n)):=by
 unfold gX_;have e:aH_ l=some l:=bl_ (by simp only[List.length_nil];omega) (by simp only[List.length_nil];omega);have h:=p5_ hl (λa=>a.Xc==n);refine as_ e ?_;exact as_ h rfl
theorem p6_{l:List Xq}(hl:l.length<=1000000)(n:Str):gd_ l n=some (l.filter λa => !(a.Xc==n)):=by
 unfold gd_;have h:=ff_ (body:=ez_ l n) (T:=λi=>((i:Int),(l.take i).filter λa => !(a.Xc==n))) (b:=l.filter λa => !(a.Xc==n)) l.length (aS_ (by omega)) (λi hi=>by
  have hle:=kq_ (λa:Xq => !(a.Xc==n)) l i;unfold ez_;simp only[];rw[aR_ hi,cond_true,aC_ hi,ds_ hi,fZ_,ag_ (by omega)];simp only[qBs];cases hq:(l[i]).Xc==n with
  | true=>rfl
  | false =>
   simp only[Bool.not_false,cond_true,if_true];rw[bl_ (by simp only[qLc,List.length_nil];omega) (by simp only[qLc,List.length_nil];omega)];rfl) (by
  unfold ez_;simp only[];rw[bj_,List.take_length];rfl)
 exact as_ h rfl
def bz_(n:Str)(a:Xq):Bool:=(!a.Xa)&&(a.Xc==n)
def hS_(l:List Xq)(n:Str):Str×Bool:=match l.find? (bz_ n)with|some a=>(a.Xn,true)|none=>([],false)
theorem index_eq{l:List Xq}(hl:l.length<=1000000)(n:Str):iC_ l n=some (at_ (bz_ n) l):=by
 have h:=ja_ l (bz_ n) (by omega);exact as_ h rfl
theorem find_eq{l:List Xq}(hl:l.length<=1000000)(n:Str):jr_ l n=some (hS_ l n):=by
 unfold jr_ hS_;rw[index_eq hl];simp only[qBs];rcases mD_ (bz_ n) l with⟨h1,h2⟩|⟨i,x,h1,h2,h3,_⟩
 .rw[h1,h2];rfl
 .rw[h1,h2,decide_eq_false (by omega),cond_false,bf_,h3];rfl
theorem refFind_eq{l:List Xq}(hl:l.length<=1000000)(n:Str):iF_ l n=some (hS_ l n):=by
 unfold iF_ hS_;have h:=bp_ (body:=ge_ l n) l (λ_ a=>if bz_ n a=true then some (a.Xn,true)else none) (aS_ (by omega)) (λi hi=>by
  unfold ge_ bz_;rw[aR_ hi,cond_true,aC_ hi];simp only[qBs];cases(l[i]).Xc==n with
  | true =>
   cases(l[i]).Xa with
   | true =>
    simp only[cond_true,qBs,Bool.not_true,cond_false,Bool.false_and,Bool.false_eq_true,if_false,ec_];rw[ag_ (by omega)]
   | false=>rfl
  | false =>
   simp only[cond_false,qBs,Bool.and_false,Bool.false_eq_true,if_false,ec_];rw[ag_ (by omega)]) (by
  unfold ge_;rw[bj_];rfl)
 refine(bX_ (x:=(([],false):Str×Bool)) h (λr=>rfl) rfl).trans ?_;rw[fg_ (bz_ n) (λa=>(a.Xn,true))];cases l.find? (bz_ n)<;>rfl
def gMat(x:List Xq)(_:Nat)(a:Xq):Option Bool:=if((!(hS_ x a.Xc).2)||((!a.Xa)&&(!((hS_ x a.Xc).1==a.Xn))))=true then some false else none
def matchA(x l:List Xq):Bool:=(bh_ (gMat x) 0 l).getD true
theorem matches_eq{x l:List Xq}(hx:x.length<=1000000)(hl:l.length<=1000000):gZ_ x l=some (matchA x l):=by
 unfold gZ_ matchA;refine bX_ (bp_ l (gMat x) (aS_ (by omega)) (λi hi => ?_) ?_) (λr=>rfl) rfl
 .unfold gY_ gMat;rw[aR_ hi,cond_true,aC_ hi];simp only[qBs];rw[find_eq hx];simp only[qBs];cases((!(hS_ x (l[i]).Xc).2)||((!(l[i]).Xa)&&(!((hS_ x (l[i]).Xc).1==(l[i]).Xn))))with
  | true=>rfl
  | false =>
   simp only[cond_false,Bool.false_eq_true,if_false,ec_];rw[ag_ (by omega)]
 .unfold gY_;rw[bj_];rfl
theorem p7_{x l:List Xq}(hx:x.length<=1000000)(hl:l.length<=1000000):gf_ x l=some (matchA x l):=by
 unfold gf_ matchA;refine bX_ (bp_ l (gMat x) (aS_ (by omega)) (λi hi => ?_) ?_) (λr=>rfl) rfl
 .unfold gr_ gMat;rw[aR_ hi,cond_true,aC_ hi];simp only[qBs];rw[refFind_eq hx];simp only[qBs];cases(hS_ x (l[i]).Xc).2 with
  | false=>rfl
  | true =>
   cases(l[i]).Xa with
   | true =>
    simp only[Bool.not_true,cond_false,qBs,Bool.false_or,Bool.false_and,Bool.false_eq_true,if_false,ec_];rw[ag_ (by omega)]
   | false =>
    cases(hS_ x (l[i]).Xc).1==(l[i]).Xn with
    | false=>rfl
    | true =>
     simp only[Bool.not_true,Bool.not_false,cond_false,cond_true,qBs,Bool.false_or,Bool.and_false,Bool.false_eq_true,if_false,ec_];rw[ag_ (by omega)]
 .unfold gr_;rw[bj_];rfl
def updA(v:Str)(a:Xq):Xq:=Xq.mk a.Xc v a.Xa
def ep_(n v:Str):List Xq->List Xq | []=>[]|a::l=>if bz_ n a=true then updA v a::l else a::ep_ n v l
def setA(l:List Xq)(n v:Str):List Xq:=if l.any (bz_ n)=true then ep_ n v l else l++[Xq.mk n v false]
theorem nj_(n v:Str):∀l:List Xq,(ep_ n v l).length=l.length
 | []=>rfl
 | a::l=>by
  unfold ep_;split
  .rfl
  .rw[qLc,nj_ n v l,qLc]
theorem repl_none(n v:Str):∀l:List Xq,l.any (bz_ n)=false->ep_ n v l=l
 | [],_=>rfl
 | a::l,h=>by
  rw[List.any_cons,Bool.or_eq_false_iff]at h;unfold ep_;rw[h.1,repl_none n v l h.2];rfl
theorem repl_snoc(n v:Str):∀(A:List Xq) (x:Xq),ep_ n v (A++[x])=if A.any (bz_ n)=true then ep_ n v A++[x]else ep_ n v A++[if bz_ n x=true then updA v x else x]
 | [],x=>by
  show(if bz_ n x=true then[updA v x]else[x])=_;cases bz_ n x<;>rfl
 | a::A,x=>by
  rw[List.cons_append];unfold ep_;rw[List.any_cons];cases h:bz_ n a with
  | true=>simp
  | false =>
   simp only[Bool.false_eq_true,if_false,Bool.false_or];rw[repl_snoc n v A x];split<;>rfl
theorem repl_set(n v:Str):∀(l:List Xq) (i:Nat) (x:Xq),l[i]? = some x->bz_ n x=true->(∀j y,j<i->l[j]? = some y->bz_ n y=false)->l.set i (updA v x)=ep_ n v l
 | [],_,_,h,_,_=>by cases h
 | a::l,0,x,h,hp,_=>by
  obtain rfl:=qSj h;unfold ep_;rw[if_pos hp];rfl
 | a::l,i+1,x,h,hp,hall=>by
  have h0:=hall 0 a (Nat.succ_pos _) rfl;unfold ep_;rw[h0,List.set_cons_succ,repl_set n v l i x h hp λj y hj hy=>hall (j+1) y (by omega) hy];rfl
theorem set_eq{l:List Xq}(hl:l.length<=1000000)(n v:Str):k0_ l n v=some (setA l n v):=by
 unfold k0_ setA;have e:aH_ l=some l:=bl_ (by simp only[List.length_nil];omega) (by simp only[List.length_nil];omega);rw[e];simp only[qBs];rw[index_eq hl];simp only[qBs];rw[at_any];rcases mD_ (bz_ n) l with⟨h1,h2⟩|⟨i,x,h1,h2,h3,h4,h5⟩
 .have ha:l.any (bz_ n)=false:=by
   rw[List.any_eq_false];exact λa h=>List.find?_eq_none.1 h1 a h
  rw[ha,cond_false,bl_ (by simp only[qLc,List.length_nil];omega) (by simp only[qLc,List.length_nil];omega)];rfl
 .have ha:l.any (bz_ n)=true:=List.any_eq_true.2 ⟨x,List.mem_of_getElem? h3,h4⟩;rw[ha,cond_true,h2,bf_,h3,if_pos rfl];simp only[qBs]
  congr 1
  exact repl_set n v l i x h3 h4 h5
theorem refSet_eq{l:List Xq}(hl:l.length<=1000000)(n v:Str):jt_ l n v=some (setA l n v):=by
 unfold jt_ setA;have h:=ff_ (body:=g6_ l n v) (T:=λi=>((l.take i).any (bz_ n),(i:Int),ep_ n v (l.take i))) (b:=(l.any (bz_ n),ep_ n v l)) l.length (aS_ (by omega)) (λi hi=>by
  have hle:(ep_ n v (l.take i)).length<=l.length:=by rw[nj_,List.length_take];omega
  have hr:∀y:Xq,room 40 (ep_ n v (l.take i)) [y]=some (ep_ n v (l.take i)++[y]):=λy=>bl_ (by simp only[qLc,List.length_nil];omega) (by simp only[qLc,List.length_nil];omega)
  unfold g6_;simp only[];rw[aR_ hi,cond_true,aC_ hi,ds_ hi,repl_snoc,List.any_append,ag_ (by omega)];simp only[qBs];have h1:([l[i]].any (bz_ n))=bz_ n l[i]:=by simp
  rw[h1];have hp:bz_ n l[i]=((!(l[i]).Xa)&&((l[i]).Xc==n)):=rfl;cases ha:(l.take i).any (bz_ n)with
  | true =>
   simp only[Bool.not_true,Bool.false_and,cond_false,qBs,Bool.true_or,if_true];rw[hr];rfl
  | false =>
   cases hN:(l[i]).Xc==n with
   | false =>
    rw[hp,hN];simp only[Bool.and_false,Bool.false_and,cond_false,qBs,Bool.or_false,Bool.false_eq_true,if_false];rw[hr];rfl
   | true =>
    cases hQ:(l[i]).Xa with
    | true =>
     rw[hp,hN,hQ];simp only[Bool.not_true,Bool.and_false,Bool.false_and,cond_false,qBs,Bool.or_false,Bool.false_eq_true,if_false];rw[hr];rfl
    | false =>
     rw[hp,hN,hQ];simp only[Bool.not_false,Bool.and_self,cond_true,qBs,Bool.or_true,Bool.false_eq_true,if_false,if_true];rw[hr];unfold updA;rw[hQ];rfl) (by
  unfold g6_;simp only[];rw[bj_,List.take_length];rfl)
 refine as_ h ?_;simp only[];cases ha:l.any (bz_ n)with
 | true=>rfl
 | false =>
  simp only[Bool.not_false,cond_true,Bool.false_eq_true,if_false];rw[repl_none n v l ha,bl_ (by simp only[qLc,List.length_nil];omega) (by simp only[qLc,List.length_nil];omega)];rfl
structure AttrB(k:Nat)(l:List Xq):Prop where
 n:l.length<=k
 ls:∀a∈l,a.Xc.length<=100000/\a.Xn.length<=100000
theorem AttrB.mono{k m:Nat}{l:List Xq}(h:AttrB k l)(hk:k<=m):AttrB m l:=⟨Nat.le_trans h.n hk,h.ls⟩
theorem AttrB.attrL{k:Nat}{l:List Xq}(h:AttrB k l)(hk:k<=1000000):AttrL l:=⟨by have:=h.n;omega,λa ha=>by have:=(h.ls a ha).1;omega,λa ha=>by have:=(h.ls a ha).2;omega⟩
theorem AttrB.filter{k:Nat}{l:List Xq}(h:AttrB k l)(p:Xq->Bool):AttrB k (l.filter p):=⟨Nat.le_trans (List.length_filter_le p l) h.n,λa ha=>h.ls a (List.mem_filter.1 ha).1⟩
theorem mem_repl{n v:Str}:∀{l:List Xq} {a:Xq},a∈ep_ n v l->a∈l\/∃b∈l,a=updA v b
 | b::l,a,h=>by
  unfold ep_ at h;split at h
  .rcases List.mem_cons.1 h with h|h
   .exact .inr ⟨b,List.mem_cons_self,h⟩
   .exact .inl (List.mem_cons_of_mem _ h)
  .rcases List.mem_cons.1 h with h|h
   .exact .inl (h▸List.mem_cons_self)
   .rcases mem_repl h with h|⟨c,hc,h⟩
    .exact .inl (List.mem_cons_of_mem _ h)
    .exact .inr ⟨c,List.mem_cons_of_mem _ hc,h⟩
theorem AttrB.set{k:Nat}{l:List Xq}(h:AttrB k l){n v:Str}(hn:n.length<=100000)(hv:v.length<=100000):AttrB (k+1) (setA l n v):=by
 unfold setA;split
 .refine⟨by rw[nj_];have:=h.n;omega,λa ha => ?_⟩;rcases mem_repl ha with ha|⟨b,hb,rfl⟩
  .exact h.ls a ha
  .exact⟨(h.ls b hb).1,hv⟩
 .refine⟨by rw[qLa];have:=h.n;simp only[qLc,List.length_nil];omega,λa ha => ?_⟩;rcases List.mem_append.1 ha with ha|ha
  .exact h.ls a ha
  .rw[List.mem_singleton.1 ha];exact⟨hn,hv⟩
def cz_(x:List Xq)(l:List Xq):List Xq:=l.foldl (λacc a=>setA acc a.Xc a.Xn) x
theorem jW_(x A:List Xq)(a:Xq):cz_ x (A++[a])=setA (cz_ x A) a.Xc a.Xn:=by unfold cz_;rw[List.foldl_append];rfl
theorem le_{k:Nat}{x:List Xq}(h:AttrB k x):∀(l:List Xq) (i:Nat),i<=l.length->(∀a∈l,a.Xc.length<=100000/\a.Xn.length<=100000)->AttrB (k+i) (cz_ x (l.take i))
 | l,0,_,_=>by rw[List.take_zero];exact h
 | l,i+1,hi,hl=>by
  have:=le_ h l i (by omega) hl;rw[ds_ (by omega),jW_];have ha:=hl _ (List.getElem_mem (show i<l.length by omega));exact this.set ha.1 ha.2
def hT_(m:Xx)(A:List Xq):Xx:=Xx.mk m.Xd m.Xr m.Xt m.Xf A m.Xm
theorem attrs_both {m:Xx} {text:Str} {caps:List Int} {port verb arg:Str} {k:Nat} (hk:k<=100000) (hA:AttrB k m.Xv) (ha:arg.length<=100000):∃ok A,cB_ (plumb_state.mk m text caps port) verb arg=some (ok,plumb_state.mk (hT_ m A) text caps port)/\(∃m2,fV_ m verb arg=some (m2,ok)/\(ok=true->m2=hT_ m A))/\AttrB (k+32) A:=by
 have hn:=hA.n;unfold cB_ fV_;cases hd:verb==[100,101,108,101,116,101]with
 | true =>
  refine⟨true,m.Xv.filter λa => !(a.Xc==arg),?_,⟨hT_ m (m.Xv.filter λa => !(a.Xc==arg)),?_,λ_=>rfl⟩,(hA.filter _).mono (by omega)⟩
  .simp only[cond_true];rw[without_eq (by omega)];rfl
  .simp only[cond_true];rw[p6_ (by omega)];rfl
 | false =>
  simp only[cond_false];obtain⟨r,hr⟩:=PR.ex arg.length 0 [] (by omega) (Nat.zero_le _) (s:=arg);obtain⟨hl1,hl2⟩:=hr.lens (Nat.zero_le _) (λa ha=>nomatch ha);rw[parse_eq (by omega) hr,refParse_eq (by omega) hr];simp only[qBs];cases he:r.2.2 != 0 with
  | true=>exact⟨false,m.Xv,rfl,⟨m,rfl,λe=>by cases e⟩,hA.mono (by omega)⟩
  | false =>
   simp only[cond_false];cases hadd:verb==[97,100,100]with
   | false =>
    refine⟨(matchA m.Xv r.1==(verb==[105,115])),m.Xv,?_,⟨m,?_,λ_=>rfl⟩,hA.mono (by omega)⟩
    .simp only[Bool.not_false,cond_true];rw[matches_eq (by omega) (by omega)];rfl
    .simp only[Bool.not_false,cond_true];rw[p7_ (by omega) (by omega)];rfl
   | true =>
    simp only[Bool.not_true,cond_false];have hq:eD_ r.1=some (r.1.any (·.Xa)):=by
     have:=ha_ r.1 (·.Xa) (by omega);exact as_ this rfl
    have hls:∀a∈r.1,a.Xc.length<=100000/\a.Xn.length<=100000:=λa h=>by have:=hl2 a h;omega
    have hall:=le_ hA r.1 r.1.length (Nat.le_refl _) hls;rw[List.take_length]at hall
    -- the reference's loop
    have href:∀(j i f:Nat),r.1.length-i<=j->j<f->i<=r.1.length->((r.1.drop i).any (·.Xa)=true->∃m2,ae_ bQ_ f ((i:Int),m.Xd,m.Xr,m.Xt,m.Xf,cz_ m.Xv (r.1.take i),m.Xm,r.1)=some (.ret (m2,false)))/\((r.1.drop i).any (·.Xa)=false->ae_ bQ_ f ((i:Int),m.Xd,m.Xr,m.Xt,m.Xf,cz_ m.Xv (r.1.take i),m.Xm,r.1)=some (.fall (hT_ m (cz_ m.Xv r.1)))):=by
     have hend:∀f,ae_ bQ_ (f+1) ((r.1.length:Int),m.Xd,m.Xr,m.Xt,m.Xf,cz_ m.Xv (r.1.take r.1.length),m.Xm,r.1)=some (.fall (hT_ m (cz_ m.Xv r.1))):=by
      intro f;refine ai_ ?_;unfold bQ_;simp only[];rw[bj_,List.take_length];rfl
     intro j
     induction j with
     | zero =>
      intro i f hj hf hi;obtain⟨f,rfl⟩:∃g,f=g+1:=⟨f-1,by omega⟩;have:i=r.1.length:=by omega
      subst this;exact⟨λh=>(by rw[List.drop_length]at h;cases h),λ_=>hend f⟩
     | succ j ih =>
      intro i f hj hf hi;obtain⟨f,rfl⟩:∃g,f=g+1:=⟨f-1,by omega⟩;rcases Nat.lt_or_ge i r.1.length with hlt|hge
      .have hst:bQ_ ((i:Int),m.Xd,m.Xr,m.Xt,m.Xf,cz_ m.Xv (r.1.take i),m.Xm,r.1)=(bif(r.1[i]).Xa then some (.done (.ret (hT_ m (cz_ m.Xv (r.1.take i)),false)))else some (.next (((i+1:Nat):Int),m.Xd,m.Xr,m.Xt,m.Xf,cz_ m.Xv (r.1.take (i+1)),m.Xm,r.1))):=by
        unfold bQ_;simp only[];rw[aR_ hlt,cond_true,aC_ hlt];simp only[qBs];have hb:=(le_ hA r.1 i (by omega) hls).n;rw[refSet_eq (by omega),ds_ hlt,jW_,ag_ (by omega)];rfl
       rw[List.drop_eq_getElem_cons hlt,List.any_cons];cases hqi:(r.1[i]).Xa with
       | true =>
        rw[hqi]at hst;exact⟨λ_=>⟨_,ai_ hst⟩,λh=>(by cases h)⟩
       | false =>
        rw[hqi]at hst;have hst:bQ_ ((i:Int),m.Xd,m.Xr,m.Xt,m.Xf,cz_ m.Xv (r.1.take i),m.Xm,r.1)=some (.next (((i+1:Nat):Int),m.Xd,m.Xr,m.Xt,m.Xf,cz_ m.Xv (r.1.take (i+1)),m.Xm,r.1)):=hst;obtain⟨i1,i2⟩:=ih (i+1) f (by omega) (by omega) (by omega);refine⟨λh => ?_,λh => ?_⟩
        .obtain⟨m2,h2⟩:=i1 h;exact⟨m2,ap_ hst h2⟩
        .exact ap_ hst (i2 h)
      .have:i=r.1.length:=by omega
       subst this;exact⟨λh=>(by rw[List.drop_length]at h;cases h),λ_=>hend f⟩
    obtain⟨h1,h2⟩:=href r.1.length 0 BIG (by omega) (by unfold BIG;omega) (Nat.zero_le _);rw[List.drop_zero]at h1 h2;rw[hq];simp only[qBs];cases hany:r.1.any (·.Xa)with
    | true =>
     obtain⟨m2,h3⟩:=h1 hany;have h3:ae_ bQ_ BIG (0,m.Xd,m.Xr,m.Xt,m.Xf,m.Xv,m.Xm,r.1)=some (.ret (m2,false)):=h3;refine⟨false,m.Xv,rfl,⟨m2,?_,λe=>by cases e⟩,hA.mono (by omega)⟩;rw[h3];rfl
    | false =>
     have h3:ae_ bQ_ BIG (0,m.Xd,m.Xr,m.Xt,m.Xf,m.Xv,m.Xm,r.1)=some (.fall (hT_ m (cz_ m.Xv r.1))):=h2 hany;have h4:=ff_ (body:=cv_ r) (T:=λi=>((i:Int),m.Xd,m.Xr,m.Xt,m.Xf,cz_ m.Xv (r.1.take i),m.Xm,text,caps,port,r.1)) (b:=plumb_state.mk (hT_ m (cz_ m.Xv r.1)) text caps port) r.1.length (aS_ (by omega)) (λi hi=>by
      unfold cv_;simp only[];rw[aR_ hi,cond_true,aC_ hi];simp only[qBs];have hb:=(le_ hA r.1 i (by omega) hls).n;rw[set_eq (by omega),ds_ hi,jW_,ag_ (by omega)];rfl) (by
      unfold cv_;simp only[];rw[bj_,List.take_length];rfl)
     have h4:ae_ (cv_ r) BIG (0,m.Xd,m.Xr,m.Xt,m.Xf,m.Xv,m.Xm,text,caps,port,r.1)=some (plumb_state.mk (hT_ m (cz_ m.Xv r.1)) text caps port):=h4;refine⟨true,cz_ m.Xv r.1,?_,⟨_,?_,λ_=>rfl⟩,hall.mono (by omega)⟩
     .simp only[cond_false];rw[h4];rfl
     .rw[h3];rfl
end Go.Proofs.YtbdcelleafhelaaGreatDoor
