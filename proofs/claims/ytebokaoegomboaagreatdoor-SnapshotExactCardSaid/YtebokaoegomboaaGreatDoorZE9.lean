/-
 What the statements of this seat hang on,part 9: Hz Hza Hzb Hzc Hzd Uc Hzh Hzi Hzj Hzk Hzl Ud Ue Uf.
-/
import Derived.Test.YtebokaoegomboaaGreatDoorZE8
namespace Go.Proofs.YtebokaoegomboaaGreatDoor
open Go.Rt Go.RowKit
def nD(s:Str)(w a:Nat):Option (Int×Nat):=if s.length-a<w\/leV (win s a w)>9223372036854775807 then none else some ((leV (win s a w):Int),a+w)
def tD(s:Str)(a:Nat):Option (Str×Nat):=takeT s a
def sD(s:Str)(a:Nat):Option (Str×Nat):=if s.length-a<32 then none else some (win s a 32,a+32)
theorem lj_{s:Str}{w a a':Nat}{v:Int}(ha:a<=s.length)(h:nD s w a=some (v,a')):a'<=s.length/\a'=a+w/\0<=v/\v<=9223372036854775807:=by
 unfold nD at h;split at h
 .cases h
 .simp only[qOi,Prod.mk.injEq]at h;omega
theorem sD_le{s t:Str}{a a':Nat}(ha:a<=s.length)(h:sD s a=some (t,a')):a'<=s.length/\a'=a+32/\t.length=32:=by
 unfold sD at h;split at h
 .cases h
 .simp only[qOi,Prod.mk.injEq]at h;obtain⟨h1,h2⟩:=h;refine⟨by omega,by omega,?_⟩;rw[←h1,jp_ (by omega)]
def DS(s:Str)(o:Option Nat)(d:Yh):Prop:=d.s_=s/\d.Zv=o.isNone/\∃a:Nat,d.at_=(a:Int)/\a<=s.length/\∀b,o=some b->a=b
def RS(s:Str)(o:Option Nat)(d:Yc):Prop:=d.S_=s/\d.Zf=o.isNone/\∃a:Nat,d.At_=(a:Int)/\a<=s.length/\∀b,o=some b->a=b
theorem lk_{s:Str}(hs:s.length<=2000000){o:Option Nat}{d:Yh}(h:DS s o d){w:Nat}(h1:1<=w)(h8:w<=8) :
  ∃v d',ax_ d (w:Int)=some (v,d')/\DS s (o.bind λ a=>(nD s w a).map (·.2)) d'/\∀a q,o=some a->nD s w a=some q->v=q.1:=by
 obtain⟨e1,e2,a,e3,e4,e5⟩:=h;unfold ax_;rw[e1,e3];have hg:=get_eq s a w h1 h8 e4 (by omega);cases o with
 | none =>
  refine⟨_,_,aa_ hg (ah_ (by rw[e2];rfl) rfl),⟨rfl,rfl,a,rfl,e4,λ b hb=>by cases hb⟩,λ a q ha=>by cases ha⟩
 | some b =>
  obtain rfl:=e5 b rfl;simp only[qBs];unfold nD;by_cases c1:s.length-a<w
  .rw[if_pos c1]at hg;rw[if_pos (.inl c1)];exact⟨_,_,aa_ hg (ah_ (by rw[e2];rfl) rfl),⟨rfl,rfl,a,rfl,e4,λ b hb=>by cases hb⟩,λ a q ha hq=>by
    obtain rfl:=qSj ha;rw[if_pos (.inl c1)]at hq;cases hq⟩
  .rw[if_neg c1]at hg;by_cases c2:leV (win s a w)>9223372036854775807
   .rw[if_pos c2]at hg;rw[if_pos (.inr c2)];exact⟨_,_,aa_ hg (ah_ (by rw[e2];rfl) rfl),⟨rfl,rfl,a,rfl,e4,λ b hb=>by cases hb⟩,λ a q ha hq=>by
     obtain rfl:=qSj ha;rw[if_pos (.inr c2)]at hq;cases hq⟩
   .rw[if_neg c2]at hg;rw[if_neg (by omega)];exact⟨_,_,aa_ hg (ac_ (by rw[e2];rfl) rfl),⟨rfl,e2,a+w,rfl,by omega,λ b hb=>(qSj hb).symm▸rfl⟩,λ a q ha hq=>by
     obtain rfl:=qSj ha;rw[if_neg (by omega)]at hq;obtain rfl:=qSj hq;rfl⟩
theorem d_text{s:Str}(hs:s.length<=2000000){o:Option Nat}{d:Yh}(h:DS s o d) :
  ∃v d',ca_ d=some (v,d')/\DS s (o.bind λ a=>(tD s a).map (·.2)) d'/\∀a q,o=some a->tD s a=some q->v=q.1:=by
 obtain⟨e1,e2,a,e3,e4,e5⟩:=h;unfold ca_;rw[e1,e3];have hg:=gettext_eq s a e4 hs;cases o with
 | none =>
  refine⟨_,_,aa_ hg (ah_ (by rw[e2];rfl) rfl),⟨rfl,rfl,a,rfl,e4,λ b hb=>by cases hb⟩,λ a q ha=>by cases ha⟩
 | some b =>
  obtain rfl:=e5 b rfl;simp only[qBs];unfold tD;cases ht:takeT s a with
  | none =>
   rw[ht]at hg;exact⟨_,_,aa_ hg (ah_ (by rw[e2];rfl) rfl),⟨rfl,rfl,a,rfl,e4,λ b hb=>by cases hb⟩,λ a q ha hq=>by
    obtain rfl:=qSj ha;rw[ht]at hq;cases hq⟩
  | some p =>
   obtain⟨t,p⟩:=p;rw[ht]at hg;exact⟨_,_,aa_ hg (ac_ (by rw[e2];rfl) rfl),⟨rfl,e2,p,rfl,(nl_ ht).1,λ b hb=>qSj hb⟩,λ a q ha hq=>by
    obtain rfl:=qSj ha;rw[ht]at hq;obtain rfl:=qSj hq;rfl⟩
theorem d_score{s:Str}(hs:s.length<=2000000){o:Option Nat}{d:Yh}(h:DS s o d) :
  ∃v d',dU_ d=some (v,d')/\DS s (o.bind λ a=>(sD s a).map (·.2)) d'/\∀a q,o=some a->sD s a=some q->v=q.1:=by
 obtain⟨e1,e2,a,e3,e4,e5⟩:=h;unfold dU_;rw[e1,e3];have el:w64 ((s.length:Int)-(a:Int))=((s.length-a:Nat):Int):=by rw[ap_ ⟨by omega,by omega⟩];omega
 rw[el];cases o with
 | none =>
  refine⟨_,_,ah_ (by rw[e2];rfl) rfl,⟨rfl,rfl,a,rfl,e4,λ b hb=>by cases hb⟩,λ a q ha=>by cases ha⟩
 | some b =>
  obtain rfl:=e5 b rfl;simp only[qBs];unfold sD;by_cases c1:s.length-a<32
  .rw[if_pos c1];exact⟨_,_,ah_ (by rw[e2];simp;omega) rfl,⟨rfl,rfl,a,rfl,e4,λ b hb=>by cases hb⟩,λ a q ha hq=>by
    obtain rfl:=qSj ha;rw[if_pos c1]at hq;cases hq⟩
  .rw[if_neg c1];have w1:w64 ((a:Int)+32)=((a+32:Nat):Int):=by rw[ap_ ⟨by omega,by omega⟩];rfl
   have w2:w64 (((a+32:Nat):Int)-32)=(a:Int):=by rw[ap_ ⟨by omega,by omega⟩];omega
   have hsub:bD_ s (w64 ((w64 ((a:Int)+32))-32)) (w64 ((a:Int)+32))=some (win s a 32):=by
    rw[w1,w2,ch_ (by omega) (by omega) (by omega),qTn,qTn,List.drop_take,Nat.add_sub_cancel_left];rfl
   exact⟨_,_,ac_ (by rw[e2];simp;omega) (aa_ hsub rfl),⟨rfl,e2,a+32,w1,by omega,λ b hb=>qSj hb⟩,λ a q ha hq=>by
    obtain rfl:=qSj ha;rw[if_neg c1]at hq;obtain rfl:=qSj hq;rfl⟩
theorem kd_{s:Str}(hs:s.length<=2000000){o:Option Nat}{d:Yc}(h:RS s o d){w:Nat}(h1:1<=w)(h8:w<=8) :
  ∃v d',aC_ d (w:Int)=some (v,d')/\RS s (o.bind λ a=>(nD s w a).map (·.2)) d'/\∀a q,o=some a->nD s w a=some q->v=q.1:=by
 obtain⟨e1,e2,a,e3,e4,e5⟩:=h;unfold aC_;have el:w64 ((s.length:Int)-(a:Int))=((s.length-a:Nat):Int):=by rw[ap_ ⟨by omega,by omega⟩];omega
 cases o with
 | none =>
  refine⟨_,_,ah_ (by rw[e2];rfl) rfl,⟨e1,rfl,a,e3,e4,λ b hb=>by cases hb⟩,λ a q ha=>by cases ha⟩
 | some b =>
  obtain rfl:=e5 b rfl;simp only[qBs];by_cases c1:s.length-a<w
  .unfold nD;rw[if_pos (.inl c1)];exact⟨_,_,ah_ (by rw[e1,e2,e3,el];simp;omega) rfl,⟨e1,rfl,a,e3,e4,λ b hb=>by cases hb⟩,λ a q ha hq=>by
    obtain rfl:=qSj ha;rw[if_pos (.inl c1)]at hq;cases hq⟩
  .have h:a+w<=s.length:=by omega
   have hc:(d.Zf||decide ((w64 ((d.S_.length:Int)-d.At_))<(w:Int)))=false:=by rw[e1,e2,e3,el];simp;omega
   have hdl:∀j,j<=w->((win s a w).drop (w-j)).length=j:=λ j hj=>by rw[List.length_drop,jp_ h];omega
   have hlv:∀j,j<=w->leV ((win s a w).drop (w-j))<2^(8*j):=λ j hj=>by
    have:=leV_lt ((win s a w).drop (w-j))
    rwa [hdl j hj]at this
   have hstep:∀j,j<w->leV ((win s a w).drop (w-j))<36028797018963968->b7_ d (((leV ((win s a w).drop (w-j)):Nat):Int),(w:Int)-1-(j:Int))=some (.next (((leV ((win s a w).drop (w-(j+1))):Nat):Int),(w:Int)-1-((j+1:Nat):Int))):=λ j hj hlt=>by
    unfold b7_;refine ah_ (by simp;omega) (ac_ (by simp;omega) ?_);have ei:w64 (d.At_+((w:Int)-1-(j:Int)))=((a+(w-1-j):Nat):Int):=by
     rw[e3,ap_ ⟨by omega,by omega⟩];omega
    show Option.bind (ci_ d.S_ (w64 (d.At_+((w:Int)-1-(j:Int))))) _=_;rw[ei,e1];refine aa_ (kD_ (by omega)) ?_;rw[pP_ h hj];simp only[leV];generalize s[a+(w-1-j)]'(by omega)=b;have hb:=b.toNat_lt;generalize leV ((win s a w).drop (w-j))=v at hlt ⊢;show some (Step.next (w64 ((w64 ((v:Int)*256))+(w64 (b.toNat:Int))),w64 ((w:Int)-1-(j:Int)-1)))=_;rw[ap_ (n:=(v:Int)*256) ⟨by omega,by omega⟩,ap_ (n:=(b.toNat:Int)) ⟨by omega,by omega⟩,ap_ (n:=(v:Int)*256+(b.toNat:Int)) ⟨by omega,by omega⟩,ap_ ⟨by omega,by omega⟩]
    congr 3
    .omega
    .omega
   have hsmall:∀j,j<w->j<=6->leV ((win s a w).drop (w-j))<36028797018963968:=λ j hj h6=>by
    have:=hlv j (by omega);have hp:2^(8*j)<=2^48:=Nat.pow_le_pow_right (by omega) (by omega);omega
   have hfull:(win s a w).drop (w-w)=win s a w:=by simp
   have e0:(win s a w).drop (w-0)=[]:=List.drop_eq_nil_of_le (by rw[jp_ h];omega);have estart:((0:Int),w64 ((w:Int)-1))=(((leV ((win s a w).drop (w-0)):Nat):Int),(w:Int)-1-((0:Nat):Int)):=by
    rw[e0,ap_ ⟨by omega,by omega⟩];simp[leV]
   by_cases c2:leV (win s a w)>9223372036854775807
   .
    have hw8:w=8:=by
     have:=hlv w (Nat.le_refl _);rw[hfull]at this;rcases Nat.lt_or_ge w 8 with h'|h'
     .have hp:2^(8*w)<=2^56:=Nat.pow_le_pow_right (by omega) (by omega);omega
     .omega
    subst hw8;have h7:¬leV ((win s a 8).drop (8-7))<36028797018963968:=by
     have hd:=pP_ (s:=s) (at_:=a) (w:=8) (j:=7) h (by omega);have e8:(win s a 8).drop (8-(7+1))=win s a 8:=by simp
     rw[e8]at hd;rw[hd]at c2;simp only[leV]at c2;have:=(s[a+(8-1-7)]'(by omega)).toNat_lt;omega
    have hl:ak_ (b7_ d) BIG (0,w64 (((8:Nat):Int)-1))=some (.ret (0,Yc.mk d.S_ d.At_ true)):=by
     rw[estart];refine aU_ (T:=λ j=>(((leV ((win s a 8).drop (8-j)):Nat):Int),((8:Nat):Int)-1-(j:Int))) 7 (by decide) (λ j hj=>hstep j (by omega) (hsmall j (by omega) (by omega))) ?_;unfold b7_;exact ah_ (by show decide (((8:Nat):Int)-1-((7:Nat):Int)>=0)=true;decide) (ah_ (by show decide (((leV ((win s a 8).drop (8-7)):Nat):Int)>=36028797018963968)=true;simp only[qDe];omega) rfl)
    unfold nD;rw[if_pos (.inr c2)];exact⟨_,_,ac_ hc (aa_ hl rfl),⟨e1,rfl,a,e3,e4,λ b hb=>by cases hb⟩,λ a q ha hq=>by
     obtain rfl:=qSj ha;rw[if_pos (.inr c2)]at hq;cases hq⟩
   .have hl:ak_ (b7_ d) BIG (0,w64 ((w:Int)-1))=some (.fall ((leV (win s a w):Nat):Int)):=by
     rw[estart];refine aU_ (T:=λ j=>(((leV ((win s a w).drop (w-j)):Nat):Int),(w:Int)-1-(j:Int))) w (bP_ (by omega)) (λ j hj=>hstep j hj ?_) ?_
     .rcases Nat.lt_or_ge 6 j with h6|h6
      .have:j=7/\w=8:=by omega
       obtain⟨rfl,rfl⟩:=this;have hd:=pP_ (s:=s) (at_:=a) (w:=8) (j:=7) h (by omega);have e8:(win s a 8).drop (8-(7+1))=win s a 8:=by simp
       rw[e8]at hd;rw[hd]at c2;simp only[leV]at c2;omega
      .exact hsmall j hj h6
     .unfold b7_;refine ac_ (by simp;omega) ?_;rw[hfull]
    unfold nD;rw[if_neg (by omega)];refine⟨_,_,ac_ hc (aa_ hl rfl),⟨e1,e2,a+w,?_,by omega,λ b hb=>qSj hb⟩,λ a q ha hq=>by
     obtain rfl:=qSj ha;rw[if_neg (by omega)]at hq;obtain rfl:=qSj hq;rfl⟩
    show w64 (d.At_+(w:Int))=_;rw[e3,ap_ ⟨by omega,by omega⟩];rfl
theorem r_text{s:Str}(hs:s.length<=2000000){o:Option Nat}{d:Yc}(h:RS s o d)(n:Nat)(hn:n<=1000000) :
  ∃v d',bK_ d (n:Int)=some (v,d')/\RS s (o.bind λ a=>if s.length-a<n then none else some (a+n)) d'/\∀a,o=some a->¬s.length-a<n->v=win s a n:=by
 obtain⟨e1,e2,a,e3,e4,e5⟩:=h;unfold bK_;have el:w64 ((s.length:Int)-(a:Int))=((s.length-a:Nat):Int):=by rw[ap_ ⟨by omega,by omega⟩];omega
 rw[e1,e3,el];cases o with
 | none =>
  exact⟨_,_,ah_ (by rw[e2];rfl) rfl,⟨rfl,rfl,a,rfl,e4,λ b hb=>by cases hb⟩,λ a ha=>by cases ha⟩
 | some b =>
  obtain rfl:=e5 b rfl;simp only[qBs];by_cases c1:s.length-a<n
  .rw[if_pos c1];exact⟨_,_,ah_ (by rw[e2];simp;omega) rfl,⟨rfl,rfl,a,rfl,e4,λ b hb=>by cases hb⟩,λ a ha hq=>by
    obtain rfl:=qSj ha;exact absurd c1 hq⟩
  .rw[if_neg c1];have w1:w64 ((a:Int)+(n:Int))=((a+n:Nat):Int):=by rw[ap_ ⟨by omega,by omega⟩];rfl
   have w2:w64 (((a+n:Nat):Int)-(n:Int))=(a:Int):=by rw[ap_ ⟨by omega,by omega⟩];omega
   have hsub:bD_ s (w64 ((w64 ((a:Int)+(n:Int)))-(n:Int))) (w64 ((a:Int)+(n:Int)))=some (win s a n):=by
    rw[w1,w2,ch_ (by omega) (by omega) (by omega),qTn,qTn,List.drop_take,Nat.add_sub_cancel_left];rfl
   exact⟨_,_,ac_ (by rw[e2];simp;omega) (aa_ hsub rfl),⟨rfl,e2,a+n,w1,by omega,λ b hb=>qSj hb⟩,λ a ha hq=>by
    obtain rfl:=qSj ha;rfl⟩
theorem nV_{s:Str}(hs:s.length<=2000000){o:Option Nat}{d:Yc}(h:RS s o d) :
  ∃v d' t d2,aC_ d 2=some (v,d')/\bK_ d' v=some (t,d2)/\RS s (o.bind λ a=>(tD s a).map (·.2)) d2/\∀a q,o=some a->tD s a=some q->t=q.1:=by
 obtain⟨v,d',h1,h2,h3⟩:=kd_ hs h (w:=2) (by omega) (by omega);cases o with
 | none =>
  obtain⟨e1,e2,a,e3,e4,e5⟩:=h2;have hbad:d'.Zf=true:=e2;refine⟨v,d',[],Yc.mk d'.S_ d'.At_ true,h1,?_,⟨e1,rfl,a,e3,e4,λ b hb=>by cases hb⟩,λ a q ha=>by cases ha⟩;unfold bK_;exact ah_ (by rw[hbad];rfl) rfl
 | some a =>
  have ha:a<=s.length:=by
   obtain⟨_,_,a',_,e4,e5⟩:=h;have:=e5 a rfl;omega
  simp only[qBs]at h2 ⊢;unfold tD takeT;by_cases c1:s.length<a+2
  .rw[if_pos c1];have hn:nD s 2 a=none:=by unfold nD;rw[if_pos (.inl (by omega))]
   rw[hn]at h2;obtain⟨e1,e2,b,e3,e4,e5⟩:=h2;have hbad:d'.Zf=true:=e2;refine⟨v,d',[],Yc.mk d'.S_ d'.At_ true,h1,?_,⟨e1,rfl,b,e3,e4,λ b hb=>by cases hb⟩,λ a' q ha' hq=>by
    obtain rfl:=qSj ha';rw[if_pos c1]at hq;cases hq⟩
   unfold bK_;exact ah_ (by rw[hbad];rfl) rfl
  .rw[if_neg c1];have hv2:=leV_two s a (by omega);have hn:nD s 2 a=some ((leV (win s a 2):Int),a+2):=by unfold nD;rw[if_neg (by omega)]
   rw[hn]at h2;have hv:v=(leV (win s a 2):Int):=h3 a _ rfl hn;subst hv;obtain⟨t,d2,g1,g2,g3⟩:=r_text hs h2 (leV (win s a 2)) (by omega);simp only[Option.map_some,qBs]at g2 g3;refine⟨_,d',t,d2,h1,g1,?_,λ a' q ha' hq => ?_⟩
   .by_cases c2:s.length<a+2+leV (win s a 2)
    .rw[if_pos c2];rw[if_pos (by omega)]at g2;exact g2
    .rw[if_neg c2];rw[if_neg (by omega)]at g2;exact g2
   .obtain rfl:=qSj ha';rw[if_neg c1]at hq;split at hq
    .cases hq
    .rename_i c2;obtain rfl:=qSj hq;exact g3 (a+2) rfl (by omega)
def fU_(s:Str)(a:Nat):Option (Xq×Xn×Nat):=(nD s 4 a).bind λ q1=>(nD s 4 q1.2).bind λ q2=>(nD s 4 q2.2).bind λ q3=>(nD s 4 q3.2).bind λ q4=>(nD s 8 q4.2).bind λ q5=>(nD s 8 q5.2).bind λ q6=>(tD s q6.2).bind λ q7=>(tD s q7.2).bind λ q8=>(tD s q8.2).bind λ q9=>(tD s q9.2).bind λ q10=>(nD s 4 q10.2).bind λ q11=>(nD s 1 q11.2).bind λ q12=>(sD s q12.2).bind λ q13=>some (Xq.mk q1.1 q2.1 q3.1 q7.1 q4.1 q8.1 q9.1 q10.1 q5.1 q6.1 [],Xn.mk q13.1 q11.1 q12.1,q13.2)
theorem ent_steps (s:Str) (o:Option Nat):(o.bind λ a=>(fU_ s a).map (·.2.2))=((((((((((((((o.bind λ a=>(nD s 4 a).map (·.2)).bind λ a=>(nD s 4 a).map (·.2)).bind λ a=>(nD s 4 a).map (·.2)).bind λ a=>(nD s 4 a).map (·.2)).bind λ a=>(nD s 8 a).map (·.2)).bind λ a=>(nD s 8 a).map (·.2)).bind λ a=>(tD s a).map (·.2)).bind λ a=>(tD s a).map (·.2)).bind λ a=>(tD s a).map (·.2)).bind λ a=>(tD s a).map (·.2)).bind λ a=>(nD s 4 a).map (·.2)).bind λ a=>(nD s 1 a).map (·.2)).bind λ a=>(sD s a).map (·.2))):=by
 cases o with
 | none=>rfl
 | some a =>
  simp only[qBs];unfold fU_;cases nD s 4 a with
  | none=>rfl
  | some q1 =>
   simp only[qBs,Option.map_some];cases nD s 4 q1.2 with
   | none=>rfl
   | some q2 =>
    simp only[qBs,Option.map_some];cases nD s 4 q2.2 with
    | none=>rfl
    | some q3 =>
     simp only[qBs,Option.map_some];cases nD s 4 q3.2 with
     | none=>rfl
     | some q4 =>
      simp only[qBs,Option.map_some];cases nD s 8 q4.2 with
      | none=>rfl
      | some q5 =>
       simp only[qBs,Option.map_some];cases nD s 8 q5.2 with
       | none=>rfl
       | some q6 =>
        simp only[qBs,Option.map_some];cases tD s q6.2 with
        | none=>rfl
        | some q7 =>
         simp only[qBs,Option.map_some];cases tD s q7.2 with
         | none=>rfl
         | some q8 =>
          simp only[qBs,Option.map_some];cases tD s q8.2 with
          | none=>rfl
          | some q9 =>
           simp only[qBs,Option.map_some];cases tD s q9.2 with
           | none=>rfl
           | some q10 =>
            simp only[qBs,Option.map_some];cases nD s 4 q10.2 with
            | none=>rfl
            | some q11 =>
             simp only[qBs,Option.map_some];cases nD s 1 q11.2 with
             | none=>rfl
             | some q12 =>
              simp only[qBs,Option.map_some];cases sD s q12.2<;>rfl
theorem d_entry{s:Str}(hs:s.length<=2000000){o:Option Nat}{d:Yh}(h:DS s o d) :
  ∃x d',cn_ d=some (x,d')/\DS s (o.bind λ a=>(fU_ s a).map (·.2.2)) d'/\∀a q,o=some a->fU_ s a=some q->x=Xd.mk q.1 q.2.1:=by
 obtain⟨v1,d1,a1,b1,c1⟩:=lk_ hs h (w:=4) (by omega) (by omega);obtain⟨v2,d2,a2,b2,c2⟩:=lk_ hs b1 (w:=4) (by omega) (by omega);obtain⟨v3,d3,a3,b3,c3⟩:=lk_ hs b2 (w:=4) (by omega) (by omega);obtain⟨v4,d4,a4,b4,c4⟩:=lk_ hs b3 (w:=4) (by omega) (by omega);obtain⟨v5,d5,a5,b5,c5⟩:=lk_ hs b4 (w:=8) (by omega) (by omega);obtain⟨v6,d6,a6,b6,c6⟩:=lk_ hs b5 (w:=8) (by omega) (by omega);obtain⟨v7,d7,a7,b7,c7⟩:=d_text hs b6;obtain⟨v8,d8,a8,b8,c8⟩:=d_text hs b7;obtain⟨v9,d9,a9,b9,c9⟩:=d_text hs b8;obtain⟨v10,d10,a10,b10,c10⟩:=d_text hs b9;obtain⟨v11,d11,a11,b11,c11⟩:=lk_ hs b10 (w:=4) (by omega) (by omega);obtain⟨v12,d12,a12,b12,c12⟩:=lk_ hs b11 (w:=1) (by omega) (by omega)
 obtain⟨v13,d13,a13,b13,c13⟩:=d_score hs b12;refine⟨_,d13,aa_ a1 (aa_ a2 (aa_ a3 (aa_ a4 (aa_ a5 (aa_ a6 (aa_ a7 (aa_ a8 (aa_ a9 (aa_ a10 (aa_ a11 (aa_ a12 (aa_ a13 rfl)))))))))))),?_,?_⟩
 .rw[ent_steps s o];exact b13
 .intro a q ha hq;subst ha;unfold fU_ at hq;obtain⟨q1,p1,hq⟩:=qOb.1 hq;obtain⟨q2,p2,hq⟩:=qOb.1 hq;obtain⟨q3,p3,hq⟩:=qOb.1 hq;obtain⟨q4,p4,hq⟩:=qOb.1 hq;obtain⟨q5,p5,hq⟩:=qOb.1 hq;obtain⟨q6,p6,hq⟩:=qOb.1 hq;obtain⟨q7,p7,hq⟩:=qOb.1 hq;obtain⟨q8,p8,hq⟩:=qOb.1 hq;obtain⟨q9,p9,hq⟩:=qOb.1 hq;obtain⟨q10,p10,hq⟩:=qOb.1 hq;obtain⟨q11,p11,hq⟩:=qOb.1 hq;obtain⟨q12,p12,hq⟩:=qOb.1 hq;obtain⟨q13,p13,hq⟩:=qOb.1 hq;obtain rfl:=qSj hq;have f1:=c1 a q1 rfl p1;have f2:=c2 q1.2 q2 (by simp[p1]) p2;have f3:=c3 q2.2 q3 (by simp[p1,p2]) p3;have f4:=c4 q3.2 q4 (by simp[p1,p2,p3]) p4;have f5:=c5 q4.2 q5 (by simp[p1,p2,p3,p4]) p5
  have f6:=c6 q5.2 q6 (by simp[p1,p2,p3,p4,p5]) p6;have f7:=c7 q6.2 q7 (by simp[p1,p2,p3,p4,p5,p6]) p7;have f8:=c8 q7.2 q8 (by simp[p1,p2,p3,p4,p5,p6,p7]) p8;have f9:=c9 q8.2 q9 (by simp[p1,p2,p3,p4,p5,p6,p7,p8]) p9;have f10:=c10 q9.2 q10 (by simp[p1,p2,p3,p4,p5,p6,p7,p8,p9]) p10;have f11:=c11 q10.2 q11 (by simp[p1,p2,p3,p4,p5,p6,p7,p8,p9,p10]) p11;have f12:=c12 q11.2 q12 (by simp[p1,p2,p3,p4,p5,p6,p7,p8,p9,p10,p11]) p12;have f13:=c13 q12.2 q13 (by simp[p1,p2,p3,p4,p5,p6,p7,p8,p9,p10,p11,p12]) p13;rw[f1,f2,f3,f4,f5,f6,f7,f8,f9,f10,f11,f12,f13]
theorem sD_text{s:Str}{a:Nat}:(sD s a).map (·.2)=if s.length-a<32 then none else some (a+32):=by
 unfold sD;split<;>rfl
theorem r_entry{s:Str}(hs:s.length<=2000000){o:Option Nat}{d:Yc}(h:RS s o d) :
  ∃n r d',ez_ d=some (n,r,d')/\RS s (o.bind λ a=>(fU_ s a).map (·.2.2)) d'/\∀a q,o=some a->fU_ s a=some q->n=q.1/\r=q.2.1:=by
 obtain⟨v1,d1,a1,b1,c1⟩:=kd_ hs h (w:=4) (by omega) (by omega);obtain⟨v2,d2,a2,b2,c2⟩:=kd_ hs b1 (w:=4) (by omega) (by omega);obtain⟨v3,d3,a3,b3,c3⟩:=kd_ hs b2 (w:=4) (by omega) (by omega);obtain⟨v4,d4,a4,b4,c4⟩:=kd_ hs b3 (w:=4) (by omega) (by omega);obtain⟨v5,d5,a5,b5,c5⟩:=kd_ hs b4 (w:=8) (by omega) (by omega);obtain⟨v6,d6,a6,b6,c6⟩:=kd_ hs b5 (w:=8) (by omega) (by omega);obtain⟨_,_,v7,d7,a7,a7',b7,c7⟩:=nV_ hs b6;obtain⟨_,_,v8,d8,a8,a8',b8,c8⟩:=nV_ hs b7;obtain⟨_,_,v9,d9,a9,a9',b9,c9⟩:=nV_ hs b8;obtain⟨_,_,v10,d10,a10,a10',b10,c10⟩:=nV_ hs b9;obtain⟨v11,d11,a11,b11,c11⟩:=kd_ hs b10 (w:=4) (by omega) (by omega)
 obtain⟨v12,d12,a12,b12,c12⟩:=kd_ hs b11 (w:=1) (by omega) (by omega);obtain⟨v13,d13,a13,b13,c13⟩:=r_text hs b12 32 (by omega);refine⟨_,_,d13,aa_ a1 (aa_ a2 (aa_ a3 (aa_ a4 (aa_ a5 (aa_ a6 (aa_ a7 (aa_ a7' (aa_ a8 (aa_ a8' (aa_ a9 (aa_ a9' (aa_ a10 (aa_ a10' (aa_ a11 (aa_ a12 (aa_ a13 rfl)))))))))))))))),?_,?_⟩
 .have e:(o.bind λ a=>(fU_ s a).map (·.2.2))=((((((((((((((o.bind λ a=>(nD s 4 a).map (·.2)).bind λ a=>(nD s 4 a).map (·.2)).bind λ a=>(nD s 4 a).map (·.2)).bind λ a=>(nD s 4 a).map (·.2)).bind λ a=>(nD s 8 a).map (·.2)).bind λ a=>(nD s 8 a).map (·.2)).bind λ a=>(tD s a).map (·.2)).bind λ a=>(tD s a).map (·.2)).bind λ a=>(tD s a).map (·.2)).bind λ a=>(tD s a).map (·.2)).bind λ a=>(nD s 4 a).map (·.2)).bind λ a=>(nD s 1 a).map (·.2)).bind λ a=>if s.length-a<32 then none else some (a+32))):=by
   simp only[←sD_text];exact ent_steps s o
  rw[e];exact b13
 .intro a q ha hq;subst ha;unfold fU_ at hq;obtain⟨q1,p1,hq⟩:=qOb.1 hq;obtain⟨q2,p2,hq⟩:=qOb.1 hq;obtain⟨q3,p3,hq⟩:=qOb.1 hq;obtain⟨q4,p4,hq⟩:=qOb.1 hq;obtain⟨q5,p5,hq⟩:=qOb.1 hq;obtain⟨q6,p6,hq⟩:=qOb.1 hq;obtain⟨q7,p7,hq⟩:=qOb.1 hq;obtain⟨q8,p8,hq⟩:=qOb.1 hq;obtain⟨q9,p9,hq⟩:=qOb.1 hq;obtain⟨q10,p10,hq⟩:=qOb.1 hq;obtain⟨q11,p11,hq⟩:=qOb.1 hq;obtain⟨q12,p12,hq⟩:=qOb.1 hq;obtain⟨q13,p13,hq⟩:=qOb.1 hq;obtain rfl:=qSj hq;have f1:=c1 a q1 rfl p1;have f2:=c2 q1.2 q2 (by simp[p1]) p2;have f3:=c3 q2.2 q3 (by simp[p1,p2]) p3;have f4:=c4 q3.2 q4 (by simp[p1,p2,p3]) p4;have f5:=c5 q4.2 q5 (by simp[p1,p2,p3,p4]) p5
  have f6:=c6 q5.2 q6 (by simp[p1,p2,p3,p4,p5]) p6;have f7:=c7 q6.2 q7 (by simp[p1,p2,p3,p4,p5,p6]) p7;have f8:=c8 q7.2 q8 (by simp[p1,p2,p3,p4,p5,p6,p7]) p8;have f9:=c9 q8.2 q9 (by simp[p1,p2,p3,p4,p5,p6,p7,p8]) p9;have f10:=c10 q9.2 q10 (by simp[p1,p2,p3,p4,p5,p6,p7,p8,p9]) p10;have f11:=c11 q10.2 q11 (by simp[p1,p2,p3,p4,p5,p6,p7,p8,p9,p10]) p11;have f12:=c12 q11.2 q12 (by simp[p1,p2,p3,p4,p5,p6,p7,p8,p9,p10,p11]) p12;have h13:¬s.length-q12.2<32/\q13=(win s q12.2 32,q12.2+32):=by
   unfold sD at p13;split at p13
   .cases p13
   .rename_i hh;exact⟨hh,(qSj p13).symm⟩
  have f13:=c13 q12.2 (by simp[p1,p2,p3,p4,p5,p6,p7,p8,p9,p10,p11,p12]) h13.1;rw[f1,f2,f3,f4,f5,f6,f7,f8,f9,f10,f11,f12,f13,h13.2];exact⟨rfl,rfl⟩
theorem rR_{s:Str}{a:Nat}{q:Xq×Xn×Nat}(ha:a<=s.length)(h:fU_ s a=some q):q.2.2<=s.length/\a+77<=q.2.2/\q.1.Xv<=9223372036854775807/\q.1.Xy.length<=s.length:=by
 unfold fU_ at h;obtain⟨q1,p1,h⟩:=qOb.1 h;obtain⟨q2,p2,h⟩:=qOb.1 h;obtain⟨q3,p3,h⟩:=qOb.1 h;obtain⟨q4,p4,h⟩:=qOb.1 h;obtain⟨q5,p5,h⟩:=qOb.1 h;obtain⟨q6,p6,h⟩:=qOb.1 h;obtain⟨q7,p7,h⟩:=qOb.1 h;obtain⟨q8,p8,h⟩:=qOb.1 h;obtain⟨q9,p9,h⟩:=qOb.1 h;obtain⟨q10,p10,h⟩:=qOb.1 h;obtain⟨q11,p11,h⟩:=qOb.1 h;obtain⟨q12,p12,h⟩:=qOb.1 h;obtain⟨q13,p13,h⟩:=qOb.1 h;obtain rfl:=qSj h;have b1:=lj_ ha p1;have b2:=lj_ b1.1 p2;have b3:=lj_ b2.1 p3;have b4:=lj_ b3.1 p4;have b5:=lj_ b4.1 p5;have b6:=lj_ b5.1 p6;have b7:=nl_ p7;have b8:=nl_ p8;have b9:=nl_ p9;have b10:=nl_ p10;have b11:=lj_ b10.1 p11;have b12:=lj_ b11.1 p12
 have b13:=sD_le b12.1 p13;simp only;omega
def fi_(s:Str):Nat->Nat->Option (List (Xq×Xn)) | 0,_=>none|f+1,a=>if a<s.length then(fU_ s a).bind λ q=>(fi_ s f q.2.2).map λ l=>(q.1,q.2.1)::l else some []
def fj_(q:Xq×Xn):Xd:=Xd.mk q.1 q.2
theorem P_entries{s:Str}(hs:s.length<=2000000):∀(f a:Nat) (out:List Xd) {d:Yh},DS s (some a) d->a<=s.length->s.length-a<f->out.length<=a ->
  ∃o,ak_ (cU_ s) (f+1) (d,out)=some o/\match fi_ s f a with|some l=>o.1.Zv=false/\o.2=out++l.map fj_|none=>o.1.Zv=true
 | 0,a,out,d,_,_,hf,_=>by omega
 | f + 1,a,out,d,hd,ha,hf,ho=>by
  obtain⟨e1,e2,a',e3,_,e5⟩:=id hd;obtain rfl:=e5 a rfl;unfold fi_;by_cases hlt:a'<s.length
  .rw[if_pos hlt];obtain⟨x,d',h1,h2,h3⟩:=d_entry hs hd;have hstep:cU_ s (d,out)=some (.next (d',out++[x])):=by
    unfold cU_;refine ah_ (by simp only[e2,e3];simp;omega) (aa_ h1 (aa_ (cB_ (by simp;omega) (by simp;omega)) rfl))
   cases hq:fU_ s a' with
   | none =>
    simp only[qBs,hq,Option.map_none]at h2;have hb:d'.Zv=true:=h2.2.1;refine⟨(d',out++[x]),bN_ hstep (ba_ (n:=f) ?_),hb⟩;unfold cU_;exact ac_ (by simp[hb]) rfl
   | some q =>
    obtain⟨l1,l2,_⟩:=rR_ ha hq;simp only[qBs,hq,Option.map_some]at h2 ⊢;obtain⟨o,g1,g2⟩:=P_entries hs f q.2.2 (out++[x]) h2 l1 (by omega) (by simp;omega);refine⟨o,bN_ hstep g1,?_⟩;have hx:=h3 a' q rfl hq;cases hl:fi_ s f q.2.2 with
    | none=>rw[hl]at g2;exact g2
    | some l =>
     rw[hl]at g2;refine⟨g2.1,?_⟩;rw[g2.2,hx];simp[fj_]
  .rw[if_neg hlt];refine⟨(d,out),ba_ ?_,e2,by simp⟩;unfold cU_;exact ac_ (by simp only[e3];simp;omega) rfl
def fB_(s:Str)(id:Int)(f a:Nat):Option (List (Xq×Xn)):=(fi_ s f a).bind λ l=>if l.all (λ q=>q.1.Xw==id)then some l else none
theorem R_entries{s:Str}(hs:s.length<=2000000)(n:Xq)(e:Int):∀(f a:Nat) (ns:List Xq) (rs:List Xn) {d:Yc},RS s (some a) d->a<=s.length->s.length-a<f->ns.length<=a->rs.length<=a ->
  ak_ (ct_ (s,e) n) f (ns,rs,d)=some (match fB_ s n.Id_ f a with|some l => .fall (ns++l.map (·.1),rs++l.map (·.2))|none => .ret ([],2))
 | 0,a,ns,rs,d,_,_,hf,_,_=>by omega
 | f + 1,a,ns,rs,d,hd,ha,hf,hn,hr=>by
  obtain⟨e1,e2,a',e3,_,e5⟩:=id hd;obtain rfl:=e5 a rfl;unfold fB_ fi_;by_cases hlt:a'<s.length
  .rw [if_pos hlt];obtain⟨m,r,d',h1,h2,h3⟩:=r_entry hs hd;cases hq:fU_ s a' with
   | none =>
    simp only[qBs,hq,Option.map_none]at h2;have hb:d'.Zf=true:=h2.2.1;refine ba_ ?_;unfold ct_;exact ah_ (by simp only[e3];simp;omega) (aa_ h1 (ah_ (by simp[hb]) rfl))
   | some q =>
    obtain⟨l1,l2,_⟩:=rR_ ha hq;simp only[qBs,hq,Option.map_some]at h2 ⊢;obtain⟨rfl,rfl⟩:=h3 a' q rfl hq;have hb:d'.Zf=false:=h2.2.1;by_cases hp:q.1.Xw=n.Id_
    .have hstep:ct_ (s,e) n (ns,rs,d)=some (.next (ns++[q.1],rs++[q.2.1],d')):=by
      unfold ct_;exact ah_ (by simp only[e3];simp;omega) (aa_ h1 (ac_ (by simp[hb,hp]) (aa_ (cB_ (by simp;omega) (by simp;omega)) (aa_ (cB_ (by simp;omega) (by simp;omega)) rfl))))
     have ih:=R_entries hs n e f q.2.2 (ns++[q.1]) (rs++[q.2.1]) h2 l1 (by omega) (by simp;omega) (by simp;omega);refine bN_ hstep (ih.trans ?_);unfold fB_;cases fi_ s f q.2.2 with
     | none=>rfl
     | some l =>
      simp only[qBs,Option.map_some,List.all_cons,hp,beq_self_eq_true,Bool.true_and];cases hall:l.all (λ q=>q.1.Xw==n.Id_)with
      | true=>simp
      | false=>simp
    .have hz:((Option.map (λ l=>(q.1,q.2.1)::l) (fi_ s f q.2.2)).bind λ l=>if l.all (λ q=>q.1.Xw==n.Id_)then some l else none)=none:=by
      cases fi_ s f q.2.2 with
      | none=>rfl
      | some l=>simp[hp]
     rw[hz];refine ba_ ?_;unfold ct_;exact ah_ (by simp only[e3];simp;omega) (aa_ h1 (ah_ (by simp[hp]) rfl))
  .rw[if_neg hlt];refine ba_ ?_;unfold ct_;refine ac_ (by simp only[e3];simp;omega) ?_;simp
abbrev Gn:=List Xq×List Str×Int
def fG(rec:Xq->Xn->Int->Gn)(left:Int)(acc:List Xq×List Str)(q:Xq×Xn):(List Xq×List Str) ⊕ Gn:=if(rec q.1 q.2 (left-(acc.1.length:Int))).2.2=0 then .inl (acc.1++(rec q.1 q.2 (left-(acc.1.length:Int))).1,acc.2++(rec q.1 q.2 (left-(acc.1.length:Int))).2.1)else .inr ([],acc.2++(rec q.1 q.2 (left-(acc.1.length:Int))).2.1,(rec q.1 q.2 (left-(acc.1.length:Int))).2.2)
def rS_(n:Xq)(d:Str):Xq:=Xq.mk n.Id_ n.Xw n.Xo n.Xy n.Xv n.Yw n.Yk n.Yy n.Yz n.Xa d
def aO_(n:Xq):Int:=if n.Xv>=2147483648 then 3 else 1
def bs_ (s:Xj):Nat->Xq->Xn->Int->Gn
 | 0,_,_,_=>([],[],2)
 | f + 1,n,r,left=>if left<1 then([],[],2)else
   if (aA_ s (aO_ n) r).2.2=0 then
    (if n.Xv>=2147483648 then
     (match fB_ (aA_ s (aO_ n) r).1 n.Id_ ((aA_ s (aO_ n) r).1.length+1) 0 with
      | none=>([],(aA_ s (aO_ n) r).2.1,2)
      | some l=>outS (λ acc=>(acc.1,acc.2,0)) (λ e=>e) (be_ (fG (bs_ s f) left) ([n],(aA_ s (aO_ n) r).2.1) l))
    else([rS_ n (aA_ s (aO_ n) r).1],(aA_ s (aO_ n) r).2.1,0))
   else([],(aA_ s (aO_ n) r).2.1,(aA_ s (aO_ n) r).2.2)
theorem ll_{s:Xj}(hs:StOK s)(k:Int)(r:Xn):(aA_ s k r).1.length<=1048576/\(aA_ s k r).2.1.length<=1057:=by
 unfold aA_;split
 .have h2:=hN_le (nP r.Xi.toNat);obtain⟨h3,h4⟩:=nT_ hs k (hN (nP r.Xi.toNat)) r.Yx r.Xi.toNat 0 r.Xi.toNat;exact⟨Nat.le_trans h3 (td_ h2),Nat.le_trans h4 (cntN_le h2)⟩
 .simp
theorem ke_ {s:Xj} (hs:StOK s):∀(f:Nat) {n:Xq} {r:Xn} {left:Int},(bs_ s f n r left).2.2=0->1<=(bs_ s f n r left).1.length/\((bs_ s f n r left).1.length:Int)<=left/\(bs_ s f n r left).2.1.length<=1057*(bs_ s f n r left).1.length
 | 0,n,r,left,h=>by cases h
 | f + 1,n,r,left,h=>by
  obtain⟨_,hb⟩:=ll_ hs (aO_ n) r;unfold bs_ at h ⊢;split at h
  .cases h
  .rename_i hl;rw[if_neg hl];split at h
   .rename_i hc;rw[if_pos hc];split at h
    .rename_i hd;rw[if_pos hd];split at h
     .cases h
     .rename_i l _;have hi:=hf_ (f:=fG (bs_ s f) left) (λ _ acc=>1<=acc.1.length/\(acc.1.length:Int)<=left/\acc.2.length<=1057*acc.1.length) (λ e=>e.2.2≠0) (xs:=l) (k:=0) (s0:=([n],(aA_ s (aO_ n) r).2.1)) ⟨by simp,by simp;omega,by simp;omega⟩ λ i acc q _ ⟨a1,a2,a3⟩=>by
       unfold fG;refine⟨λ s' he => ?_,λ e he => ?_⟩
       .split at he
        .rename_i h0;obtain⟨b1,b2,b3⟩:=ke_ hs f h0;obtain rfl:=Sum.inl.inj he;simp only[qLa];omega
        .cases he
       .split at he
        .cases he
        .rename_i h0;obtain rfl:=Sum.inr.inj he;exact h0
      cases hr:be_ (fG (bs_ s f) left) ([n],(aA_ s (aO_ n) r).2.1) l with
      | inl acc=>exact hi.1 acc hr
      | inr e =>
       rw[hr]at h;exact absurd h (hi.2 e hr)
    .rename_i hd;rw[if_neg hd];simp only[List.length_singleton];omega
   .rename_i hc;exact absurd h hc
theorem te_(n:Xq):cc_ n=some (decide (n.Xv>=2147483648)):=rfl
theorem add_kids{l:List (Xq×Xn)}{n:Xq}{r:Xn}(h:l.length<=1073741824):aK_ (l.map fj_) (fun(u1:Xd)=>Option.bind (cu_ u1 (Xd.mk n r)) fun(v1:Bool)=>some v1)=some (!(l.all λ q=>q.1.Xw==n.Id_)):=by
 unfold aK_;generalize hp:(fun(u:Xd)=>u.Ym.Xw != n.Id_)=p;refine aa_ (a:=at_ p (l.map fj_)) ?_ ?_
 .unfold b1_;have h:=aV_ (body:=bi_ (l.map fj_) (fun(u1:Xd)=>Option.bind (cu_ u1 (Xd.mk n r)) fun(v1:Bool)=>some v1)) (l.map fj_) (λ i x=>if p x then some ((i:Nat):Int)else none) (bP_ (by simp;omega)) (λ i hi => ?_) ?_
  .rw[bm_ h (λ r=>rfl) (x := -1) rfl,jn_]
  .unfold bi_;refine ah_ (bj_ hi) (aa_ (aq_ hi) (aa_ (a:=p (l.map fj_)[i]) (by rw[←hp];rfl) ?_));cases p (l.map fj_)[i]with
   | true=>rfl
   | false =>
    rw[au_ (by simp at hi;omega)];rfl
  .unfold bi_;exact ac_ (br_ _) rfl
 .congr 1
  rcases kE_ p (l.map fj_)with⟨h1,h2⟩|⟨i,x,h1,h2,h3,h4,_⟩
  .rw[h2];have:l.all (λ q=>q.1.Xw==n.Id_)=true:=by
    rw[List.all_eq_true];intro q hq;have:=List.find?_eq_none.1 h1 (fj_ q) (List.mem_map.2 ⟨q,hq,rfl⟩);rw[←hp]at this;simpa[fj_]using this
   rw[this];rfl
  .rw[h2];have:l.all (λ q=>q.1.Xw==n.Id_)=false:=by
    rw[←Bool.not_eq_true,List.all_eq_true];intro hall;obtain⟨q,hq,rfl⟩:=List.mem_map.1 (List.mem_of_getElem? h3);have:=hall q hq;rw[←hp]at h4;simp only[fj_,bne_iff_ne,ne_eq,beq_iff_eq]at h4 this;exact h4 this
   rw[this];simp
theorem rl_(n:Xq){R:Type}(k:Int->Option R):(Option.bind ((cc_ n).bind λ y1=>bif y1 then some 3 else some 1) k)=k (aO_ n):=by
 rw[te_];unfold aO_;by_cases h:n.Xv>=2147483648
 .simp[h]
 .simp[h]
theorem rm_{α:Type}{l:List α}{i:Nat}{x:α}{ys:List α}(h:l.drop i=x::ys):l[i]? = some x/\l.drop (i+1)=ys/\i<l.length:=by
 have hi:i<l.length:=by
  rcases Nat.lt_or_ge i l.length with h'|h'
  .exact h'
  .rw[List.drop_of_length_le h']at h;cases h
 rw[List.drop_eq_getElem_cons hi]at h;injection h with h1 h2;exact⟨by rw[List.getElem?_eq_getElem hi,h1],h2,hi⟩
theorem rn_(s:Str):∀(f a:Nat) {l:List (Xq×Xn)},fi_ s f a=some l->l.length<=f
 | 0,a,l,h=>by cases h
 | f+1,a,l,h=>by
  unfold fi_ at h;split at h
  .obtain⟨q,_,h⟩:=qOb.1 h;obtain⟨l',h1,rfl⟩:=Option.map_eq_some_iff.1 h;have:=rn_ s f _ h1;simp;omega
  .obtain rfl:=qSj h;simp
theorem add_P {s:Xj} (hs:StOK s):∀(f m:Nat) {ns:List Xq} {seen:List Str} {most:Int} {n:Xq} {r:Xn},f<=m->(most-(ns.length:Int)).toNat<f->most<=1024->seen.length<=1057*ns.length+2 ->
  ∃e b rd,aS_ m (Xe.mk ns most) (Xg.mk s seen) (Xd.mk n r)=some (e,b,rd)/\e=(bs_ s f n r (most-(ns.length:Int))).2.2/\(e=0->b=Xe.mk (ns++(bs_ s f n r (most-(ns.length:Int))).1) most/\rd=Xg.mk s (seen++(bs_ s f n r (most-(ns.length:Int))).2.1))
 | 0,_,ns,seen,most,n,r,_,hf,_,_=>by omega
 | f + 1, m,ns,seen,most,n,r,hm,hf,hmost,hseen=>by
  obtain⟨m,rfl⟩:∃m',m=m'+1:=⟨m-1,by omega⟩;show ∃e b rd,bq_ (aS_ m) _ _ _=some (e,b,rd)/\_;unfold bs_;by_cases hl:most-(ns.length:Int)<1
  .rw[if_pos hl];refine⟨2,Xe.mk ns most,Xg.mk s seen,?_,rfl,λ e=>by cases e⟩;unfold bq_;exact ah_ (by simp only[qDe];omega) rfl
  .rw [if_neg hl];obtain⟨hb1,hb2⟩:=ll_ hs (aO_ n) r;have hcond:∀{R:Type} (X Y:R),(bif(decide ((ns.length:Int)>=most))then X else Y)=Y:=λ X Y=>by
    have:decide ((ns.length:Int)>=most)=false:=by simp only[qDf];omega
    rw[this];rfl
   have hcon:=contents_eq hs (aO_ n) r (seen:=seen) (by omega);by_cases hc:(aA_ s (aO_ n) r).2.2=0
   .rw [if_pos hc];by_cases hd:n.Xv>=2147483648
    .rw [if_pos hd];have hdir:cc_ n=some true:=by rw[te_];simp[hd]
     -- the entries
     obtain⟨o,o1,o2⟩:=P_entries (s:=(aA_ s (aO_ n) r).1) (by omega) ((aA_ s (aO_ n) r).1.length+1) 0 [] (d:=Yh.mk (aA_ s (aO_ n) r).1 0 false) ⟨rfl,rfl,0,rfl,Nat.zero_le _,λ b hb=>qSj hb⟩ (Nat.zero_le _) (by omega) (by simp);have hents:gI_ (aA_ s (aO_ n) r).1=some (o.2,!o.1.Zv):=by
      unfold gI_;exact aa_ (hR_ o1 (Nat.le_of_lt (bP_ (by omega)))) rfl
     have hroom:room 128 ns [n]=some (ns++[n]):=cB_ (by simp;omega) (by simp;omega);have hpre:∀{R:Option (Int×Xe×Xg)},(Option.bind (bif(!(!o.1.Zv))then some true else(aK_ o.2 (fun(u1:Xd)=>Option.bind (cu_ u1 (Xd.mk n r)) fun(v1:Bool)=>some v1)).bind λ y7=>some y7) fun(y8:Bool)=>bif y8 then some ((2,(Xe.mk (ns++[n]) most),Xg.mk s (seen++(aA_ s (aO_ n) r).2.1)))else(ak_ (bR_ (o.2,!o.1.Zv) (aS_ m)) BIG (0,most,s.Ys,s.Xc,seen++(aA_ s (aO_ n) r).2.1,ns++[n],o.2)).bind λ wo2=>match wo2 with
       | .ret r2=>some r2
       | .fall o2=>some ((0,(Xe.mk o2.2.2.2.2 o2.1),(Xg.mk (Xj.mk o2.2.1 o2.2.2.1) o2.2.2.2.1))))=R->bq_ (aS_ m) (Xe.mk ns most) (Xg.mk s seen) (Xd.mk n r)=R:=λ hR=>by
      unfold bq_;simp only[hcond,rl_];refine aa_ hcon (ac_ (by simp[hc]) (aa_ hdir (ac_ rfl (aa_ hroom (aa_ hents hR)))))
     cases hE:fi_ (aA_ s (aO_ n) r).1 ((aA_ s (aO_ n) r).1.length+1) 0 with
     | none =>
      rw[hE]at o2;have hk:fB_ (aA_ s (aO_ n) r).1 n.Id_ ((aA_ s (aO_ n) r).1.length+1) 0=none:=by unfold fB_;rw[hE];rfl
      rw[hk];exact⟨_,_,_,hpre (aa_ (a:=true) (ah_ (by rw[o2];rfl) rfl) (ah_ rfl rfl)),rfl,λ e=>by cases e⟩
     | some l =>
      rw[hE]at o2;obtain⟨o3,o4⟩:=o2;rw[List.nil_append]at o4;have hll:=rn_ _ _ _ hE;have hkids:=add_kids (l:=l) (n:=n) (r:=r) (by omega);cases hall:l.all (λ q=>q.1.Xw==n.Id_)with
      | false =>
       have hk:fB_ (aA_ s (aO_ n) r).1 n.Id_ ((aA_ s (aO_ n) r).1.length+1) 0=none:=by unfold fB_;rw[hE];simp[hall]
       rw[hk];rw[hall]at hkids;refine⟨_,_,_,hpre (aa_ (a:=true) (ac_ (by rw[o3];rfl) ?_) (ah_ rfl rfl)),rfl,λ e=>by cases e⟩;rw[o4];exact aa_ hkids rfl
      | true =>
       have hk:fB_ (aA_ s (aO_ n) r).1 n.Id_ ((aA_ s (aO_ n) r).1.length+1) 0=some l:=by unfold fB_;rw[hE];simp[hall]
       rw[hk];rw[hall]at hkids;have hloop:∀(ys:List (Xq×Xn)) (i:Nat) (acc:List Xq×List Str),l.drop i=ys->i<=l.length->1<=acc.1.length->(acc.1.length:Int)<=most-(ns.length:Int)->acc.2.length<=1057*acc.1.length ->
         ∃w,ak_ (bR_ (l.map fj_,true) (aS_ m)) (ys.length+1) ((i:Int),most,s.Ys,s.Xc,seen++acc.2,ns++acc.1,l.map fj_)=some w/\(match be_ (fG (bs_ s f) (most-(ns.length:Int))) acc ys with
          | .inl a=>w = .fall (most,s.Ys,s.Xc,seen++a.2,ns++a.1)
          | .inr e=>e.2.2≠0/\∃b rd,w = .ret (e.2.2,b,rd)):=by
        intro ys
        induction ys with
        | nil =>
         intro i acc hdr hi _ _ _;have:i=l.length:=by
          have:=congrArg List.length hdr;simp at this;omega
         subst this;refine⟨.fall (most,s.Ys,s.Xc,seen++acc.2,ns++acc.1),ba_ ?_,by simp[be_]⟩;unfold bR_;exact ac_ (by simp) rfl
        | cons q ys ih =>
         intro i acc hdr hi a1 a2 a3;obtain⟨g1,g2,g3⟩:=rm_ hdr;obtain⟨e,b,rd,k1,k2,k3⟩:=add_P hs f m (ns:=ns++acc.1) (seen:=seen++acc.2) (most:=most) (n:=q.1) (r:=q.2) (by omega) (by simp;omega) hmost (by simp;omega);have hleft:most-((ns++acc.1).length:Int)=most-(ns.length:Int)-(acc.1.length:Int):=by simp;omega
         rw[hleft]at k2 k3;have hget:al_ (l.map fj_) (i:Int)=some (Xd.mk q.1 q.2):=by rw[bl_,List.getElem?_map,g1];rfl
         simp only[be_];unfold fG;by_cases h0:(bs_ s f q.1 q.2 (most-(ns.length:Int)-(acc.1.length:Int))).2.2=0
         .rw[if_pos h0];obtain⟨k4,k5⟩:=k3 (k2.trans h0);obtain⟨c1,c2,c3⟩:=ke_ hs f h0;obtain⟨w,w1,w2⟩:=ih (i+1) (acc.1++(bs_ s f q.1 q.2 (most-(ns.length:Int)-(acc.1.length:Int))).1,acc.2++(bs_ s f q.1 q.2 (most-(ns.length:Int)-(acc.1.length:Int))).2.1) g2 (by omega) (by simp;omega) (by simp;omega) (by simp;omega);refine⟨w,bN_ ?_ w1,w2⟩;unfold bR_;refine ah_ (by simp;omega) (aa_ hget (aa_ k1 (ac_ (by rw[k2,h0];rfl) ?_)));rw[k4,k5,au_ (by omega),List.append_assoc,List.append_assoc]
         .rw[if_neg h0];refine⟨.ret (e,b,rd),ba_ ?_,h0,b,rd,by rw[k2]⟩;unfold bR_;exact ah_ (by simp;omega) (aa_ hget (aa_ k1 (ah_ (by rw[k2];simpa using h0) rfl)))
       obtain⟨w,w1,w2⟩:=hloop l 0 ([n],(aA_ s (aO_ n) r).2.1) (by simp) (Nat.zero_le _) (by simp) (by simp;omega) (by simp;omega);have w1':=hR_ w1 (show l.length+1<=BIG from Nat.le_of_lt (bP_ (by omega)));have hgo:∀{R},((some w:Option (Out (Int×Int×List Yv×List Str×List Xq) (Int×Xe×Xg))).bind λ wo2=>match wo2 with
         | .ret r2=>some r2
         | .fall o2=>some ((0,(Xe.mk o2.2.2.2.2 o2.1),(Xg.mk (Xj.mk o2.2.1 o2.2.2.1) o2.2.2.2.1))))=R->bq_ (aS_ m) (Xe.mk ns most) (Xg.mk s seen) (Xd.mk n r)=R:=λ hR=>by
        refine hpre (aa_ (a:=false) (ac_ (by rw[o3];rfl) ?_) (ac_ rfl ?_))
        .rw[o4];exact aa_ hkids rfl
        .rw[o4,o3];have w1'':ak_ (bR_ (l.map fj_,!false) (aS_ m)) BIG (0,most,s.Ys,s.Xc,seen++(aA_ s (aO_ n) r).2.1,ns++[n],l.map fj_)=some w:=w1';rw[w1''];exact hR
       cases hr:be_ (fG (bs_ s f) (most-(ns.length:Int))) ([n],(aA_ s (aO_ n) r).2.1) l with
       | inl a =>
        rw[hr]at w2;subst w2;simp only[hr,outS];exact⟨_,_,_,hgo rfl,rfl,λ _=>⟨rfl,rfl⟩⟩
       | inr e =>
        rw[hr]at w2;obtain⟨h0,b,rd,rfl⟩:=w2;simp only[hr,outS];exact⟨_,_,_,hgo rfl,rfl,λ e0=>absurd e0 h0⟩
    .rw[if_neg hd];have hdir:cc_ n=some false:=by rw[te_];simp[hd]
     refine⟨0,Xe.mk (ns++[rS_ n (aA_ s (aO_ n) r).1]) most,Xg.mk s (seen++(aA_ s (aO_ n) r).2.1),?_,rfl,λ _=>⟨rfl,rfl⟩⟩;unfold bq_;simp only[hcond,rl_];exact aa_ hcon (ac_ (by simp[hc]) (aa_ hdir (ah_ rfl (aa_ (cB_ (by simp;omega) (by simp;omega)) rfl))))
   .rw[if_neg hc];refine⟨(aA_ s (aO_ n) r).2.2,Xe.mk ns most,Xg.mk s (seen++(aA_ s (aO_ n) r).2.1),?_,rfl,λ e=>absurd e hc⟩;unfold bq_;simp only[hcond,rl_];exact aa_ hcon (ah_ (by simpa using hc) rfl)
theorem get_R {s:Xj} (hs:StOK s):∀(f m:Nat) {n:Xq} {r:Xn} {left:Int},f<=m->left.toNat<f->left<=1024 ->
  ∃q,cL_ m s n r left=some q/\q.2=(bs_ s f n r left).2.2/\(q.2=0->q.1=(bs_ s f n r left).1)
 | 0,_,n,r,left,_,hf,_=>by omega
 | f + 1, m,n,r,left,hm,hf,hmost=>by
  obtain⟨m,rfl⟩:∃m',m=m'+1:=⟨m-1,by omega⟩;show ∃q,da_ (cL_ m) s n r left=some q/\_;unfold bs_;by_cases hl:left<1
  .rw[if_pos hl];refine⟨([],2),?_,rfl,λ e=>by cases e⟩;unfold da_;exact aa_ (a:=true) (ah_ (by simpa using hl) rfl) (ah_ rfl rfl)
  .rw [if_neg hl];obtain⟨hb1,hb2⟩:=ll_ hs (aO_ n) r;cases hok:ea_ r with
   | false =>
    have hfr:aA_ s (aO_ n) r=([],[],2):=by unfold aA_;rw[hok];rfl
    rw[hfr];refine⟨([],2),?_,rfl,λ e=>by cases e⟩;unfold da_;exact aa_ (a:=true) (ac_ (by simpa using hl) (aa_ (nq_ r) (by rw[hok];rfl))) (ah_ rfl rfl)
   | true =>
    have hpre:∀{R},((cg_ n.Xv).bind λ y3=>(bif(!y3)then(dt_ s 1 r).bind λ y4=>some (([rS_ n y4.1],y4.2))else(dt_ s 3 r).bind λ y5=>(bif(y5.2 != 0)then some (([],y5.2))else Option.bind (ak_ (ct_ y5 n) BIG ([],[],(Yc.mk y5.1 0 false))) fun(wo1:Out ((List Xq)×(List Xn)) ((List Xq)×Int))=>match wo1 with
      | .ret r1=>some r1
      | .fall o1=>(ak_ (du_ (cL_ m) s left) BIG (0,o1.1,o1.2,[n])).bind λ wo2=>match wo2 with
       | .ret r2=>some r2
       | .fall o2=>some ((o2,0)))))=R->da_ (cL_ m) s n r left=R:=λ hR=>by
     unfold da_;exact aa_ (a:=false) (ac_ (by simpa using hl) (aa_ (nq_ r) (by rw[hok];rfl))) (ac_ rfl hR)
    by_cases hd:n.Xv>=2147483648
    .have hk:aO_ n=3:=if_pos hd;have hdir:cg_ n.Xv=some true:=by unfold cg_;simp[hd]
     rw[hk]at hb1 hb2 ⊢;have hcon:=nU_ hs (k:=3) (by omega) r;by_cases hc:(aA_ s 3 r).2.2=0
     .rw [if_pos hc,if_pos hd];have hen:=hR_ (R_entries (s:=(aA_ s 3 r).1) (by omega) n (aA_ s 3 r).2.2 ((aA_ s 3 r).1.length+1) 0 [] [] (d:=Yc.mk (aA_ s 3 r).1 0 false) ⟨rfl,rfl,0,rfl,Nat.zero_le _,λ b hb=>qSj hb⟩ (Nat.zero_le _) (by omega) (by simp) (by simp)) (show(aA_ s 3 r).1.length+1<=BIG from Nat.le_of_lt (bP_ (by omega)));cases hkd:fB_ (aA_ s 3 r).1 n.Id_ ((aA_ s 3 r).1.length+1) 0 with
      | none =>
       rw[hkd]at hen;exact⟨([],2),hpre (aa_ hdir (ac_ rfl (aa_ hcon (ac_ (by simp[hc]) (aa_ hen rfl))))),rfl,λ e=>by cases e⟩
      | some l =>
       rw[hkd]at hen;have hll:l.length<=(aA_ s 3 r).1.length+1:=by
        unfold fB_ at hkd;obtain⟨l',h1,h2⟩:=qOb.1 hkd;split at h2
        .obtain rfl:=qSj h2;exact rn_ _ _ _ h1
        .cases h2
       have hloop:∀(ys:List (Xq×Xn)) (i:Nat) (acc:List Xq×List Str),l.drop i=ys->i<=l.length->1<=acc.1.length->(acc.1.length:Int)<=left ->
         ∃w,ak_ (du_ (cL_ m) s left) (ys.length+1) ((i:Int),l.map (·.1),l.map (·.2),acc.1)=some w/\(match be_ (fG (bs_ s f) left) acc ys with
          | .inl a=>w = .fall a.1
          | .inr e=>e.2.2≠0/\w = .ret ([],e.2.2)):=by
        intro ys
        induction ys with
        | nil =>
         intro i acc hdr hi _ _;have:i=l.length:=by
          have:=congrArg List.length hdr;simp at this;omega
         subst this;refine⟨.fall acc.1,ba_ ?_,by simp[be_]⟩;unfold du_;exact ac_ (by simp) rfl
        | cons q ys ih =>
         intro i acc hdr hi a1 a2;obtain⟨g1,g2,g3⟩:=rm_ hdr;have hleft:w64 (left-(acc.1.length:Int))=left-(acc.1.length:Int):=ap_ ⟨by omega,by omega⟩;obtain⟨p,k1,k2,k3⟩:=get_R hs f m (n:=q.1) (r:=q.2) (left:=left-(acc.1.length:Int)) (by omega) (by omega) (by omega);have hget1:al_ (l.map (·.1)) (i:Int)=some q.1:=by rw[bl_,List.getElem?_map,g1];rfl
         have hget2:al_ (l.map (·.2)) (i:Int)=some q.2:=by rw[bl_,List.getElem?_map,g1];rfl
         simp only[be_];unfold fG;by_cases h0:(bs_ s f q.1 q.2 (left-(acc.1.length:Int))).2.2=0
         .rw[if_pos h0];have k4:=k3 (k2.trans h0);obtain⟨c1,c2,c3⟩:=ke_ hs f h0;obtain⟨w,w1,w2⟩:=ih (i+1) (acc.1++(bs_ s f q.1 q.2 (left-(acc.1.length:Int))).1,acc.2++(bs_ s f q.1 q.2 (left-(acc.1.length:Int))).2.1) g2 (by omega) (by simp;omega) (by simp;omega);refine⟨w,bN_ ?_ w1,w2⟩;unfold du_;refine ah_ (by simp;omega) (aa_ hget1 (aa_ hget2 (aa_ (by rw[hleft];exact k1) (ac_ (by rw[k2,h0];rfl) (aa_ (a:=acc.1++(bs_ s f q.1 q.2 (left-(acc.1.length:Int))).1) (by rw[k4];exact cB_ (show acc.1.length+_<=_ by omega) (show(acc.1.length+_)*128<=_ by omega)) ?_)))));rw[au_ (by omega)]
         .rw[if_neg h0];refine⟨.ret ([],p.2),ba_ ?_,h0,by rw[k2]⟩;unfold du_;exact ah_ (by simp;omega) (aa_ hget1 (aa_ hget2 (aa_ (by rw[hleft];exact k1) (ah_ (by rw[k2];simpa using h0) rfl))))
       obtain⟨w,w1,w2⟩:=hloop l 0 ([n],(aA_ s 3 r).2.1) (by simp) (Nat.zero_le _) (by simp) (by simp;omega);have w1':=hR_ w1 (show l.length+1<=BIG from Nat.le_of_lt (bP_ (by omega)));cases hr:be_ (fG (bs_ s f) left) ([n],(aA_ s 3 r).2.1) l with
       | inl a =>
        rw[hr]at w2;subst w2;simp only[hr,outS];exact⟨(a.1,0),hpre (aa_ hdir (ac_ rfl (aa_ hcon (ac_ (by simp[hc]) (aa_ hen (aa_ w1' rfl)))))),rfl,λ _=>rfl⟩
       | inr e =>
        rw[hr]at w2;obtain⟨h0,rfl⟩:=w2;simp only[hr,outS];exact⟨([],e.2.2),hpre (aa_ hdir (ac_ rfl (aa_ hcon (ac_ (by simp[hc]) (aa_ hen (aa_ w1' rfl)))))),rfl,λ e0=>absurd e0 h0⟩
     .rw[if_neg hc];exact⟨([],(aA_ s 3 r).2.2),hpre (aa_ hdir (ac_ rfl (aa_ hcon (ah_ (by simpa using hc) rfl)))),rfl,λ e=>absurd e hc⟩
    .have hk:aO_ n=1:=if_neg hd;have hdir:cg_ n.Xv=some false:=by unfold cg_;simp[hd]
     rw[hk];have hcon:=nU_ hs (k:=1) (by omega) r;refine⟨([rS_ n (aA_ s 1 r).1],(aA_ s 1 r).2.2),hpre (aa_ hdir (ah_ rfl (aa_ hcon rfl))),?_,λ e => ?_⟩
     .split
      .rename_i hc;exact hc
      .rfl
     .have hc:(aA_ s 1 r).2.2=0:=e;rw[if_pos hc,if_neg hd]
def leN(x:Xq):List Xq->Nat | []=>0|y::l=>if y.Id_<=x.Id_ then leN x l+1 else 0
theorem leN_le(x:Xq):∀l,leN x l<=l.length
 | []=>Nat.le_refl _
 | y::l=>by
  unfold leN;have:=leN_le x l;split<;>simp<;>omega
theorem leN_lt(x:Xq):∀{l:List Xq} {i:Nat} (h:i<l.length),i<leN x l->l[i].Id_<=x.Id_
 | y::l,0,_,hi=>by
  unfold leN at hi;split at hi
  .assumption
  .omega
 | y::l,i+1,h,hi=>by
  unfold leN at hi;split at hi
  .exact leN_lt x (l:=l) (i:=i) (by simpa using h) (by omega)
  .omega
theorem leN_at(x:Xq):∀{l:List Xq} (h:leN x l<l.length),¬l[leN x l].Id_<=x.Id_
 | y::l,h=>by
  by_cases hy:y.Id_<=x.Id_
  .have e:leN x (y::l)=leN x l+1:=by simp[leN,hy]
   simp only[e]at h ⊢;exact leN_at x (l:=l) (by simpa using h)
  .have e:leN x (y::l)=0:=by simp[leN,hy]
   simp only[e];exact hy
def insA(out:List Xq)(x:Xq):List Xq:=out.take (leN x out)++[x]++out.drop (leN x out)
theorem insA_len(out:List Xq)(x:Xq):(insA out x).length=out.length+1:=by
 have:=leN_le x out;unfold insA;simp;omega
theorem insA_perm(out:List Xq)(x:Xq):(insA out x).Perm (x::out):=by
 unfold insA;rw[List.append_assoc];have h:=List.perm_middle (a:=x) (l₁ := out.take (leN x out)) (l₂ := out.drop (leN x out));rw[List.take_append_drop]at h;exact h
theorem insA_sorted{out:List Xq}(x:Xq)(h:out.Pairwise λ a b=>leK (λ n:Xq=>n.Id_) a b=true):(insA out x).Pairwise λ a b=>leK (λ n:Xq=>n.Id_) a b=true:=by
 have hle:=leN_le x out;unfold insA;have hget:=List.pairwise_iff_getElem.1 h;rw[List.append_assoc];refine List.pairwise_append.2 ⟨h.sublist (List.take_sublist _ _),List.pairwise_append.2 ⟨by simp,h.sublist (List.drop_sublist _ _),λ a ha b hb => ?_⟩,λ a ha b hb => ?_⟩
 .rw[List.mem_singleton]at ha;subst ha;obtain⟨j,hj,e⟩:=List.getElem_of_mem hb;rw[List.length_drop]at hj;rw[List.getElem_drop]at e;have h1:=leN_at a (l:=out) (by omega);unfold leK;simp only[qDe];rw[←e];rcases Nat.eq_zero_or_pos j with h0|h0
  .subst h0;simp only[Nat.add_zero];omega
  .have:=hget (leN a out) (leN a out+j) (by omega) (by omega) (by omega);unfold leK at this;simp only[qDe]at this;omega
 .obtain⟨i,hi,e⟩:=List.getElem_of_mem ha;rw[List.length_take]at hi;rw[List.getElem_take]at e;have h1:=leN_lt x (l:=out) (i:=i) (by omega) (by omega);rcases List.mem_append.1 hb with hb|hb
  .rw[List.mem_singleton]at hb;subst hb;unfold leK;simp only[qDe];rw[←e];exact h1
  .obtain⟨j,hj,e2⟩:=List.getElem_of_mem hb;rw[List.length_drop]at hj;rw[List.getElem_drop]at e2;rw[←e,←e2];exact hget i (leN x out+j) (by omega) (by omega) (by omega)
theorem sorted_step{out l:List Xq}{i:Nat}(hi:i<l.length)(ho:out.length<=1000000):ak_ (gF_ (out,(i:Int)) l) BIG 0=some ((leN l[i] out:Nat):Int):=by
 have hle:=leN_le l[i] out;refine aU_ (T:=λ j=>(j:Int)) (leN l[i] out) (bP_ (by omega)) (λ j hj => ?_) ?_
 .have hj':j<out.length:=by omega
  unfold gF_;refine aa_ (a:=true) (ah_ (bj_ hj') (aa_ (aq_ hj') (aa_ (aq_ hi) ?_))) (ah_ rfl (by rw[au_ (by omega)]));exact congrArg some (decide_eq_true (leN_lt l[i] hj' hj))
 .unfold gF_;refine aa_ (a:=false) ?_ rfl;by_cases h:leN l[i] out<out.length
  .refine ah_ (bj_ h) (aa_ (aq_ h) (aa_ (aq_ hi) ?_));exact congrArg some (decide_eq_false (leN_at l[i] h))
  .have:leN l[i] out=out.length:=by omega
   rw[this];exact ac_ (br_ _) rfl
theorem p9_{l:List Xq}(hl:l.length<=100000):∃y,jE_ l=some y/\y.Perm l/\y.Pairwise λ a b=>leK (λ n:Xq=>n.Id_) a b=true:=by
 have h:=jO_ (body:=gG_ l) l (λ out _ x=>insA out x) (λ i s=>(s,(i:Int))) (λ i s=>s.length=i) (λ s=>s) [] (bP_ (by omega)) rfl (λ i s hi hs => ?_) (λ s hs => ?_)
 .refine⟨_,aa_ h rfl,?_⟩;have hp:∀(xs acc:List Xq) (k:Nat),(acc.Pairwise λ a b=>leK (λ n:Xq=>n.Id_) a b=true)->(fv_ (λ out _ x=>insA out x) acc k xs).Perm (xs++acc)/\(fv_ (λ out _ x=>insA out x) acc k xs).Pairwise λ a b=>leK (λ n:Xq=>n.Id_) a b=true:=λ xs=>by
   induction xs with
   | nil=>exact λ acc k ha=>⟨List.Perm.refl _,ha⟩
   | cons x xs ih =>
    intro acc k ha;obtain⟨i1,i2⟩:=ih (insA acc x) (k+1) (insA_sorted x ha);refine⟨i1.trans ?_,i2⟩;refine((insA_perm acc x).append_left xs).trans ?_;exact List.perm_middle
  obtain⟨p1,p2⟩:=hp l [] 0 List.Pairwise.nil;rw[List.append_nil]at p1;exact⟨p1,p2⟩
 .have hle:=leN_le l[i] s;refine⟨?_,by rw[insA_len,hs]⟩;unfold gG_;refine ah_ (bj_ hi) (aa_ (sorted_step (out:=s) hi (by omega)) (aa_ (a:=s.take (leN l[i] s)) ?_ (aa_ (a:=s.take (leN l[i] s)) ?_ (aa_ (aq_ hi) (aa_ (a:=s.take (leN l[i] s)++[l[i]]) ?_ (aa_ (a:=s.drop (leN l[i] s)) ?_ (aa_ (a:=insA s l[i]) ?_ (by rw[au_ (by omega)]))))))))
  .show bD_ s 0 ((leN l[i] s:Nat):Int)=_;rw[ch_ (by omega) (by omega) (by omega),qTn];rfl
  .rw[cB_ (by simp;omega) (by simp;omega)];rfl
  .rw[cB_ (by simp;omega) (by simp;omega)]
  .show bD_ s ((leN l[i] s:Nat):Int) (s.length:Int)=_;rw[ch_ (by omega) (by omega) (by omega),qTn,qTn,List.take_length]
  .rw[cB_ (by simp;omega) (by simp;omega)];rfl
 .unfold gG_;exact ac_ (br_ _) rfl
theorem sorts_agree{l y z:List Xq}(hy:dM_ (λ n:Xq=>n.Id_) l=some y)(hz:jE_ l=some z)(hl:l.length<=100000)(hn:(l.map (·.Id_)).Nodup):y=z:=by
 obtain⟨p1,p2⟩:=lg_ hy;obtain⟨z',h1,q1,q2⟩:=p9_ hl;rw[hz]at h1;obtain rfl:=qSj h1;refine hN_ (p1.trans q1.symm) p2 q2 λ a ha b hb h3 h4 => ?_
 refine key_inj hn a (p1.subset ha) b (p1.subset hb) ?_;unfold leK at h3 h4;simp only[qDe]at h3 h4;omega
def headD(d:Str):Option (Int×Int×Xq×Xn×Nat):=(nD d 4 0).bind λ q1=>(nD d 4 q1.2).bind λ q2=>(fU_ d q2.2).map λ q3=>(q1.1,q2.1,q3.1,q3.2.1,q3.2.2)
theorem P_head{d:Str}(hd:d.length<=1024):∃v1 d1 v2 d2 x d3,ax_ (Yh.mk d 0 false) 4=some (v1,d1)/\ax_ d1 4=some (v2,d2)/\cn_ d2=some (x,d3)/\(match headD d with
  | none=>d3.Zv=true
  | some q=>d3.Zv=false/\d3.at_=(q.2.2.2.2:Int)/\v1=q.1/\v2=q.2.1/\x=Xd.mk q.2.2.1 q.2.2.2.1):=by
 have h0:DS d (some 0) (Yh.mk d 0 false):=⟨rfl,rfl,0,rfl,Nat.zero_le _,λ b hb=>qSj hb⟩;obtain⟨v1,d1,a1,b1,c1⟩:=lk_ (by omega) h0 (w:=4) (by omega) (by omega);obtain⟨v2,d2,a2,b2,c2⟩:=lk_ (by omega) b1 (w:=4) (by omega) (by omega);obtain⟨x,d3,a3,b3,c3⟩:=d_entry (by omega) b2;refine⟨v1,d1,v2,d2,x,d3,a1,a2,a3,?_⟩;unfold headD;cases p1:nD d 4 0 with
 | none =>
  simp only[qBs,p1,Option.map_none,Option.bind_none]at b3;exact b3.2.1
 | some q1 =>
  simp only[qBs,p1,Option.map_some]at b3 c2 c3 ⊢;cases p2:nD d 4 q1.2 with
  | none =>
   simp only[p2,Option.map_none,Option.bind_none]at b3;exact b3.2.1
  | some q2 =>
   simp only[qBs,p2,Option.map_some]at b3 c3 ⊢;cases p3:fU_ d q2.2 with
   | none =>
    simp only[p3,Option.map_none]at b3;exact b3.2.1
   | some q3 =>
    simp only[p3,Option.map_some]at b3 ⊢;obtain⟨_,e2,a,e3,_,e5⟩:=b3;exact⟨e2,by rw[e3,e5 _ rfl],c1 0 q1 rfl p1,c2 q1.2 q2 rfl p2,c3 q2.2 q3 rfl p3⟩
theorem R_head{d:Str}(hd:d.length<=1024):∃v1 d1 v2 d2 n r d3,aC_ (Yc.mk d 0 false) 4=some (v1,d1)/\aC_ d1 4=some (v2,d2)/\ez_ d2=some (n,r,d3)/\(match headD d with
  | none=>d3.Zf=true
  | some q=>d3.Zf=false/\d3.At_=(q.2.2.2.2:Int)/\v1=q.1/\v2=q.2.1/\n=q.2.2.1/\r=q.2.2.2.1):=by
 have h0:RS d (some 0) (Yc.mk d 0 false):=⟨rfl,rfl,0,rfl,Nat.zero_le _,λ b hb=>qSj hb⟩;obtain⟨v1,d1,a1,b1,c1⟩:=kd_ (by omega) h0 (w:=4) (by omega) (by omega);obtain⟨v2,d2,a2,b2,c2⟩:=kd_ (by omega) b1 (w:=4) (by omega) (by omega);obtain⟨n,r,d3,a3,b3,c3⟩:=r_entry (by omega) b2;refine⟨v1,d1,v2,d2,n,r,d3,a1,a2,a3,?_⟩;unfold headD;cases p1:nD d 4 0 with
 | none =>
  simp only[qBs,p1,Option.map_none,Option.bind_none]at b3;exact b3.2.1
 | some q1 =>
  simp only[qBs,p1,Option.map_some]at b3 c2 c3 ⊢;cases p2:nD d 4 q1.2 with
  | none =>
   simp only[p2,Option.map_none,Option.bind_none]at b3;exact b3.2.1
  | some q2 =>
   simp only[qBs,p2,Option.map_some]at b3 c3 ⊢;cases p3:fU_ d q2.2 with
   | none =>
    simp only[p3,Option.map_none]at b3;exact b3.2.1
   | some q3 =>
    simp only[p3,Option.map_some]at b3 ⊢;obtain⟨_,e2,a,e3,_,e5⟩:=b3;obtain⟨f1,f2⟩:=c3 q2.2 q3 rfl p3;exact⟨e2,by rw[e3,e5 _ rfl],c1 0 q1 rfl p1,c2 q1.2 q2 rfl p2,f1,f2⟩
theorem entsF_all(s:Str):∀(f a:Nat) {l:List (Xq×Xn)},a<=s.length->fi_ s f a=some l->∀q∈l,q.1.Xv<=9223372036854775807/\q.1.Xy.length<=s.length
 | 0,a,l,_,h=>by cases h
 | f+1,a,l,ha,h=>by
  unfold fi_ at h;split at h
  .obtain⟨q,hq,h⟩:=qOb.1 h;obtain⟨l',h1,rfl⟩:=Option.map_eq_some_iff.1 h;obtain⟨b1,b2,b3,b4⟩:=rR_ ha hq;intro p hp;rcases List.mem_cons.1 hp with rfl|hp
   .exact⟨b3,b4⟩
   .exact entsF_all s f _ b1 h1 p hp
  .obtain rfl:=qSj h;intro p hp;cases hp
abbrev SmN(n:Xq):Prop:=n.Xv<=9223372036854775807/\n.Xy.length<=9223372036854775807
theorem getN_all {s:Xj} (hs:StOK s):∀(f:Nat) {n:Xq} {r:Xn} {left:Int},SmN n->∀x∈(bs_ s f n r left).1,SmN x
 | 0,n,r,left,_,x,hx=>by cases hx
 | f + 1,n,r,left,hn,x,hx=>by
  obtain⟨hb1,_⟩:=ll_ hs (aO_ n) r;unfold bs_ at hx;split at hx
  .cases hx
  .split at hx
   .split at hx
    .split at hx
     .cases hx
     .rename_i l hk;have hkl:∀q∈l,SmN q.1:=by
       unfold fB_ at hk;obtain⟨l',h1,h2⟩:=qOb.1 hk;split at h2
       .obtain rfl:=qSj h2;intro q hq;have:=entsF_all _ _ _ (Nat.zero_le _) h1 q hq;exact⟨this.1,by omega⟩
       .cases h2
      have hi:=hf_ (f:=fG (bs_ s f) left) (λ _ acc=>∀y∈acc.1,SmN y) (λ e=>e.1=[]) (xs:=l) (k:=0) (s0:=([n],(aA_ s (aO_ n) r).2.1)) (λ y hy=>by rw[List.mem_singleton]at hy;rw[hy];exact hn) λ i acc q hq a1=>by
       unfold fG;refine⟨λ s' he => ?_,λ e he => ?_⟩
       .split at he
        .obtain rfl:=Sum.inl.inj he;intro y hy;rcases List.mem_append.1 hy with hy|hy
         .exact a1 y hy
         .exact getN_all hs f (hkl q hq) y hy
        .cases he
       .split at he
        .cases he
        .obtain rfl:=Sum.inr.inj he;rfl
      cases hr:be_ (fG (bs_ s f) left) ([n],(aA_ s (aO_ n) r).2.1) l with
      | inl acc =>
       rw[hr]at hx;exact hi.1 acc hr x hx
      | inr e =>
       rw[hr]at hx;have he:=hi.2 e hr;simp only[outS,he]at hx;cases hx
    .rw[List.mem_singleton]at hx;rw[hx];exact hn
   .cases hx
theorem entD_small{s:Str}{a:Nat}{q:Xq×Xn×Nat}(ha:a<=s.length)(hs:s.length<=9223372036854775807)(h:fU_ s a=some q):SmN q.1:=by
 have:=rR_ ha h;exact⟨this.2.2.1,by omega⟩
theorem tree_both {s:Xj} (hs:StOK s) (sc:Str):∃T E rd,bB_ (Xg.mk s []) sc=some (T,E,rd)/\eO_ s sc=some (T,E)/\T.Xz.length<=1024 /\
  (E=0->OkT T.Xz T.Xr/\∃next many n r a3,(blk s sc 4).2=0/\headD (blk s sc 4).1=some (next,many,n,r,a3)/\many<=1024/\(bs_ s 1025 n r many).2.2=0/\rd=Xg.mk s ([sc]++(bs_ s 1025 n r many).2.1)/\next=T.Xr/\many=(T.Xz.length:Int)/\a3=(blk s sc 4).1.length/\(bs_ s 1025 n r many).1.Perm T.Xz):=by
 have hbl:=mD_ hs sc 4;have hrb:=fg_ hs sc 4 (seen:=[]) (by simp);have hrr:=np_ hs sc (k:=4) (by omega);unfold bB_ eO_;by_cases h0:(blk s sc 4).2=0
 .rw [if_pos h0]at hrb;obtain⟨v1,d1,v2,d2,x,d3,p1,p2,p3,p4⟩:=P_head hbl;obtain⟨w1,e1,w2,e2,n,r,e3,q1,q2,q3,q4⟩:=R_head hbl;have err:∀{X:Option (Xk×Int×Xg)} {Y:Option (Xk×Int)},((d3.Zv||(d3.at_ != ((blk s sc 4).1.length:Int)))||decide (v2<1)||decide (v2>1024))=true->((e3.Zf||(e3.At_ != ((blk s sc 4).1.length:Int)))||decide (w2<1)||decide (w2>1024))=true ->
    ∃T E rd,(bif((d3.Zv||(d3.at_ != ((blk s sc 4).1.length:Int)))||decide (v2<1)||decide (v2>1024))then some (Xk.mk 0 [],2,Xg.mk s ([]++[sc]))else X)=some (T,E,rd)/\(bif((e3.Zf||(e3.At_ != ((blk s sc 4).1.length:Int)))||decide (w2<1)||decide (w2>1024))then some (Xk.mk 0 [],(2:Int))else Y)=some (T,E)/\T.Xz.length<=1024 /\
     (E=0->OkT T.Xz T.Xr/\∃next many n r a3,(blk s sc 4).2=0/\headD (blk s sc 4).1=some (next,many,n,r,a3)/\many<=1024/\(bs_ s 1025 n r many).2.2=0/\rd=Xg.mk s ([sc]++(bs_ s 1025 n r many).2.1)/\next=T.Xr/\many=(T.Xz.length:Int)/\a3=(blk s sc 4).1.length/\(bs_ s 1025 n r many).1.Perm T.Xz):=λ ha hb =>
   ⟨Xk.mk 0 [],2,Xg.mk s ([]++[sc]),ah_ ha rfl,ah_ hb rfl,by simp,λ e=>by cases e⟩
  have pre:∀{A:Option (Xk×Int×Xg)} {B:Option (Xk×Int)} {A':Option (Xk×Int×Xg)} {B':Option (Xk×Int)} {P:Xk->Int->Xg->Prop},A=A'->B=B'->(∃T E rd,A'=some (T,E,rd)/\B'=some (T,E)/\P T E rd)->∃T E rd,A=some (T,E,rd)/\B=some (T,E)/\P T E rd:=λ ha hb h=>by rw[ha,hb];exact h
  refine pre (aa_ hrb (ac_ rfl (aa_ p1 (aa_ p2 (aa_ p3 rfl))))) (aa_ hrr (ac_ (by simp[h0]) (aa_ q1 (aa_ q2 (aa_ q3 rfl))))) ?_;cases hh:headD (blk s sc 4).1 with
  | none =>
   rw[hh]at p4 q4;exact hh▸err (by simp[p4]) (by simp[q4])
  | some q =>
   obtain⟨next,many,n',r',a3⟩:=q;rw[hh]at p4 q4;obtain⟨p5,p6,rfl,rfl,rfl⟩:=p4;obtain⟨q5,q6,rfl,rfl,rfl,rfl⟩:=q4;simp only at *
   by_cases hc:(a3:Int)≠((blk s sc 4).1.length:Int)\/w2<1\/w2>1024
   .refine pre (ah_ ?_ rfl) (ah_ ?_ rfl) ⟨Xk.mk 0 [],2,_,rfl,rfl,by simp,λ e=>by cases e⟩
    .simp[p5,p6];omega
    .simp[q5,q6];omega
   .refine pre (ac_ ?_ rfl) (ac_ ?_ rfl) ?_
    .simp[p5,p6];omega
    .simp[q5,q6];omega
    .have hsm:SmN n:=by
      unfold headD at hh;obtain⟨z1,y1,hh⟩:=qOb.1 hh;obtain⟨z2,y2,hh⟩:=qOb.1 hh;obtain⟨z3,y3,hh⟩:=Option.map_eq_some_iff.1 hh;simp only[Prod.mk.injEq]at hh;rw[←hh.2.2.1];have b1:=lj_ (Nat.zero_le _) y1;have b2:=lj_ b1.1 y2;exact entD_small b2.1 (by omega) y3
     obtain⟨e,b,rd,k1,k2,k3⟩:=add_P hs 1025 BIG (ns:=[]) (seen:=[]++[sc]) (most:=w2) (n:=n) (r:=r) (by decide) (by simp;omega) (by omega) (by simp);obtain⟨p,g1,g2,g3⟩:=get_R hs 1025 BIG (n:=n) (r:=r) (left:=w2) (by decide) (by omega) (by omega);have hz:w2-(([]:List Xq).length:Int)=w2:=by simp
     rw[hz]at k2 k3;by_cases hg:(bs_ s 1025 n r w2).2.2=0
     .obtain⟨rfl,rfl⟩:=k3 (k2.trans hg);have g4:=g3 (g2.trans hg);obtain⟨c1,c2,c3⟩:=ke_ hs 1025 hg;have hall:=getN_all hs 1025 (r:=r) (left:=w2) hsm;simp only[List.nil_append]at k1;obtain⟨y,hy⟩:∃y,dM_ (λ n:Xq=>n.Id_) (bs_ s 1025 n r w2).1=some y:=⟨_,by unfold dM_;rw[if_pos (by omega)]⟩;obtain⟨z,hz1,hz2,hz3⟩:=p9_ (l:=(bs_ s 1025 n r w2).1) (by omega);obtain⟨y1,y2⟩:=lg_ hy;have hyl:=y1.length_eq;have hzl:=hz2.length_eq;refine pre (aa_ k1 (ac_ (by rw[k2,hg];rfl) (aa_ hy rfl))) (aa_ g1 (ac_ (by rw[g2,hg];rfl) (aa_ (by rw[g4];exact hz1) rfl))) ?_;by_cases hlen:((bs_ s 1025 n r w2).1.length:Int)=w2
      .obtain⟨b1,t1,t2⟩:=hI_ (Xk.mk w1 y) (by show y.length<=1024;omega) (λ x hx=>hall x (y1.subset hx));obtain⟨b2,t3,t4⟩:=jR_ (Xk.mk w1 z) (by show z.length<=1024;omega) (λ x hx=>hall x (hz2.subset hx));have hnd:∀{l:List Xq} {nx:Int},OkT l nx->(l.map (·.Id_)).Nodup:=λ h=>by
        rw[List.nodup_iff_pairwise_ne,List.pairwise_map];exact h.srt.imp λ h e=>by omega
       have hyz:(b1=true\/b2=true)->y=z:=λ h=>by
        refine sorts_agree hy hz1 (by omega) ?_;rcases h with h|h
        .exact(y1.map _).nodup_iff.1 (hnd (t2.1 h))
        .exact(hz2.map _).nodup_iff.1 (hnd (t4.1 h))
       have hbb:b1=b2:=by
        cases hb1:b1 with
        | true =>
         have:=hyz (.inl hb1);subst this;exact(t4.2 (t2.1 hb1)).symm
        | false =>
         cases hb2:b2 with
         | false=>rfl
         | true =>
          have:=hyz (.inr hb2);subst this;rw[t2.2 (t4.1 hb2)]at hb1;cases hb1
       subst hbb;refine pre (aa_ (a := !b1) (ac_ (by simp;omega) (aa_ t1 rfl)) rfl) (aa_ (a := !b1) (ac_ (by rw[g4];simp;omega) (aa_ t3 rfl)) rfl) ?_;cases hb:b1 with
       | false=>exact⟨Xk.mk 0 [],2,_,rfl,rfl,by simp,λ e=>by cases e⟩
       | true =>
        have:=hyz (.inl hb);subst this;exact⟨Xk.mk w1 y,0,_,rfl,rfl,by show y.length<=1024;omega,λ _=>⟨t2.1 hb,w1,w2,n,r,a3,h0,rfl,by omega,hg,rfl,rfl,by show w2=(y.length:Int);omega,by omega,y1.symm⟩⟩
      .refine pre (aa_ (a:=true) (ah_ (by simp;omega) rfl) rfl) (aa_ (a:=true) (ah_ (by rw[g4];simp;omega) rfl) rfl) ⟨Xk.mk 0 [],2,_,rfl,rfl,by simp,λ e=>by cases e⟩
     .refine pre (aa_ k1 (ah_ (by rw[k2];simpa using hg) rfl)) (aa_ g1 (ah_ (by rw[g2];simpa using hg) rfl)) ⟨Xk.mk 0 [],(bs_ s 1025 n r w2).2.2,rd,by rw[k2],by rw[g2],by simp,λ e=>absurd e hg⟩
 .rw[if_neg h0]at hrb;exact⟨Xk.mk 0 [],(blk s sc 4).2,Xg.mk s [],aa_ hrb (ah_ (by simp[h0]) rfl),aa_ hrr (ah_ (by simp[h0]) rfl),by simp,λ e=>absurd e h0⟩
structure Small17(s:Xh):Prop where
 ul:s.Xp.Yq.length<=10
 um:∀u∈s.Xp.Yq,u.Yp.length<=10
 ql:s.Xp.Yj.length<=10
 nl:s.Xp.Xm.Xz.length<=12
 el:s.Xp.Xs.length<=20
 bl:s.Yf.Xc.length<=120
 sl:s.Xt.length<=6
theorem pW_{α:Type}{body:Int->Option (Step Int (Out Unit Bool))}(xs:List α)(p:α->Bool)(hn:xs.length<BIG)(hb:∀i (h:i<xs.length),body (i:Int)=some (if p xs[i]then .done (.ret false)else .next ((i+1:Nat):Int)))
  (he:body (xs.length:Int)=some (.done (.fall ()))):(ak_ body BIG 0=some (.ret false))\/(ak_ body BIG 0=some (.fall ())/\∀x∈xs,p x=false):=by
 have h:=aV_ xs (fun(_:Nat) x=>if p x then some false else none) hn (λ i hi=>by
  rw[hb i hi];cases p xs[i]<;>rfl) he
 rw[jm_ p (λ _=>false)]at h;cases hf:xs.find? p with
 | some x =>
  rw[hf]at h;exact .inl h
 | none =>
  rw[hf]at h;exact .inr ⟨h,λ x hx=>by
   have:=List.find?_eq_none.1 hf x hx;simpa using this⟩
theorem small_eq(s:Xh):∃b,ih_ s=some b/\(b=true->Small17 s):=by
 unfold ih_;cases hc:(((((decide ((s.Xp.Yq.length:Int)>10))||(decide ((s.Xp.Yj.length:Int)>10)))||(decide ((s.Xp.Xm.Xz.length:Int)>12)))||(decide ((s.Xp.Xs.length:Int)>20)))||(decide ((s.Yf.Xc.length:Int)>120)))||(decide ((s.Xt.length:Int)>6))with
 | true=>exact⟨false,rfl,λ h=>(nomatch h)⟩
 | false =>
  simp only[Bool.or_eq_false_iff,qDf]at hc;have l1:=pW_ (body:=hm_ s) s.Xp.Yq (λ u=>decide ((u.Yp.length:Int)>10)) (bP_ (by omega)) (λ i hi=>by
   unfold hm_;refine ah_ (bj_ hi) (aa_ (aq_ hi) ?_);rw[au_ (by omega)];cases decide ((s.Xp.Yq[i].Yp.length:Int)>10)<;>rfl) (by unfold hm_;exact ac_ (br_ _) rfl)
  have l2:=pW_ (body:=hn_ s) s.Xp.Xm.Xz (λ u=>decide ((u.Xl.length:Int)>3000)||decide ((u.Xy.length:Int)>200)) (bP_ (by omega)) (λ i hi=>by
   unfold hn_;refine ah_ (bj_ hi) (aa_ (aq_ hi) ?_);rw[au_ (by omega),aq_ hi];simp only[qBs];cases decide ((s.Xp.Xm.Xz[i].Xl.length:Int)>3000)<;>cases decide ((s.Xp.Xm.Xz[i].Xy.length:Int)>200)<;>rfl) (by unfold hn_;exact ac_ (br_ _) rfl)
  have l3:=pW_ (body:=ho_ s) s.Yf.Xc (λ u=>decide ((u.Xl.length:Int)>2000)||decide ((u.Yx.length:Int)>100)) (bP_ (by omega)) (λ i hi=>by
   unfold ho_;refine ah_ (bj_ hi) (aa_ (aq_ hi) ?_);rw[au_ (by omega),aq_ hi];simp only[qBs];cases decide ((s.Yf.Xc[i].Xl.length:Int)>2000)<;>cases decide ((s.Yf.Xc[i].Yx.length:Int)>100)<;>rfl) (by unfold ho_;exact ac_ (br_ _) rfl)
  have l4:=pW_ (body:=hp_ s) s.Xt (λ u=>decide ((u.Yx.length:Int)>100)) (bP_ (by omega)) (λ i hi=>by
   unfold hp_;refine ah_ (bj_ hi) (aa_ (aq_ hi) ?_);rw[au_ (by omega)];cases decide ((s.Xt[i].Yx.length:Int)>100)<;>rfl) (by unfold hp_;exact ac_ (br_ _) rfl)
  rcases l1 with l1|⟨l1,hm⟩
  .exact⟨false,ac_ rfl (aa_ l1 rfl),λ h=>(nomatch h)⟩
  rcases l2 with l2|⟨l2,_⟩
  .exact⟨false,ac_ rfl (aa_ l1 (aa_ l2 rfl)),λ h=>(nomatch h)⟩
  rcases l3 with l3|⟨l3,_⟩
  .exact⟨false,ac_ rfl (aa_ l1 (aa_ l2 (aa_ l3 rfl))),λ h=>(nomatch h)⟩
  rcases l4 with l4|⟨l4,_⟩
  .exact⟨false,ac_ rfl (aa_ l1 (aa_ l2 (aa_ l3 (aa_ l4 rfl)))),λ h=>(nomatch h)⟩
  .refine⟨true,ac_ rfl (aa_ l1 (aa_ l2 (aa_ l3 (aa_ l4 rfl)))),λ _=>⟨by omega,λ u hu => ?_,by omega,by omega,by omega,by omega,by omega⟩⟩;have:=hm u hu;simp only[qDf]at this;omega
theorem Small17.size{s:Xh}(h:Small17 s)(hu:nd_ s.Xp.Yq)(hq:oN_ s.Xp.Yj):SizeOK s.Xp :=
 ⟨by have:=h.ul;omega,λ u hm=>by have:=h.um u hm;omega,hu,by have:=h.ql;omega,hq,by have:=h.nl;omega,by have:=h.el;omega⟩
structure TreeAt(s:Xj)(sc:Str)(T:Xk)(E:Int):Prop where
 get:bM_ s sc=some (T,E)
 ref:eO_ s sc=some (T,E)
 len:T.Xz.length<=1024
 ok:E=0->OkT T.Xz T.Xr
theorem tree_at{s:Xj}(hs:StOK s)(sc:Str):∃T E,TreeAt s sc T E:=by
 obtain⟨T,E,rd,t1,t2,t3,t4⟩:=tree_both hs sc;exact⟨T,E,by unfold bM_;exact aa_ t1 rfl,t2,t3,λ e=>(t4 e).1⟩
structure Ok17(s:Xh):Prop where
 sl:s.Xt.length<=64
 files:FileOK s.Xp
 store:StOK s.Yf
 time:∀x∈s.Xt,0<=x.Yl/\x.Yl<=1099511627776
 asc:∀i x y,0<i->s.Xt[i]? = some x->s.Xt[i-1]? = some y->y.Yl<x.Yl
 tree:∀x∈s.Xt,∃T,TreeAt s.Yf x.Yx T 0
noncomputable def okTr(s:Xj)(sc:Str):Bool:=match eO_ s sc with|some (_,e)=>e==0|none=>false
def kf_(l:List Yb)(i:Nat):Yb:=l.getD (i-1) (Yb.mk 0 [])
noncomputable def badS(s:Xh)(i:Nat)(x:Yb):Bool:=(decide (x.Yl<0)||decide (x.Yl>1099511627776))||(decide (0<i)&&decide ((kf_ s.Xt i).Yl>=x.Yl)) || !(okTr s.Yf x.Yx)
theorem ok_modes{T:Xk}(h:OkT T.Xz T.Xr):∀n∈T.Xz,n.Xv<=9223372036854775807/\n.Xy.length<=9223372036854775807:=λ n hn=>⟨h.hm hn,by have:=h.name hn;omega⟩
theorem Right_eq (s:Xh) (z:SizeOK s.Xp) (hb:NodesB s.Xp) (hbl:s.Yf.Xc.length<=120):∃b,im_ s=some b/\(b=true↔Ok17 s):=by
 unfold im_;by_cases hl:s.Xt.length<=64
 .obtain⟨b1,e1,g1⟩:=ul_ s.Xp z hb;obtain⟨b2,e2,g2⟩:=Right_iff (s:=s.Yf) (by omega);cases b1 with
  | false=>exact⟨false,aa_ (a:=true) (ac_ (by simp;omega) (aa_ e1 rfl)) (aa_ (a:=true) rfl rfl),λ h=>(nomatch h),λ h=>by rw[g1.2 h.files]⟩
  | true =>
  cases b2 with
  | false=>exact⟨false,aa_ (a:=false) (ac_ (by simp;omega) (aa_ e1 rfl)) (aa_ (a:=true) (ac_ rfl (aa_ e2 rfl)) rfl),λ h=>(nomatch h),λ h=>by rw[g2.2 h.store]⟩
  | true =>
   have hf:=g1.1 rfl;have hs:=g2.1 rfl;have hlp:=aV_ (body:=hx_ s) s.Xt (λ i x=>if badS s i x then some false else none) (bP_ (by omega)) (λ i hi => ?_) (by unfold hx_;exact ac_ (br_ _) rfl)
   .refine⟨(aL_ (λ i x=>if badS s i x then some false else none) 0 s.Xt).getD true,aa_ (a:=false) (ac_ (by simp;omega) (aa_ e1 rfl)) (aa_ (a:=false) (ac_ rfl (aa_ e2 rfl)) (bm_ hlp (λ r=>rfl) rfl)),?_⟩;rw[pI_ (p:=λ i x => !(badS s i x)) (λ i x=>by cases badS s i x<;>rfl)];simp only[Nat.zero_add,Bool.not_eq_true'];constructor
    .intro h;have h':∀i x,s.Xt[i]? = some x->(0<=x.Yl/\x.Yl<=1099511627776)/\(0<i->(kf_ s.Xt i).Yl<x.Yl)/\okTr s.Yf x.Yx=true:=λ i x hx=>by
      have:=h i x hx;unfold badS at this;simp only[Bool.or_eq_false_iff,qDf,Bool.not_eq_false',Bool.and_eq_false_iff]at this;obtain⟨⟨⟨t1,t2⟩,t3⟩,t4⟩:=this;exact⟨by omega,λ h0=>by omega,t4⟩
     refine⟨hl,hf,hs,λ x hx => ?_,λ i x y h0 hx hy => ?_,λ x hx => ?_⟩
     .obtain⟨i,hi⟩:=List.mem_iff_getElem?.1 hx;exact(h' i x hi).1
     .have:=(h' i x hx).2.1 h0;have e:kf_ s.Xt i=y:=by
       unfold kf_;rw[List.getD_eq_getElem?_getD,hy];rfl
      rwa [e]at this
     .obtain⟨i,hi⟩:=List.mem_iff_getElem?.1 hx;have h4:=(h' i x hi).2.2;obtain⟨T,E,hT⟩:=tree_at hs x.Yx;unfold okTr at h4;rw[hT.ref]at h4;have:E=0:=by simpa using h4
      subst this;exact⟨T,hT⟩
    .intro h i x hx;have hxm:=List.mem_of_getElem? hx;obtain⟨t1,t2⟩:=h.time x hxm;obtain⟨T,hT⟩:=h.tree x hxm;have h4:okTr s.Yf x.Yx=true:=by
      unfold okTr;rw[hT.ref];rfl
     have h5:0<i->(kf_ s.Xt i).Yl<x.Yl:=λ h0=>by
      have hi:i-1<s.Xt.length:=by
       have:i<s.Xt.length:=by
        rcases Nat.lt_or_ge i s.Xt.length with h'|h'
        .exact h'
        .rw[List.getElem?_eq_none h']at hx;cases hx
       omega
      have hy:=List.getElem?_eq_getElem hi;have e:kf_ s.Xt i=s.Xt[i-1]:=by
       unfold kf_;rw[List.getD_eq_getElem?_getD,hy];rfl
      rw[e];exact h.asc i x _ h0 hx hy
     unfold badS;rw[h4];simp only[Bool.or_eq_false_iff,qDf,Bool.and_eq_false_iff,Bool.not_true];refine⟨⟨⟨by omega,by omega⟩,?_⟩,trivial⟩;by_cases h0:0<i
     .exact .inr (by have:=h5 h0;omega)
     .exact .inl h0
   .unfold hx_;refine ah_ (bj_ hi) (aa_ (aq_ hi) ?_);obtain⟨T,E,hT⟩:=tree_at hs s.Xt[i].Yx;have hok:okTr s.Yf s.Xt[i].Yx=(E==0):=by unfold okTr;rw[hT.ref]
    have hprev:∀h0:0<i,al_ s.Xt (w64 ((i:Int)-1))=some (kf_ s.Xt i):=λ h0=>iZ_ _ h0 hi (by omega)
    have hcond:(Option.bind (bif(decide ((i:Int)>0))then(al_ s.Xt (w64 ((i:Int)-1))).bind λ y13=>some (decide (y13.Yl>=s.Xt[i].Yl))else some false) fun(y14:Bool)=>some y14)=some (decide (0<i)&&decide ((kf_ s.Xt i).Yl>=s.Xt[i].Yl)):=by
     by_cases h0:0<i
     .have e:decide ((i:Int)>0)=true:=by simpa using h0
      rw[e,hprev h0];simp[h0]
     .have e:decide ((i:Int)>0)=false:=by simp;omega
      rw[e];simp[h0]
    refine aa_ (a:=(decide (s.Xt[i].Yl<0)||decide (s.Xt[i].Yl>1099511627776))||(decide (0<i)&&decide ((kf_ s.Xt i).Yl>=s.Xt[i].Yl))) ?_ ?_
    .cases hc:decide (s.Xt[i].Yl<0)||decide (s.Xt[i].Yl>1099511627776)with
     | true=>rfl
     | false=>exact ac_ rfl hcond
    .unfold badS;cases hc:(decide (s.Xt[i].Yl<0)||decide (s.Xt[i].Yl>1099511627776))||(decide (0<i)&&decide ((kf_ s.Xt i).Yl>=s.Xt[i].Yl))with
     | true=>rfl
     | false =>
      refine ac_ rfl (aa_ hT.ref ?_);rw[hok];by_cases hE:E=0
      .subst hE;obtain⟨b3,e3,g3⟩:=jR_ T hT.len (ok_modes (hT.ok rfl));have hb3:=g3.2 (hT.ok rfl);subst hb3;refine aa_ (a:=false) (ac_ rfl (aa_ e3 rfl)) ?_;rw[au_ (by omega)];rfl
      .refine aa_ (a:=true) (ah_ (by simpa using hE) rfl) ?_;have:(E==0)=false:=by simpa using hE
       rw[this];rfl
 .exact⟨false,aa_ (a:=true) (ah_ (by simp;omega) rfl) (aa_ (a:=true) rfl rfl),λ h=>(nomatch h),λ h=>absurd h.sl hl⟩
def atS(l:List Yb)(t:Int):Option Yb:=l.reverse.find? λ x=>decide (x.Yl<=t)
theorem at_down(s:Xh)(t:Int)(hl:s.Xt.length<=1000):∀(n m:Nat),n<=s.Xt.length->n<m->ak_ (fL_ s t) m ((n:Int)-1)=some (match atS (s.Xt.take n) t with|some x => .ret (x,true)|none => .fall ())
 | 0,m,_,hm=>by
  obtain⟨m,rfl⟩:∃k,m=k+1:=⟨m-1,by omega⟩;refine ba_ ?_;unfold fL_;exact ac_ (by simp) rfl
 | n+1,m,hn,hm=>by
  obtain⟨m,rfl⟩:∃k,m=k+1:=⟨m-1,by omega⟩;have hi:n<s.Xt.length:=by omega
  have e0:((n+1:Nat):Int)-1=(n:Int):=by omega
  have ht:s.Xt.take (n+1)=s.Xt.take n++[s.Xt[n]]:=List.take_succ_eq_append_getElem hi;have hat:atS (s.Xt.take (n+1)) t=if s.Xt[n].Yl<=t then some s.Xt[n]else atS (s.Xt.take n) t:=by
   unfold atS;rw[ht,List.reverse_append,List.reverse_singleton,List.singleton_append,List.find?_cons];by_cases h:s.Xt[n].Yl<=t<;>simp[h]
  rw[hat,e0];by_cases h:s.Xt[n].Yl<=t
  .rw[if_pos h];refine ba_ ?_;unfold fL_;exact ah_ (by simp) (aa_ (aq_ hi) (ah_ (by simpa using h) (aa_ (aq_ hi) rfl)))
  .rw[if_neg h];refine bN_ ?_ (at_down s t hl n m (by omega) (by omega));unfold fL_;refine ah_ (by simp) (aa_ (aq_ hi) (ac_ (by simpa using h) ?_));rw[ap_ ⟨by omega,by omega⟩]
def atR(s:Xh)(t:Int):Yb×Bool:=match atS s.Xt t with|some x=>(x,true)|none=>(Yb.mk 0 [],false)
theorem At_eq(s:Xh)(t:Int)(hl:s.Xt.length<=1000):la_ s t=some (atR s t):=by
 have h:=at_down s t hl s.Xt.length BIG (Nat.le_refl _) (bP_ (by omega));rw[List.take_length]at h;unfold la_ atR;rw[ap_ ⟨by omega,by omega⟩];refine aa_ h ?_;cases atS s.Xt t<;>rfl
theorem srv_fit{x:Xh}(h:Fit te (.st snapN) x):nd_ x.Xp.Yq/\oN_ x.Xp.Yj/\NodesB x.Xp :=
 ⟨λ u hu=>((h 1).1.2 u hu).1,λ q hq=>((h 1).2.1.2 q hq).1,λ n hn=>⟨((h 1).2.2.2.1.2 n hn).2.2.2.2.1.2,((h 1).2.2.2.1.2 n hn).2.2.2.1⟩⟩
theorem ask17{x:Xh}{P:Option Bool}{p:Bool}(h:nd_ x.Xp.Yq/\oN_ x.Xp.Yj/\NodesB x.Xp)(hP:P=some p){A B:Option Bool}(hA:A=some true)(hB:p=false->Small17 x->SizeOK x.Xp->Ok17 x->B=some true) :
  (Option.bind (ih_ x) fun(y1:Bool)=>Option.bind (bif !y1 then some true else P) fun(y2:Bool)=>Option.bind (bif y2 then some true else(im_ x).bind λ y3=>some (!y3)) fun(y4:Bool)=>bif y4 then A else B)=some true:=by
 obtain⟨b,h1,h2⟩:=small_eq x;refine aa_ h1 ?_;cases b with
 | false=>exact aa_ (a:=true) rfl (aa_ (a:=true) rfl hA)
 | true =>
  have hs:=h2 rfl;have z:=hs.size h.1 h.2.1;refine aa_ (a:=p) hP ?_;cases p with
  | true=>exact aa_ (a:=true) rfl hA
  | false =>
   obtain⟨c,e1,e2⟩:=Right_eq x z h.2.2 hs.bl;refine aa_ (a := !c) (aa_ e1 rfl) ?_;cases c with
   | false=>exact hA
   | true=>exact hB rfl hs z (e2.1 rfl)
theorem rp_{l:List Xq}{next:Int}(h:OkT l next)(f:Nat){id:Int}:∀{ks:List Int} {a b:Str×Xj},(∀k∈ks,k∈bw_ l id)->StOK a.2->be_ (fPN l (bS_ l f)) a ks = .inl b->StOK b.2/\StLe a.2 b.2
 | [],a,b,_,hs,hr=>by
  simp only[be_,Sum.inl.injEq]at hr;subst hr;exact⟨hs,StLe.refl _⟩
 | k::ks,a,b,hk,hs,hr=>by
  obtain⟨c,hc,_,_,_,hnode,_⟩:=eG_ h (hk k List.mem_cons_self);obtain⟨b1,b2,_⟩:=hS_ h f (s:=a.2) hc hs;simp only[be_]at hr;unfold fPN at hr;rw[hnode]at hr;simp only at hr;by_cases h0:(bS_ l f a.2 c).2.2=0
  .rw[if_pos h0]at hr;obtain⟨c1,c2⟩:=rp_ h f (ks:=ks) (λ k hk'=>hk k (List.mem_cons_of_mem _ hk')) (by exact b1) hr;exact⟨c1,b2.trans c2⟩
  .rw[if_neg h0]at hr;cases hr
theorem fPN_err{l:List Xq}{f:Nat}:∀{ks:List Int} {a:Str×Xj} {e:Int},be_ (fPN l (bS_ l f)) a ks = .inr e->e≠0
 | [],a,e,h=>by cases h
 | k::ks,a,e,h=>by
  simp only[be_]at h;unfold fPN at h;by_cases h0:(bS_ l f a.2 (ai_ l k).1).2.2=0
  .rw[if_pos h0]at h;exact fPN_err (ks:=ks) h
  .rw[if_neg h0]at h;simp only[Sum.inr.injEq]at h;rw[←h];exact h0
theorem win_on{s p q:Str}{a w:Nat}(h:s.drop a=p++q)(hw:p.length=w):win s a w=p/\s.drop (a+w)=q/\s.length-a=w+q.length:=by
 subst hw;refine⟨?_,?_,?_⟩
 .unfold win;rw[h,List.take_left'];rfl
 .rw[←List.drop_drop,h,List.drop_left'];rfl
 .have:=congrArg List.length h;rw[List.length_drop,qLa]at this;exact this
theorem lm_{s q:Str}{a w:Nat}{n:Int}(h:s.drop a=leB n w++q)(h0:0<=n)(h1:n<=9223372036854775807)(h2:n.toNat<2^(8*w)):nD s w a=some (n,a+w)/\s.drop (a+w)=q:=by
 obtain⟨e1,e2,e3⟩:=win_on h (cq_ _ _);obtain⟨m,rfl⟩:∃m:Nat,n=(m:Int):=⟨n.toNat,by omega⟩;rw[qTn]at h2;have hv:=leV_leL w m h2;refine⟨?_,e2⟩;unfold nD;rw[e1,hv,if_neg (by omega)]
theorem tD_on{s q t:Str}{a:Nat}(h:s.drop a=bT_ t++q)(ht:t.length<=64):tD s a=some (t,a+(2+t.length))/\s.drop (a+(2+t.length))=q:=by
 unfold bT_ at h;rw[List.append_assoc]at h;obtain⟨e1,e2,e3⟩:=win_on h (cq_ _ _);have hv:=leV_leL 2 t.length (by omega);obtain⟨f1,f2,f3⟩:=win_on e2 rfl;rw[qLa]at e3;refine⟨?_,by rw[←Nat.add_assoc];exact f2⟩;unfold tD takeT;rw[e1,hv,if_neg (by omega),if_neg (by omega),f1,Nat.add_assoc]
theorem sD_on{s q t:Str}{a:Nat}(h:s.drop a=t++q)(ht:t.length=32):sD s a=some (t,a+32)/\s.drop (a+32)=q:=by
 obtain⟨e1,e2,e3⟩:=win_on h ht;refine⟨?_,e2⟩;unfold sD;rw[e1,if_neg (by omega)]
structure EntF(n:Xq)(r:Xn):Prop where (ok:EntOK n r) (at_:n.Yz<=1099511627776) (mt_:n.Xa<=1099511627776)
theorem entD_on{s q:Str}{a:Nat}{n:Xq}{r:Xn}(hF:EntF n r)(hd:s.drop a=fs_ n r++q):fU_ s a=some (bare n,r,a+(fs_ n r).length)/\s.drop (a+(fs_ n r).length)=q:=by
 have h:=hF.ok;have hl:(fs_ n r).length=4+4+4+4+8+8+(2+n.Xy.length)+(2+n.Yw.length)+(2+n.Yk.length)+(2+n.Yy.length)+4+1+32:=by
  simp only[fs_,qLa,cq_,ff_,h.score]
 rw[hl];unfold fs_ at hd;simp only[List.append_assoc]at hd;have hb1:=h.id;have hb2:=h.par;have hb3:=h.vers;have hb4:=h.mode;have hb11:=h.len;have hb12:=h.lev;have hb5:=h.atime;have hb6:=h.mtime;have hb7:=hF.at_;have hb8:=hF.mt_;obtain⟨d1,g1⟩:=lm_ hd (by omega) (by omega) (by omega);obtain⟨d2,g2⟩:=lm_ g1 (by omega) (by omega) (by omega);obtain⟨d3,g3⟩:=lm_ g2 (by omega) (by omega) (by omega);obtain⟨d4,g4⟩:=lm_ g3 (by omega) (by omega) (by omega);obtain⟨d5,g5⟩:=lm_ g4 (by omega) (by omega) (by omega);obtain⟨d6,g6⟩:=lm_ g5 (by omega) (by omega) (by omega);obtain⟨d7,g7⟩:=tD_on g6 h.name;obtain⟨d8,g8⟩:=tD_on g7 h.uid
 obtain⟨d9,g9⟩:=tD_on g8 h.gid;obtain⟨d10,g10⟩:=tD_on g9 h.muid;obtain⟨d11,g11⟩:=lm_ g10 (by omega) (by omega) (by omega);obtain⟨d12,g12⟩:=lm_ g11 (by omega) (by omega) (by omega);obtain⟨d13,g13⟩:=sD_on g12 h.score;have ha:a+4+4+4+4+8+8+(2+n.Xy.length)+(2+n.Yw.length)+(2+n.Yk.length)+(2+n.Yy.length)+4+1+32=a+(4+4+4+4+8+8+(2+n.Xy.length)+(2+n.Yw.length)+(2+n.Yk.length)+(2+n.Yy.length)+4+1+32):=by omega
 rw[ha]at g13;refine⟨?_,g13⟩;unfold fU_;simp only[d1,d2,d3,d4,d5,d6,d7,d8,d9,d10,d11,d12,d13,qBs,ha];rfl
theorem ents_on{s:Str}:∀{es:List (Xq×Xn)} {f a:Nat},(∀q∈es,EntF q.1 q.2/\bare q.1=q.1)->s.drop a=(es.map λ q=>fs_ q.1 q.2).flatten->s.length-a<f->fi_ s f a=some es
 | [],f,a,_,hd,hf=>by
  obtain⟨f,rfl⟩:∃g,f=g+1:=⟨f-1,by omega⟩;have:=congrArg List.length hd;rw[List.length_drop]at this;unfold fi_;rw[if_neg];simp at this;omega
 | q::es,f,a,hq,hd,hf=>by
  obtain⟨f,rfl⟩:∃g,f=g+1:=⟨f-1,by omega⟩;obtain⟨h1,h2⟩:=hq q List.mem_cons_self;rw[List.map_cons,List.flatten_cons]at hd;obtain⟨d1,d2⟩:=entD_on h1 hd;have hl:=(jb_ h1.ok).2;have:=congrArg List.length hd;rw[List.length_drop,qLa]at this;have ih:=ents_on (es:=es) (f:=f) (λ q hq'=>hq q (List.mem_cons_of_mem _ hq')) d2 (by omega);unfold fi_;rw[if_pos (by omega),d1];simp only[qBs];rw[ih,h2];rfl
theorem kids_on{s:Str}{es:List (Xq×Xn)}{id:Int}(h:∀q∈es,EntF q.1 q.2/\bare q.1=q.1/\q.1.Xw=id)(hd:s=(es.map λ q=>fs_ q.1 q.2).flatten):fB_ s id (s.length+1) 0=some es:=by
 unfold fB_;rw[ents_on (λ q hq=>⟨(h q hq).1,(h q hq).2.1⟩) (by rw[List.drop_zero];exact hd) (by omega)];have:(es.all λ q=>q.1.Xw==id)=true:=List.all_eq_true.2 λ q hq=>by
  rw[(h q hq).2.2];exact beq_self_eq_true _
 simp only[qBs,this,if_true]
theorem finP_back{s u:Xj}{k:Int}{d:Str}(hk:1<=k/\k<=4)(hs:StOK s)(hd:d.length<=1048576)(he:(dO_ s k d).2.2=0)(hu:StLe (dO_ s k d).1 u):(aA_ u k (dO_ s k d).2.1).1=d/\(aA_ u k (dO_ s k d).2.1).2.2=0:=by
 unfold dO_ at he hu ⊢;by_cases h0:(putS s k d).err=0
 .rw[if_pos h0]at hu ⊢;have h1:=put_sto hk hs hd h0;obtain⟨h2,_⟩:=upF_ok 3 hk hs (ps:=pieces d);exact fileR_sto hd (sto_score h2 h1) (h1.le hu)
 .rw[if_neg h0]at he;exact absurd he h0
def cS_(l:List Xq):Nat->Xq->List Xq | 0,_=>[]|f+1,n=>if am_ n.Xv 31 then n::(bw_ l n.Id_).flatMap (λ k=>cS_ l f (ai_ l k).1)else[n]
theorem sub_head{l:List Xq}{f:Nat}(n:Xq)(h:0<f):n∈cS_ l f n:=by
 obtain⟨f,rfl⟩:∃g,f=g+1:=⟨f-1,by omega⟩;unfold cS_;split
 .exact List.mem_cons_self
 .exact List.mem_cons_self
theorem hT_{l:List Xq}{next:Int}(h:OkT l next):∀(f:Nat) {n x:Xq},n∈l->x∈cS_ l f n->x∈l/\n.Id_<=x.Id_
 | 0,n,x,_,hx=>by cases hx
 | f+1,n,x,hn,hx=>by
  unfold cS_ at hx;split at hx
  .rcases List.mem_cons.1 hx with rfl|hx
   .exact⟨hn,Int.le_refl _⟩
   .obtain⟨k,hk,hx⟩:=List.mem_flatMap.1 hx;obtain⟨c,hc,e,_,_,hnode,hlt⟩:=eG_ h hk;rw[hnode]at hx;obtain⟨h1,h2⟩:=hT_ h f hc hx;exact⟨h1,by omega⟩
  .rw[List.mem_singleton]at hx;rw[hx];exact⟨hn,Int.le_refl _⟩
theorem mem_child{l:List Xq}{c:Xq}{id:Int}(hc:c∈l)(hp:c.Xw=id)(h1:c.Id_≠1):c.Id_∈bw_ l id:=by
 unfold bw_;refine List.mem_map.2 ⟨c,List.mem_filter.2 ⟨hc,?_⟩,rfl⟩;simp[hp,h1]
theorem uL_{l:List Xq}{next:Int}(h:OkT l next):∀(f:Nat) {n p c:Xq},(next-n.Id_).toNat<f->n∈l->p∈cS_ l f n->am_ p.Xv 31=true->c∈l->c.Id_≠1->c.Xw=p.Id_->p.Id_<c.Id_->c∈cS_ l f n
 | 0,n,p,c,hf,_,_,_,_,_,_,_=>by omega
 | f+1,n,p,c,hf,hn,hp,hd,hc,h1,hcp,hlt=>by
  unfold cS_ at hp ⊢;by_cases hdn:am_ n.Xv 31=true
  .rw[if_pos hdn]at hp ⊢;refine List.mem_cons_of_mem _ (List.mem_flatMap.2 ?_);rcases List.mem_cons.1 hp with rfl|hp
   .refine⟨c.Id_,mem_child hc hcp h1,?_⟩;rw[hb_ h.srt hc];have:=h.nxt c hc;exact sub_head c (by omega)
   .obtain⟨k,hk,hp⟩:=List.mem_flatMap.1 hp;refine⟨k,hk,?_⟩;obtain⟨m,hm,e,_,_,hnode,hlt2⟩:=eG_ h hk;rw[hnode]at hp ⊢;have:=h.nxt m hm;exact uL_ h f (n:=m) (by omega) hm hp hd hc h1 hcp hlt
  .rw[if_neg hdn]at hp;rw[List.mem_singleton]at hp;rw[hp]at hd;exact absurd hd hdn
theorem sub_all{l:List Xq}{next:Int}(h:OkT l next){f:Nat}(hf:(next-(cr_ l).Id_).toNat<f):∀(m:Nat) {x:Xq},x.Id_.toNat<=m->x∈l->x∈cS_ l f (cr_ l)
 | 0,x,hm,hx=>by
  have:=h.ge hx;omega
 | m+1,x,hm,hx=>by
  obtain⟨r1,r2,_⟩:=oW_ h;have hge:=h.ge hx;by_cases h1:x.Id_=1
  .have:x=cr_ l:=lw_ h.srt hx r1 (by rw[h1,r2]);rw[this];exact sub_head _ (by omega)
  .obtain⟨p,hp,e,hlt,hd⟩:=h.par x hx h1;have hpm:=sub_all h hf m (x:=p) (by have:=h.ge hp;omega) hp;exact uL_ h f hf r1 hpm hd hx h1 e.symm hlt
theorem rT_{l:List Xq}{next:Int}(h:OkT l next):∀(f:Nat) {n x:Xq},n∈l->x∈cS_ l f n->x=n\/(x.Id_≠1/\∃p∈cS_ l f n,p.Id_=x.Xw)
 | 0,n,x,_,hx=>by cases hx
 | f+1,n,x,hn,hx=>by
  unfold cS_ at hx ⊢;by_cases hd:am_ n.Xv 31=true
  .rw[if_pos hd]at hx ⊢;rcases List.mem_cons.1 hx with rfl|hx
   .exact .inl rfl
   .obtain⟨k,hk,hx⟩:=List.mem_flatMap.1 hx;obtain⟨c,hc,e,hcp,hc1,hnode,hlt⟩:=eG_ h hk;rw[hnode]at hx;refine .inr ?_;rcases rT_ h f hc hx with rfl|⟨h1,p,hp,e2⟩
    .exact⟨hc1,n,List.mem_cons_self,hcp.symm⟩
    .exact⟨h1,p,List.mem_cons_of_mem _ (List.mem_flatMap.2 ⟨k,hk,by rw[hnode];exact hp⟩),e2⟩
  .rw[if_neg hd]at hx;rw[List.mem_singleton]at hx;exact .inl hx
theorem sub_apart{l:List Xq}{next:Int}(h:OkT l next)(f:Nat){c1 c2:Xq}(h1:c1∈l)(h2:c2∈l)(hp:c1.Xw=c2.Xw)(hl1:c1.Xw<c1.Id_)(hl2:c2.Xw<c2.Id_)(hne:c1≠c2):∀(m:Nat) {x:Xq},x.Id_.toNat<=m->x∈cS_ l f c1->x∈cS_ l f c2->False
 | 0,x,hm,hx1,hx2=>by
  have:=h.ge (hT_ h f h1 hx1).1;omega
 | m+1,x,hm,hx1,hx2=>by
  rcases rT_ h f h1 hx1 with rfl|⟨g1,p1,hp1,e1⟩
  .rcases rT_ h f h2 hx2 with rfl|⟨g2,p2,hp2,e2⟩
   .exact hne rfl
   .have:=(hT_ h f h2 hp2).2;omega
  .rcases rT_ h f h2 hx2 with rfl|⟨g2,p2,hp2,e2⟩
   .have:=(hT_ h f h1 hp1).2;omega
   .obtain⟨i1,_⟩:=hT_ h f h1 hp1;obtain⟨i2,_⟩:=hT_ h f h2 hp2;have e:p1=p2:=lw_ h.srt i1 i2 (by rw[e1,e2]);subst e;obtain⟨p,_,e3,hlt,_⟩:=h.par x (hT_ h f h1 hx1).1 g1;have:=h.ge i1;exact sub_apart h f h1 h2 hp hl1 hl2 hne m (x:=p1) (by omega) hp1 hp2
theorem child_nodup{l:List Xq}{next:Int}(h:OkT l next)(id:Int):(bw_ l id).Nodup:=by
 unfold bw_;rw[List.nodup_iff_pairwise_ne,List.pairwise_map];exact(h.srt.filter _).imp λ hh e=>by omega
theorem uM_{l:List Xq}{next:Int}(h:OkT l next){f:Nat}(IH:∀n∈l,(cS_ l f n).Nodup){id:Int}:∀{ks:List Int},(∀k∈ks,k∈bw_ l id)->ks.Nodup->(ks.flatMap λ k=>cS_ l f (ai_ l k).1).Nodup
 | [],_,_=>List.nodup_nil
 | k::ks,hk,hn=>by
  obtain⟨c,hc,e,hcp,hc1,hnode,hlt⟩:=eG_ h (hk k List.mem_cons_self);obtain⟨n1,n2⟩:=List.nodup_cons.1 hn;rw[List.flatMap_cons,hnode];refine List.nodup_append.2 ⟨IH c hc,uM_ h IH (λ k hk'=>hk k (List.mem_cons_of_mem _ hk')) n2,λ a ha b hb hab => ?_⟩;subst hab;obtain⟨k2,hk2,hb⟩:=List.mem_flatMap.1 hb;obtain⟨c2,hc2,e2,hcp2,hc12,hnode2,hlt2⟩:=eG_ h (hk k2 (List.mem_cons_of_mem _ hk2));rw[hnode2]at hb;refine sub_apart h f hc hc2 (by rw[hcp,hcp2]) (by omega) (by omega) (λ ee => ?_) _ (Nat.le_refl _) ha hb;rw[←e,ee,e2]at n1;exact n1 hk2
theorem sub_nodup{l:List Xq}{next:Int}(h:OkT l next):∀(f:Nat),∀n∈l,(cS_ l f n).Nodup
 | 0,n,_=>List.nodup_nil
 | f+1,n,hn=>by
  unfold cS_;split
  .refine List.nodup_cons.2 ⟨λ hm => ?_,uM_ h (sub_nodup h f) (λ k hk=>hk) (child_nodup h _)⟩;obtain⟨k,hk,hx⟩:=List.mem_flatMap.1 hm;obtain⟨c,hc,e,hcp,hc1,hnode,hlt⟩:=eG_ h hk;rw[hnode]at hx;have:=(hT_ h f hc hx).2;omega
  .exact List.nodup_cons.2 ⟨by simp,List.nodup_nil⟩
theorem srt_nodup{l:List Xq}(h:l.Pairwise λ a b=>a.Id_<b.Id_):l.Nodup:=by
 rw[List.nodup_iff_pairwise_ne];exact h.imp λ hh e=>by rw[e]at hh;omega
theorem sub_perm{l:List Xq}{next:Int}(h:OkT l next){f:Nat}(hf:(next-(cr_ l).Id_).toNat<f):(cS_ l f (cr_ l)).Perm l:=by
 obtain⟨r1,_⟩:=oW_ h;exact(List.perm_ext_iff_of_nodup (sub_nodup h f _ r1) (srt_nodup h.srt)).2 λ x=>⟨λ hx=>(hT_ h f r1 hx).1,λ hx=>sub_all h hf _ (Nat.le_refl _) hx⟩
theorem OkT.entF{l:List Xq}{next:Int}(h:OkT l next){n:Xq}(hn:n∈l){r:Xn}(hr:RootF r):EntF (bare n) r:=by
 obtain⟨_,_,h3,h4,_⟩:=kc_ (h.flds n hn);exact⟨(h.ent hn hr).bare,h3.2,h4.2⟩
theorem bare_eq{n:Xq}(h:n.Xl=[]):bare n=n:=by
 cases n
 simp only at h;rw[h];rfl
def BackOK(l:List Xq)(f:Nat):Prop:=∀(s u:Xj) (n:Xq) (g:Nat) (left:Int),n∈l->StOK s->(bS_ l f s n).2.2=0->StLe (bS_ l f s n).1 u->((cS_ l f n).length:Int)<=left->left.toNat<g->∃seen,bs_ u g (bare n) (bS_ l f s n).2.1 left=(cS_ l f n,seen,0)
theorem kids_back{l:List Xq}{next:Int}(h:OkT l next){f:Nat}(IH:BackOK l f){id:Int}{u:Xj}:∀{ks:List Int} {a b:Str×Xj},(∀k∈ks,k∈bw_ l id)->StOK a.2->be_ (fPN l (bS_ l f)) a ks = .inl b->StLe b.2 u ->
  ∃es:List (Xq×Xn),b.1=a.1++(es.map λ q=>fs_ q.1 q.2).flatten/\(∀q∈es,EntF q.1 q.2/\bare q.1=q.1/\q.1.Xw=id) /\
   ∀(g:Nat) (left:Int) (acc:List Xq×List Str),(acc.1.length:Int)+((ks.flatMap λ k=>cS_ l f (ai_ l k).1).length:Int)<=left->(left-(acc.1.length:Int)).toNat<g->∃seen,be_ (fG (bs_ u g) left) acc es = .inl (acc.1++ks.flatMap (λ k=>cS_ l f (ai_ l k).1),seen)
 | [],a,b,_,hs,hr,hu=>by
  simp only[be_,Sum.inl.injEq]at hr;subst hr;exact⟨[],by simp,λ q hq=>(by cases hq),λ g left acc _ _=>⟨acc.2,by simp[be_]⟩⟩
 | k::ks,a,b,hk,hs,hr,hu=>by
  obtain⟨c,hc,e,hcp,hc1,hnode,hlt⟩:=eG_ h (hk k List.mem_cons_self);obtain⟨b1,b2,b3⟩:=hS_ h f (s:=a.2) hc hs;have hks:∀k∈ks,k∈bw_ l id:=λ k hk'=>hk k (List.mem_cons_of_mem _ hk')
  simp only[be_]at hr;unfold fPN at hr;rw[hnode]at hr;simp only at hr;by_cases h0:(bS_ l f a.2 c).2.2=0
  .rw[if_pos h0]at hr;obtain⟨_,c2⟩:=rp_ h f hks (by exact b1) hr;obtain⟨es,e1,e2,e3⟩:=kids_back h IH hks (by exact b1) hr hu;refine⟨(bare c,(bS_ l f a.2 c).2.1)::es,?_,λ q hq => ?_,λ g left acc hl hg => ?_⟩
   .rw[e1];simp only[List.map_cons,List.flatten_cons,rk_,List.append_assoc]
   .rcases List.mem_cons.1 hq with rfl|hq
    .exact⟨h.entF hc (b3 h0),rfl,hcp⟩
    .exact e2 q hq
   .rw[List.flatMap_cons,hnode,qLa]at hl
    dsimp only at hl
    obtain⟨seen1,g1⟩:=IH a.2 u c g (left-(acc.1.length:Int)) hc hs h0 (StLe.trans c2 hu) (by omega) hg;obtain⟨seen2,g2⟩:=e3 g left (acc.1++cS_ l f c,acc.2++seen1) (by simp only[qLa];omega) (by simp only[qLa];omega);refine⟨seen2,?_⟩;simp only[be_];unfold fG;simp only[g1,if_true];refine g2.trans ?_;rw[List.flatMap_cons,hnode,List.append_assoc]
  .rw[if_neg h0]at hr;cases hr
theorem back_succ{l:List Xq}{next:Int}(h:OkT l next){f:Nat}(IH:BackOK l f):BackOK l (f+1):=by
 intro s u n g left hn hs he hu hl hg;obtain⟨g,rfl⟩:∃g',g=g'+1:=⟨g-1,by omega⟩;obtain⟨o1,_,_,_,_,_,_,o8,o9⟩:=kc_ (h.flds n hn);have hdir:=ha_ o1;by_cases hd:am_ n.Xv 31=true
 .rw [hd,qDe]at hdir;have hkind:aO_ (bare n)=3:=if_pos hdir;have hS:cS_ l (f+1) n=n::(bw_ l n.Id_).flatMap (λ k=>cS_ l f (ai_ l k).1):=by rw[cS_,if_pos hd]
  cases hq:be_ (fPN l (bS_ l f)) ([],s) (bw_ l n.Id_)with
  | inr e =>
   have hP:bS_ l (f+1) s n=(s,j9_,e):=by rw[bS_,if_pos hd,hq];rfl
   rw[hP]at he;exact absurd he (fPN_err hq)
  | inl a =>
   have hP:bS_ l (f+1) s n=dO_ a.2 3 a.1:=by rw[bS_,if_pos hd,hq];rfl
   rw[hP]at he hu ⊢;rw[hS]at hl ⊢;obtain⟨m1,m2⟩:=rp_ h f (λ k hk=>hk) (by exact hs) hq;have hle:StLe a.2 (dO_ a.2 3 a.1).1:=by
    unfold dO_;split
    .exact(upF_ok 3 (by omega) m1).2
    .exact StLe.refl _
   obtain⟨es,e1,e2,e3⟩:=kids_back h IH (λ k hk=>hk) (by exact hs) hq (hle.trans hu);rw[List.nil_append]at e1;have hlen:a.1.length<=1048576:=by
    have hr:=hf_ (f:=fPN l (bS_ l f)) (λ i a=>StOK a.2/\a.1.length<=333*i) (λ e=>e≠0) (xs:=bw_ l n.Id_) (k:=0) (s0:=([],s)) ⟨hs,by simp⟩ λ i a id hid ⟨a1,a3⟩=>by
     obtain⟨c,hc,_,_,_,hnode,_⟩:=eG_ h hid;obtain⟨b1,b2,b3⟩:=hS_ h f (s:=a.2) hc a1;unfold fPN;rw[hnode];simp only;refine⟨λ s' he => ?_,λ e he => ?_⟩
     .split at he
      .rename_i h0;obtain rfl:=Sum.inl.inj he;have:=(jb_ (h.ent hc (b3 h0))).1;refine⟨b1,?_⟩;simp only[qLa];omega
      .cases he
     .split at he
      .cases he
      .rename_i h0;obtain rfl:=Sum.inr.inj he;exact h0
    obtain⟨_,a2⟩:=hr.1 a hq;have:=pV_ l n.Id_;have:=h.len;omega
   obtain⟨f1,f2⟩:=finP_back (by omega) m1 hlen he hu;generalize(dO_ a.2 3 a.1).2.1=R at *
   have hkd:fB_ a.1 (bare n).Id_ (a.1.length+1) 0=some es:=kids_on e2 e1;obtain⟨seen,g1⟩:=e3 g left ([n],(aA_ u 3 R).2.1) (by simp only[qLc,List.length_nil]at hl ⊢;omega) (by simp only[qLc,List.length_nil]at hl ⊢;omega);refine⟨seen,?_⟩;rw[bs_,if_neg (by simp only[qLc]at hl;omega),hkind,if_pos f2,if_pos (by exact hdir),f1,hkd];simp only;rw[bare_eq (o9 hd),g1];rfl
 .have hdir':¬n.Xv>=2147483648:=λ hm=>hd (by rw[←hdir];exact decide_eq_true hm)
  have hkind:aO_ (bare n)=1:=if_neg hdir';have hS:cS_ l (f+1) n=[n]:=by rw[cS_,if_neg hd]
  have hP:bS_ l (f+1) s n=dO_ s 1 n.Xl:=by rw[bS_,if_neg hd]
  rw[hP]at he hu ⊢;rw[hS]at hl ⊢;obtain⟨f1,f2⟩:=finP_back (by omega) hs (by omega) he hu;generalize(dO_ s 1 n.Xl).2.1=R at *
  refine⟨(aA_ u 1 R).2.1,?_⟩;rw[bs_,if_neg (by simp only[List.length_singleton]at hl;omega),hkind,if_pos f2,if_neg (by exact hdir'),f1];rfl
theorem putN_back{l:List Xq}{next:Int}(h:OkT l next):∀f,BackOK l f
 | 0=>λ s u n g left _ _ he _ _ _=>by cases he
 | f+1=>back_succ h (putN_back h f)
abbrev InSt(s:Xj)(x:Str):Prop:=∃b,cO_ s x=some b
theorem rdF_seen {s:Xj} (k:Int):∀(l:Nat) {sc:Str} {len a b:Nat},∀x∈(rdF s k l sc len a b).2.1,InSt s x
 | 0,sc,len,a,b,x,hx=>by
  unfold rdF at hx;split at hx
  .rename_i h0;split at hx
   .rw[List.mem_singleton]at hx;rw[hx];exact kS_ h0
   .rw[List.mem_singleton]at hx;rw[hx];exact kS_ h0
  .cases hx
 | l + 1,sc,len,a,b,x,hx=>by
  rw[rdF]at hx;split at hx
  .rename_i h0;split at hx
   .have hr:=no_ (f:=fRd (rdF s k l) (blk s sc 2).1 (ad_ l) len a b) (λ _ acc=>∀y∈acc.2,InSt s y) (λ r=>∀y∈r.2.1,InSt s y) (n:=(len+ad_ l-1)/ad_ l) (s0:=([],[sc])) (λ y hy=>by rw[List.mem_singleton]at hy;rw[hy];exact kS_ h0) λ i acc hi hI=>by
     have ih:=rdF_seen (s:=s) k l (sc:=((blk s sc 2).1.drop (32*i)).take 32) (len:=av_ (ad_ l) len i) (a:=min (a-i*ad_ l) (av_ (ad_ l) len i)) (b:=min (b-i*ad_ l) (av_ (ad_ l) len i));unfold fRd;refine⟨λ s' he => ?_,λ e he => ?_⟩
     .split at he
      .obtain rfl:=Sum.inl.inj he;exact hI
      .simp only at he;split at he
       .obtain rfl:=Sum.inl.inj he;intro y hy;rcases List.mem_append.1 hy with hy|hy
        .exact hI y hy
        .exact ih y hy
       .cases he
     .split at he
      .cases he
      .simp only at he;split at he
       .cases he
       .obtain rfl:=Sum.inr.inj he;intro y hy;rcases List.mem_append.1 hy with hy|hy
        .exact hI y hy
        .exact ih y hy
    cases hq:be_ (fRd (rdF s k l) (blk s sc 2).1 (ad_ l) len a b) ([],[sc]) (List.range ((len+ad_ l-1)/ad_ l))with
    | inl acc =>
     rw[hq]at hx;exact hr.1 acc hq x hx
    | inr r =>
     rw[hq]at hx;exact hr.2 r hq x hx
   .rw[List.mem_singleton]at hx;rw[hx];exact kS_ h0
  .cases hx
theorem fileR_seen{s:Xj}(k:Int)(r:Xn):∀x∈(aA_ s k r).2.1,InSt s x:=by
 intro x hx;unfold aA_ at hx;split at hx
 .exact rdF_seen k _ x hx
 .cases hx
theorem getN_seen {s:Xj}:∀(f:Nat) {n:Xq} {r:Xn} {left:Int},∀x∈(bs_ s f n r left).2.1,InSt s x
 | 0,n,r,left,x,hx=>by cases hx
 | f + 1,n,r,left,x,hx=>by
  have h0:=fileR_seen (s:=s) (aO_ n) r;rw[bs_]at hx;split at hx
  .cases hx
  .split at hx
   .split at hx
    .split at hx
     .exact h0 x hx
     .rename_i l _;have hr:=hf_ (f:=fG (bs_ s f) left) (λ _ acc=>∀y∈acc.2,InSt s y) (λ r=>∀y∈r.2.1,InSt s y) (xs:=l) (k:=0) (s0:=([n],(aA_ s (aO_ n) r).2.1)) h0 λ i acc q _ hI=>by
       have ih:=getN_seen (s:=s) f (n:=q.1) (r:=q.2) (left:=left-(acc.1.length:Int));unfold fG;refine⟨λ s' he => ?_,λ e he => ?_⟩
       .split at he
        .obtain rfl:=Sum.inl.inj he;intro y hy;rcases List.mem_append.1 hy with hy|hy
         .exact hI y hy
         .exact ih y hy
        .cases he
       .split at he
        .cases he
        .obtain rfl:=Sum.inr.inj he;intro y hy;rcases List.mem_append.1 hy with hy|hy
         .exact hI y hy
         .exact ih y hy
      cases hq:be_ (fG (bs_ s f) left) ([n],(aA_ s (aO_ n) r).2.1) l with
      | inl acc =>
       rw[hq]at hx;exact hr.1 acc hq x hx
      | inr e =>
       rw[hq]at hx;exact hr.2 e hq x hx
    .exact h0 x hx
   .exact h0 x hx
theorem headD_on{t:Xk}{n:Xq}{r:Xn}(h:EntF n r)(h1:0<=t.Xr/\t.Xr<=1048576)(h2:t.Xz.length<=1024):headD (eL_ t n r)=some (t.Xr,(t.Xz.length:Int),bare n,r,(eL_ t n r).length):=by
 have hd:(eL_ t n r).drop 0=leB t.Xr 4++(leB (t.Xz.length:Int) 4++(fs_ n r++[])):=by
  rw[List.drop_zero];unfold eL_;simp only[List.append_assoc,List.append_nil]
 obtain⟨d1,g1⟩:=lm_ hd h1.1 (by omega) (by omega);obtain⟨d2,g2⟩:=lm_ g1 (by omega) (by omega) (by omega);obtain⟨d3,_⟩:=entD_on h g2;have hl:(eL_ t n r).length=0+4+4+(fs_ n r).length:=by
  simp only[eL_,qLa,cq_]
 unfold headD;simp only[d1,d2,d3,qBs,Option.map_some];rw[hl]
theorem tree_back{u:Xj}(hu:StOK u){sc d:Str}{next:Int}{n:Xq}{r:Xn}{l ns:List Xq}{seen:List Str}(hb:blk u sc 4=(d,0))(hh:headD d=some (next,(l.length:Int),n,r,d.length))(hg:bs_ u 1025 n r (l.length:Int)=(ns,seen,0))(hp:ns.Perm l)(h:OkT l next) :
  bB_ (Xg.mk u []) sc=some (Xk.mk next l,0,Xg.mk u ([sc]++seen)):=by
 have hbl:=mD_ hu sc 4;have hrb:=fg_ hu sc 4 (seen:=[]) (by simp);rw[hb]at hbl hrb;rw[if_pos rfl]at hrb;obtain⟨v1,d1,v2,d2,x,d3,p1,p2,p3,p4⟩:=P_head hbl;rw[hh]at p4;obtain⟨p5,p6,rfl,rfl,rfl⟩:=p4;have hl:=h.len;have hl1:1<=l.length:=by
  obtain⟨_,_,rfl,_⟩:=h.root;simp
 obtain⟨e,b,rd,k1,k2,k3⟩:=add_P hu 1025 BIG (ns:=[]) (seen:=[]++[sc]) (most:=(l.length:Int)) (n:=n) (r:=r) (by decide) (by simp;omega) (by omega) (by simp);have hz:(l.length:Int)-(([]:List Xq).length:Int)=(l.length:Int):=by simp
 rw[hz,hg]at k2 k3;obtain⟨rfl,rfl⟩:=k3 k2;have hnl:=hp.length_eq;simp only[List.nil_append]at k1;obtain⟨y,hy⟩:∃y,dM_ (λ n:Xq=>n.Id_) ns=some y:=⟨_,by unfold dM_;rw[if_pos (by omega)]⟩;obtain⟨y1,y2⟩:=lg_ hy;have hyl:y=l:=by
  refine hN_ (y1.trans hp) y2 (h.srt.imp λ hh => ?_) λ a ha b hb h3 h4 => ?_
  .unfold leK;simp only[qDe];omega
  .unfold leK at h3 h4;simp only[qDe]at h3 h4;exact lw_ h.srt ((y1.trans hp).subset ha) ((y1.trans hp).subset hb) (by omega)
 subst hyl;obtain⟨b1,t1,t2⟩:=hI_ (Xk.mk v1 y) (by show y.length<=1024;omega) (λ x hx=>⟨h.hm hx,by have:=h.name hx;omega⟩);have hb1:=t2.2 h;subst hb1;unfold bB_;refine aa_ hrb (ac_ rfl (aa_ p1 (aa_ p2 (aa_ p3 (ac_ ?_ (aa_ k1 (ac_ (by rw[k2];rfl) (aa_ hy (aa_ (a:=false) (ac_ ?_ (aa_ t1 rfl)) rfl)))))))))
 .simp[p5,p6];omega
 .simp
@[irreducible] def subT (l:List Xq):List Xq:=cS_ l BIG (cr_ l)
theorem subT_eq(l:List Xq):cS_ l BIG (cr_ l)=subT l:=by unfold subT;rfl
theorem restored{s u:Xj}{a:Xk}(hs:StOK s)(hu:StOK u)(h:OkT a.Xz a.Xr)(he:(ei_ s a).2.2=0)(hle:StLe (ei_ s a).1 u) :
  ∃seen,bB_ (Xg.mk u []) (ei_ s a).2.1=some (a,0,Xg.mk u ([(ei_ s a).2.1]++seen))/\seen.length<=1057*1024/\∀x∈[(ei_ s a).2.1]++seen,InSt u x:=by
 obtain⟨r1,r2,_⟩:=oW_ h;obtain⟨b1,b2,b3⟩:=hS_ h BIG (s:=s) r1 hs;have hback:=putN_back h BIG s u (cr_ a.Xz) 1025 (a.Xz.length:Int) r1 hs;have hperm:=sub_perm h (fuel_big h r1);have hl:=h.len;have hx:=h.nxt _ r1;have hx2:=h.nx2;rw[rQ_]at b1 b2 b3;rw[rQ_,subT_eq]at hback;rw[subT_eq]at hperm;have hpl:=hperm.length_eq;unfold ei_ at he hle ⊢;by_cases h0:(putT a.Xz s).2.2=0
 .rw[if_pos h0]at he hle ⊢;generalize putT a.Xz s=R at *
  have hent:=h.entF r1 (b3 h0);have hd:eL_ a (bare (cr_ a.Xz)) R.2.1=eL_ a (cr_ a.Xz) R.2.1:=rfl;generalize hdd:eL_ a (cr_ a.Xz) R.2.1=d at *
  by_cases h1:(aM_ R.1 4 d).2.2=0
  .rw[if_pos h1]at he hle ⊢;obtain⟨c1,c2,c3⟩:=rO_ (s:=R.1) (k:=4) (d:=d) b1 (by omega);obtain⟨c4,c5,c6⟩:=c3 h1;have hf:=hle.find c6;obtain⟨seen,hg⟩:=hback h0 (c2.trans hle) (by omega) (by omega);have hb:=rj_ hf;have hh:=headD_on (t:=a) hent (by omega) hl;rw[hd]at hh;have ht:=tree_back hu hb hh hg hperm h;have hbd:=ke_ hu 1025 (n:=bare (cr_ a.Xz)) (r:=R.2.1) (left:=(a.Xz.length:Int)) (by rw[hg]);rw[hg]at hbd
   dsimp only at hbd
   refine⟨seen,by rw[c4];exact ht,by omega,λ x hx => ?_⟩;rcases List.mem_append.1 hx with hx|hx
   .rw[List.mem_singleton]at hx;rw[hx,c4];exact⟨_,hf⟩
   .have:=getN_seen (s:=u) 1025 (n:=bare (cr_ a.Xz)) (r:=R.2.1) (left:=(a.Xz.length:Int)) x;rw[hg]at this;exact this hx
  .rw[if_neg h1]at he;exact absurd he h1
 .rw[if_neg h0]at he;exact absurd he h0
structure Tot(s:Xh):Prop where (files:FileOK s.Xp) (size:SizeOK s.Xp) (store:StOK s.Yf) (sl:s.Xt.length<=100)
theorem copied_loop(l:List Xf)(hl:l.length<=1000)(hm:d6_ l):ak_ (b5_ l) BIG (0,l)=some l:=by
 refine copy_loop l hl (λ i hi => ?_) ?_
 .unfold b5_;simp only;rw[bj_ hi,aq_ hi,au_ (by omega)];refine ah_ rfl (aa_ rfl (aa_ (oc_ (hm _ (List.getElem_mem hi))) (aa_ rfl ?_)));exact congrArg (λ q=>some (Step.next (((i+1:Nat):Int),q))) (set_self (List.getElem?_eq_getElem hi))
 .unfold b5_;simp only;rw[br_];rfl
theorem vO_{f:Xx}(z:SizeOK f):b8_ f=some f:=by
 have:=z.nl;have:=z.el;unfold b8_;exact aa_ (sk_ z.ul) (aa_ (copied_loop _ z.ul z.um) (aa_ (q4_ z.ql) (aa_ (sl_ (by omega)) (aa_ (mu_ (by omega)) rfl))))
theorem clone_snaps{xs:List Yb}(h:xs.length<=1000):b3_ xs=some xs:=g9_ (n:=24) (by omega) (by omega)
theorem f0_{s:Xh}(h:Tot s):as_ s=some s:=by
 have:=h.store.size;have:=h.sl;unfold as_;exact aa_ (vO_ h.size) (aa_ (tb_ (by omega)) (aa_ (clone_snaps (by omega)) rfl))
theorem kT_{s:Xh}(h:Tot s)(f:Xx):ce_ s f=some (Xh.mk f s.Yf s.Xt):=by
 unfold ce_;exact aa_ (f0_ h) rfl
structure PlOK(p:Yn):Prop where
 len:p.Zj.Xm.Xz.length<=1024
 mode:∀n∈p.Zj.Xm.Xz,n.Xv<=9223372036854775807
def place0(t i:Int):Yn:=Yn.mk (Xx.mk [] [] (Xk.mk 0 []) []) t i
theorem lG_(t i:Int):PlOK (place0 t i):=⟨by simp[place0],λ n hn=>by simp[place0]at hn⟩
theorem find_tot{s:Xh}(h:Tot s)(id:Int):∃p ok,df_ s id=some (p,ok)/\PlOK p:=by
 have hsl:=h.sl;unfold df_;cases hc:(id==1)||(id==2)with
 | true=>exact⟨_,_,rfl,lG_ 0 id⟩
 | false =>
  generalize IntKind.i64.wrap (id.tdiv 1048576)=k;rw[show w64 ((s.Xt.length:Int)+1)=(s.Xt.length:Int)+1 from ap_ ⟨by omega,by omega⟩];cases hg:decide (id<1048576)||decide (k>(s.Xt.length:Int)+1)with
  | true=>exact⟨_,_,ac_ rfl (ah_ rfl rfl),lG_ 0 0⟩
  | false =>
   simp only[Bool.or_eq_false_iff,qDf]at hg;by_cases hk:k>1
   .obtain⟨i,hi⟩:∃i:Nat,k=(i:Int)+2:=⟨(k-2).toNat,by omega⟩;have hil:i<s.Xt.length:=by omega
    have hgi:al_ s.Xt (w64 (k-2))=some s.Xt[i]:=by
     rw[ap_ ⟨by omega,by omega⟩,show k-2=(i:Int)by omega];exact aq_ hil
    obtain⟨T,E,hT⟩:=tree_at h.store s.Xt[i].Yx;by_cases hE:E=0
    .subst hE;have hok:=hT.ok rfl;refine⟨_,_,ac_ rfl (ac_ (by simp) (aa_ (ah_ (by simpa using hk) (aa_ hgi (aa_ hT.get (ac_ rfl rfl)))) (aa_ (cK_ T (id.tmod 1048576) (by have:=hT.len;omega)) rfl))),⟨hT.len,λ n hn=>hok.hm hn⟩⟩
    .exact⟨_,_,ac_ rfl (ac_ (by simp) (aa_ (ah_ (by simpa using hk) (aa_ hgi (aa_ hT.get (ah_ (by simpa using hE) rfl)))) rfl)),lG_ 0 0⟩
   .have hnl:=h.size.nl;exact⟨_,_,ac_ rfl (ac_ (by simp) (aa_ (ac_ (by simpa using hk) rfl) (aa_ (cK_ s.Xp.Xm (id.tmod 1048576) (by omega)) rfl))),⟨hnl,λ n hn=>h.files.tr.hm hn⟩⟩
theorem lH_{s:Xh}(h:Tot s)(user:Str)(id:Int)(hu:user.length<=9223372036854775807):∃p e,b0_ s user id=some (p,e)/\PlOK p:=by
 obtain⟨p,ok,f1,f2⟩:=find_tot h id;unfold b0_ fJ_;cases hv:(walkS s.Xp user 0 []).2 != 25 with
 | false=>exact⟨_,_,aa_ (a:=false) (aa_ (walk_eq h.files h.size user 0 [] hu) (by rw[hv])) (ah_ rfl rfl),lG_ 0 0⟩
 | true =>
  cases ok with
  | false=>exact⟨_,_,aa_ (a:=true) (aa_ (walk_eq h.files h.size user 0 [] hu) (by rw[hv])) (ac_ rfl (aa_ f1 (ah_ rfl rfl))),lG_ 0 0⟩
  | true=>exact⟨_,_,aa_ (a:=true) (aa_ (walk_eq h.files h.size user 0 [] hu) (by rw[hv])) (ac_ rfl (aa_ f1 (ac_ rfl rfl))),f2⟩
theorem isDir_tot{p:Yn}(h:PlOK p):∃b,cA_ p=some b:=by
 unfold cA_;have:=h.len;cases p.Zk==0 with
 | true=>exact⟨_,rfl⟩
 | false=>exact⟨_,ac_ rfl (aa_ (cK_ p.Zj.Xm p.Ym (by omega)) rfl)⟩
theorem node_mode{p:Yn}(h:PlOK p):(ai_ p.Zj.Xm.Xz p.Ym).1.Xv<=9223372036854775807:=by
 cases hn:(ai_ p.Zj.Xm.Xz p.Ym).2 with
 | true=>exact h.mode _ (bu_ hn).1
 | false =>
  rw[(pG_ hn).2];show(0:Int)<=_
  decide
def Same2(s t:Xh):Prop:=t.Yf=s.Yf/\t.Xt=s.Xt
def R2(s:Xh)(o:Option (Xh×Int)):Prop:=∃t e,o=some (t,e)/\Same2 s t
def R3(s:Xh)(o:Option (Xh×Int×Int)):Prop:=∃t n e,o=some (t,n,e)/\Same2 s t
theorem R2.cond{s:Xh}{c:Bool}{x y:Option (Xh×Int)}(h1:R2 s x)(h2:R2 s y):R2 s (bif c then x else y):=by cases c;exact h2;exact h1
theorem R3.cond{s:Xh}{c:Bool}{x y:Option (Xh×Int×Int)}(h1:R3 s x)(h2:R3 s y):R3 s (bif c then x else y):=by cases c;exact h2;exact h1
theorem R2.mk{s t:Xh}{e:Int}(h1:t.Yf=s.Yf)(h2:t.Xt=s.Xt):R2 s (some (t,e)):=⟨_,_,rfl,h1,h2⟩
theorem R3.mk{s t:Xh}{n e:Int}(h1:t.Yf=s.Yf)(h2:t.Xt=s.Xt):R3 s (some (t,n,e)):=⟨_,_,_,rfl,h1,h2⟩
theorem open_tot{s:Xh}(h:Tot s)(user:Str)(id mode now:Int)(hu:user.length<=9223372036854775807)(hm:I64 mode):R2 s (d4_ s user id mode now):=by
 obtain⟨p,e,c1,c2⟩:=lH_ h user id hu;obtain⟨b,d1⟩:=isDir_tot c2;have hn:=cK_ p.Zj.Xm p.Ym (by have:=c2.len;omega);have ha:=oM_ s.Xp.Yq user (ai_ p.Zj.Xm.Xz p.Ym).1.Yw (ai_ p.Zj.Xm.Xz p.Ym).1.Yk (ai_ p.Zj.Xm.Xz p.Ym).1.Xv (fb_ mode).1 h.size.ul h.size.um (node_mode c2);unfold d4_;rw[c1];simp only[qBs,f0_ h,kT_ h,open_eq h.files h.size user p.Ym mode now hu hm,ng_ mode hm,d1,hn,ha]
 repeat' first|exact R2.mk rfl rfl|refine R2.cond ?_ ?_
theorem create_tot{s:Xh}(h:Tot s)(user:Str)(id:Int)(name:Str)(perm mode now:Int)(hu:user.length<=9223372036854775807)(hm:I64 mode)(hp:perm<=9223372036854775807)(hl:name.length<=9223372036854775807):R3 s (dc_ s user id name perm mode now):=by
 obtain⟨p,e,c1,c2⟩:=lH_ h user id hu;unfold dc_;rw[c1];simp only[qBs,f0_ h,kT_ h,create_eq h.files h.size user p.Ym name perm mode now hu hm hp hl]
 repeat' first|exact R3.mk rfl rfl|refine R3.cond ?_ ?_
theorem write_tot{s:Xh}(h:Tot s)(user:Str)(id offset:Int)(data:Str)(now:Int)(hu:user.length<=9223372036854775807)(hd:data.length<=9223372036854775807):R3 s (cW_ s user id offset data now):=by
 obtain⟨p,e,c1,c2⟩:=lH_ h user id hu;obtain⟨b,d1⟩:=isDir_tot c2;unfold cW_;rw[c1];simp only[qBs,f0_ h,kT_ h,write_eq h.files h.size user p.Ym offset data now hu hd,d1]
 repeat' first|exact R3.mk rfl rfl|refine R3.cond ?_ ?_
theorem close_tot{s:Xh}(h:Tot s)(user:Str)(id mode now:Int)(hu:user.length<=9223372036854775807)(hm:mode<=9223372036854775807):∃t,hE_ s user id mode now=some t/\Same2 s t:=by
 obtain⟨p,ok,c1,c2⟩:=find_tot h id;unfold hE_;rw[c1];simp only[qBs,f0_ h,kT_ h,close_eq h.files h.size user p.Ym mode now hu hm];cases(!ok)||(p.Zk != 1)with
 | true=>exact⟨_,rfl,rfl,rfl⟩
 | false=>exact⟨_,rfl,rfl,rfl⟩
theorem remove_tot{s:Xh}(h:Tot s)(user:Str)(id now:Int)(hu:user.length<=9223372036854775807):R2 s (gL_ s user id now):=by
 obtain⟨p,e,c1,c2⟩:=lH_ h user id hu;unfold gL_;rw[c1];simp only[qBs,f0_ h,kT_ h,remove_eq h.files h.size user p.Ym now hu];cases(e==0)&&(p.Zk != 1)with
 | true =>
  simp only[cond_true,qBs];exact R2.cond (R2.mk rfl rfl) (R2.cond (R2.mk rfl rfl) (R2.mk rfl rfl))
 | false =>
  simp only[cond_false,qBs];exact R2.cond (R2.mk rfl rfl) (R2.cond (R2.mk rfl rfl) (R2.mk rfl rfl))
theorem wstat_tot{s:Xh}(h:Tot s)(user:Str)(id:Int)(d:Yt)(now:Int)(hu:user.length<=9223372036854775807)(hd:DirB d):R2 s (hG_ s user id d now):=by
 obtain⟨p,e,c1,c2⟩:=lH_ h user id hu;unfold hG_;rw[c1];simp only[qBs,f0_ h,kT_ h,wstat_eq h.files h.size user p.Ym d now hu hd];cases(e==0)&&(p.Zk != 1)with
 | true =>
  simp only[cond_true,qBs];exact R2.cond (R2.mk rfl rfl) (R2.cond (R2.mk rfl rfl) (R2.mk rfl rfl))
 | false =>
  simp only[cond_false,qBs];exact R2.cond (R2.mk rfl rfl) (R2.cond (R2.mk rfl rfl) (R2.mk rfl rfl))
structure Taken(s:Xh)(now:Int)(t:Xh):Prop where
 ok:(ei_ s.Yf s.Xp.Xm).2.2=0
 store:t.Yf=(ei_ s.Yf s.Xp.Xm).1
 snaps:t.Xt=s.Xt++[Yb.mk now (ei_ s.Yf s.Xp.Xm).2.1]
 files:t.Xp=s.Xp
 last:∀x,s.Xt.getLast? = some x->x.Yl<now
theorem uO_{s:Xh}(h:Tot s):dH_ s.Xp.Xm=some true:=by
 obtain⟨b,e1,e2⟩:=hI_ s.Xp.Xm h.size.nl (ok_modes h.files.tr);rw[e2.2 h.files.tr]at e1;exact e1
theorem take_tot{s:Xh}(h:Tot s)(now:Int):∃t e,dg_ s now=some (t,e)/\((e≠0/\t=s)\/(e=0/\Taken s now t)):=by
 have hsl:=h.sl;unfold dg_;rw[f0_ h,PutTree_eq h.store h.files.tr (uO_ h)];simp only[qBs];cases decide ((s.Xt.length:Int)>=64)with
 | true=>exact⟨_,_,rfl,.inl ⟨by decide,rfl⟩⟩
 | false =>
 simp only[cond_false];cases hc:decide (now<0)||decide (now>1099511627776)with
 | true=>exact⟨_,_,rfl,.inl ⟨by decide,rfl⟩⟩
 | false =>
 have hlast:∃c,(Option.bind (bif(decide ((s.Xt.length:Int)>0))then(al_ s.Xt (w64 ((s.Xt.length:Int)-1))).bind λ y2=>some (decide (now<=y2.Yl))else some false) fun(y3:Bool)=>some y3)=some c/\(c=false->∀x,s.Xt.getLast? = some x->x.Yl<now):=by
  rcases Nat.eq_zero_or_pos s.Xt.length with h0|h0
  .have he:s.Xt=[]:=List.length_eq_zero_iff.1 h0;rw[he];exact⟨false,rfl,λ _ x hx=>by cases hx⟩
  .have hi:s.Xt.length-1<s.Xt.length:=by omega
   have hg:al_ s.Xt (w64 ((s.Xt.length:Int)-1))=some s.Xt[s.Xt.length-1]:=by
    rw[ap_ ⟨by omega,by omega⟩,show(s.Xt.length:Int)-1=((s.Xt.length-1:Nat):Int)by omega];exact aq_ hi
   have hd:decide ((s.Xt.length:Int)>0)=true:=by simpa using h0
   rw[hd,hg];refine⟨decide (now<=s.Xt[s.Xt.length-1].Yl),rfl,λ hf x hx => ?_⟩;rw[List.getLast?_eq_getElem?,List.getElem?_eq_getElem hi]at hx;obtain rfl:=qSj hx;simpa using hf
 obtain⟨c,l1,l2⟩:=hlast;simp only[cond_false];rw[l1];cases c with
 | true=>exact⟨_,_,rfl,.inl ⟨by decide,rfl⟩⟩
 | false =>
 simp only[qBs,cond_false];by_cases he:(ei_ s.Yf s.Xp.Xm).2.2=0
 .have hb:((ei_ s.Yf s.Xp.Xm).2.2 != 0)=false:=by simp[he]
  rw[hb,cB_ (by simp;omega) (by simp;omega)];exact⟨_,_,rfl,.inr ⟨rfl,he,rfl,rfl,rfl,l2 rfl⟩⟩
 .have hb:((ei_ s.Yf s.Xp.Xm).2.2 != 0)=true:=by simpa using he
  rw[hb];exact⟨_,_,rfl,.inl ⟨he,rfl⟩⟩
structure Op17(o:Zy):Prop where (user:o.Ya.length<=200) (name:o.Xy.length<=200) (data:o.Xl.length<=3000) (mode:I64 o.Xv) (perm:o.Zi<=9223372036854775807) (dir:DirB o.Zm)
theorem did_tot{s:Xh}(h:Tot s){o:Zy}(ho:Op17 o):∃t n e,nL_ s o=some (t,n,e)/\(Same2 s t\/(o.Yi=7/\Taken s o.Zh t)):=by
 have hu:o.Ya.length<=9223372036854775807:=by have:=ho.user;omega
 have hl:o.Xy.length<=9223372036854775807:=by have:=ho.name;omega
 have hd:o.Xl.length<=9223372036854775807:=by have:=ho.data;omega
 unfold nL_;by_cases k1:o.Yi=1
 .obtain⟨t,e,e1,e2⟩:=open_tot h o.Ya o.Id_ o.Xv o.Zh hu ho.mode;exact⟨t,_,_,aa_ (ah_ (by simp[k1]) (aa_ e1 rfl)) rfl,.inl e2⟩
 by_cases k2:o.Yi=2
 .obtain⟨t,n,e,e1,e2⟩:=create_tot h o.Ya o.Id_ o.Xy o.Zi o.Xv o.Zh hu ho.mode ho.perm hl;exact⟨t,_,_,aa_ (ac_ (by simp[k1]) (ah_ (by simp[k2]) (aa_ e1 rfl))) rfl,.inl e2⟩
 by_cases k3:o.Yi=3
 .obtain⟨t,n,e,e1,e2⟩:=write_tot h o.Ya o.Id_ o.Ze o.Xl o.Zh hu hd;exact⟨t,_,_,aa_ (ac_ (by simp[k1]) (ac_ (by simp[k2]) (ah_ (by simp[k3]) (aa_ e1 rfl)))) rfl,.inl e2⟩
 by_cases k4:o.Yi=4
 .obtain⟨t,e1,e2⟩:=close_tot h o.Ya o.Id_ o.Xv o.Zh hu ho.mode.2;exact⟨t,_,_,aa_ (ac_ (by simp[k1]) (ac_ (by simp[k2]) (ac_ (by simp[k3]) (ah_ (by simp[k4]) (aa_ e1 rfl))))) rfl,.inl e2⟩
 by_cases k5:o.Yi=5
 .obtain⟨t,e,e1,e2⟩:=remove_tot h o.Ya o.Id_ o.Zh hu;exact⟨t,_,_,aa_ (ac_ (by simp[k1]) (ac_ (by simp[k2]) (ac_ (by simp[k3]) (ac_ (by simp[k4]) (ah_ (by simp[k5]) (aa_ e1 rfl)))))) rfl,.inl e2⟩
 by_cases k6:o.Yi=6
 .obtain⟨t,e,e1,e2⟩:=wstat_tot h o.Ya o.Id_ o.Zm o.Zh hu ho.dir;exact⟨t,_,_,aa_ (ac_ (by simp[k1]) (ac_ (by simp[k2]) (ac_ (by simp[k3]) (ac_ (by simp[k4]) (ac_ (by simp[k5]) (ah_ (by simp[k6]) (aa_ e1 rfl))))))) rfl,.inl e2⟩
 by_cases k7:o.Yi=7
 .obtain⟨t,e,e1,e2⟩:=take_tot h o.Zh;refine⟨t,_,_,aa_ (ac_ (by simp[k1]) (ac_ (by simp[k2]) (ac_ (by simp[k3]) (ac_ (by simp[k4]) (ac_ (by simp[k5]) (ac_ (by simp[k6]) (ah_ (by simp[k7]) (aa_ e1 rfl)))))))) rfl,?_⟩;rcases e2 with⟨_,rfl⟩|⟨_,e2⟩
  .exact .inl ⟨rfl,rfl⟩
  .exact .inr ⟨k7,e2⟩
 .exact⟨s,_,_,aa_ (ac_ (by simp[k1]) (ac_ (by simp[k2]) (ac_ (by simp[k3]) (ac_ (by simp[k4]) (ac_ (by simp[k5]) (ac_ (by simp[k6]) (ac_ (by simp[k7]) rfl))))))) rfl,.inl ⟨rfl,rfl⟩⟩
theorem atS_gt{l:List Yb}{n:Yb}{t:Int}(h:t<n.Yl):atS (l++[n]) t=atS l t:=by
 unfold atS;rw[List.reverse_append,List.reverse_singleton,List.singleton_append,List.find?_cons];have:decide (n.Yl<=t)=false:=by simp;omega
 rw[this]
theorem atS_le{l:List Yb}{n:Yb}{t:Int}(h:n.Yl<=t):atS (l++[n]) t=some n:=by
 unfold atS;rw[List.reverse_append,List.reverse_singleton,List.singleton_append,List.find?_cons];have:decide (n.Yl<=t)=true:=by simpa using h
 rw[this]
theorem rr_{s:Xh}{tm:Int}{y:Yb}{T:Xk}(hl:s.Xt.length<=1000)(ha:atS s.Xt tm=some y)(hT:bM_ s.Yf y.Yx=some (T,0)):eU_ s tm=some (T,0):=by
 unfold eU_;rw[At_eq s tm hl];unfold atR;rw[ha];exact aa_ (a:=(y,true)) rfl (ac_ rfl (aa_ hT rfl))
def lightB(o:Zy):Bool:=(decide ((o.Xl.length:Int)<=3000)&&decide ((o.Xy.length:Int)<=200))&&decide ((o.Ya.length:Int)<=200)
theorem op_ok{o:Zy}(h:Fit te (.st op17N) o)(hl:lightB o=true):Op17 o:=by
 unfold lightB at hl;simp only[qAn,qDe]at hl;exact⟨by omega,by omega,by omega,(h 0).2.2.2.2.2.1,(h 0).2.2.2.2.1.2,(h 0).2.2.2.2.2.2.2.2.2.2.1.2,(h 0).2.2.2.2.2.2.2.2.2.2.2.2.2.1.2,(h 0).2.2.2.2.2.2.2.2.2.2.2.2.2.2.2.2.2.1⟩
theorem Ok17.tot{s:Xh}(h:Ok17 s)(z:SizeOK s.Xp):Tot s:=⟨h.files,z,h.store,by have:=h.sl;omega⟩
theorem same17{s:Xh}(h:Tot s)(hn:s.Xp.Xm.Xz.length<=1000):mo_ s s=some true:=by
 have hsz:=h.store.size;have hsl:=h.sl;have hel:=h.size.el;unfold mo_;refine aa_ (same_eq s.Xp h.size.ul h.size.um h.size.ql hn (by omega)) (aa_ (a:=false) (ac_ rfl (aa_ (a:=true) ?_ rfl)) (ac_ (by simp) ?_))
 .unfold jM_;refine ac_ (by simp) ?_;have hlp:=aU_ (body:=e9_ s.Yf s.Yf) (T:=λ i=>(i:Int)) (b:=Out.fall ()) s.Yf.Xc.length (bP_ (by omega)) (λ i hi => ?_) ?_
  .exact aa_ hlp rfl
  .unfold e9_;refine ah_ (bj_ hi) (aa_ (aq_ hi) (aa_ (aq_ hi) (ac_ (by simp) ?_)));rw[au_ (by omega)]
  .unfold e9_;exact ac_ (br_ _) rfl
 .have hlp:=aU_ (body:=iH_ s s) (T:=λ i=>(i:Int)) (b:=Out.fall ()) s.Xt.length (bP_ (by omega)) (λ i hi => ?_) ?_
  .exact aa_ hlp rfl
  .unfold iH_;refine ah_ (bj_ hi) (aa_ (aq_ hi) (aa_ (aq_ hi) (ac_ (by simp) ?_)));rw[au_ (by omega)]
  .unfold iH_;exact ac_ (br_ _) rfl
theorem qd_(x0:Xh)(x1:Int)(x2:Zy)(h0:Fit te (.st snapN) x0)(_:Fit te (.int .i64) x1)(h2:Fit te (.st op17N) x2):eI_ x0 x1 x2=some true:=by
 unfold eI_;have hA:(law17_awake.bind λ y4=>some y4)=some true:=by rw[awake_eq];rfl
 refine ask17 (srv_fit h0) (p := !(lightB x2)) rfl hA λ hp hs z h => ?_
 have ho:=op_ok h2 (by simpa using hp);have tot:=h.tot z;have hnl:=hs.nl;obtain⟨t,e,e1,e2⟩:=take_tot tot x1;refine aa_ e1 ?_;rcases e2 with⟨he,rfl⟩|⟨rfl,k⟩
 .exact ah_ (by simpa using he) (aa_ (same17 (s:=t) tot (by omega)) (aa_ (a:=true) (ah_ rfl hA) rfl))
 .obtain⟨k1,k2⟩:=treeS_ok h.store (t:=x0.Xp.Xm) h.files.tr;have hsl:=h.sl;have htl:t.Xt.length<=65:=by rw[k.snaps];simp;omega
  have tot2:Tot t:=⟨by rw[k.files];exact h.files,by rw[k.files];exact z,by rw[k.store];exact k1,by omega⟩;have hget:∀{u:Xj},StOK u->StLe t.Yf u->bM_ u (ei_ x0.Yf x0.Xp.Xm).2.1=some (x0.Xp.Xm,0):=fun{u} hu hle=>by
   obtain⟨seen,s1,_⟩:=restored h.store hu h.files.tr k.ok (by rw[←k.store];exact hle);unfold bM_;exact aa_ s1 rfl
  have k2s:=k.snaps;generalize(ei_ x0.Yf x0.Xp.Xm).2.1=sc at hget k2s;have hat:atS t.Xt x1=some (Yb.mk x1 sc):=by
   rw[k2s];exact atS_le (Int.le_refl _)
  have t1:=rr_ (s:=t) (y:=Yb.mk x1 sc) (T:=x0.Xp.Xm) (by omega) hat (hget tot2.store (StLe.refl _));obtain⟨u,n,e3,d1,d2⟩:=did_tot tot2 ho;have t2:eU_ u x1=some (x0.Xp.Xm,0):=by
   rcases d2 with⟨s1,s2⟩|⟨_,q⟩
   .exact rr_ (s:=u) (y:=Yb.mk x1 sc) (T:=x0.Xp.Xm) (by rw[s2];omega) (by rw[s2];exact hat) (by rw[s1];exact hget tot2.store (StLe.refl _))
   .obtain⟨q1,q2⟩:=treeS_ok tot2.store (t:=t.Xp.Xm) tot2.files.tr;have hlt:x1<x2.Zh:=q.last (Yb.mk x1 sc) (by rw[k2s];exact List.getLast?_concat);have hu1:StOK u.Yf:=by rw[q.store];exact q1
    have hu2:StLe t.Yf u.Yf:=by rw[q.store];exact q2
    have hul:u.Xt.length<=1000:=by rw[q.snaps,qLa,List.length_singleton];omega
    have hua:atS u.Xt x1=some (Yb.mk x1 sc):=by
     rw[q.snaps];exact(atS_gt (by exact hlt)).trans hat
    exact rr_ (s:=u) (y:=Yb.mk x1 sc) (T:=x0.Xp.Xm) hul hua (hget hu1 hu2)
  have hsame:=sj_ x0.Xp.Xm (by omega);refine ac_ rfl (aa_ d1 (aa_ t1 (aa_ t2 (aa_ (a:=true) (ah_ rfl (aa_ hsame rfl)) (aa_ (a:=true) (ah_ rfl (aa_ (a:=true) ?_ rfl)) (aa_ (a:=true) (ah_ rfl hA) rfl))))));cases(x2.Yi==7)&&(x2.Zh==x1)with
  | true=>rfl
  | false=>exact ac_ rfl (aa_ hsame rfl)
end Go.Proofs.YtebokaoegomboaaGreatDoor
