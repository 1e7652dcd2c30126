/-
 What the statements of this seat hang on,part 8: Hz Hza Hzb Hzc Hzd Uc Ug Uh Ui.
-/
import Derived.Test.YtebokaoegomboaaGreatDoorZA7
namespace Go.Proofs.YtebokaoegomboaaGreatDoor
open Go.Rt Go.RowKit
def nD (s:Str) (w a:Nat):Option (Int × Nat):=if s.length - a<w∨leV (win s a w)>9223372036854775807 then none else some ((leV (win s a w):Int),a+w)
def tD (s:Str) (a:Nat):Option (Str × Nat):=takeT s a
def sD (s:Str) (a:Nat):Option (Str × Nat):=if s.length - a<32 then none else some (win s a 32,a+32)
theorem jD_ {s:Str} {w a a':Nat} {v:Int} (ha:a≤s.length) (h:nD s w a=some (v,a')):a'≤s.length∧a'=a+w∧0≤v∧v≤9223372036854775807:=by
 unfold nD at h
 split at h
 ·cases h
 ·simp only [Option.some.injEq,Prod.mk.injEq] at h
  omega
theorem sD_le {s t:Str} {a a':Nat} (ha:a≤s.length) (h:sD s a=some (t,a')):a'≤s.length∧a'=a+32∧t.length=32:=by
 unfold sD at h
 split at h
 ·cases h
 ·simp only [Option.some.injEq,Prod.mk.injEq] at h
  obtain ⟨h1,h2⟩:=h
  refine ⟨by omega,by omega,?_⟩
  rw [← h1,hU_ (by omega)]
def DS (s:Str) (o:Option Nat) (d:archive_decoder):Prop:=d.s_=s∧d.bad_=o.isNone∧∃ a:Nat,d.at_=(a:Int)∧a≤s.length∧∀ b,o=some b→a=b
def RS (s:Str) (o:Option Nat) (d:ref16_scan):Prop:=d.S_=s∧d.Bad_=o.isNone∧∃ a:Nat,d.At_=(a:Int)∧a≤s.length∧∀ b,o=some b→a=b
theorem jE_ {s:Str} (hs:s.length≤2000000) {o:Option Nat} {d:archive_decoder} (h:DS s o d) {w:Nat} (h1:1≤w) (h8:w≤8) :
  ∃ v d',aq_ d (w:Int)=some (v,d')∧DS s (o.bind fun a=>(nD s w a).map (·.2)) d'∧∀ a q,o=some a→nD s w a=some q→v=q.1:=by
 obtain ⟨e1,e2,a,e3,e4,e5⟩:=h
 unfold aq_
 rw [e1,e3]
 have hg:=get_eq s a w h1 h8 e4 (by omega)
 cases o with
 | none =>
  refine ⟨_,_,aa_ hg (ag_ (by rw [e2]; rfl) rfl),⟨rfl,rfl,a,rfl,e4,fun b hb=>by cases hb⟩,fun a q ha=>by cases ha⟩
 | some b =>
  obtain rfl:=e5 b rfl
  simp only [Option.bind_some]
  unfold nD
  by_cases c1:s.length - a<w
  ·rw [if_pos c1] at hg
   rw [if_pos (.inl c1)]
   exact ⟨_,_,aa_ hg (ag_ (by rw [e2]; rfl) rfl),⟨rfl,rfl,a,rfl,e4,fun b hb=>by cases hb⟩,fun a q ha hq=>by
    obtain rfl:=Option.some.inj ha
    rw [if_pos (.inl c1)] at hq
    cases hq⟩
  ·rw [if_neg c1] at hg
   by_cases c2:leV (win s a w)>9223372036854775807
   ·rw [if_pos c2] at hg
    rw [if_pos (.inr c2)]
    exact ⟨_,_,aa_ hg (ag_ (by rw [e2]; rfl) rfl),⟨rfl,rfl,a,rfl,e4,fun b hb=>by cases hb⟩,fun a q ha hq=>by
     obtain rfl:=Option.some.inj ha
     rw [if_pos (.inr c2)] at hq
     cases hq⟩
   ·rw [if_neg c2] at hg
    rw [if_neg (by omega)]
    exact ⟨_,_,aa_ hg (ac_ (by rw [e2]; rfl) rfl),⟨rfl,e2,a+w,rfl,by omega,fun b hb=>(Option.some.inj hb).symm▸rfl⟩,fun a q ha hq=>by
     obtain rfl:=Option.some.inj ha
     rw [if_neg (by omega)] at hq
     obtain rfl:=Option.some.inj hq
     rfl⟩
theorem d_text {s:Str} (hs:s.length≤2000000) {o:Option Nat} {d:archive_decoder} (h:DS s o d) :
  ∃ v d',bI_ d=some (v,d')∧DS s (o.bind fun a=>(tD s a).map (·.2)) d'∧∀ a q,o=some a→tD s a=some q→v=q.1:=by
 obtain ⟨e1,e2,a,e3,e4,e5⟩:=h
 unfold bI_
 rw [e1,e3]
 have hg:=gettext_eq s a e4 hs
 cases o with
 | none =>
  refine ⟨_,_,aa_ hg (ag_ (by rw [e2]; rfl) rfl),⟨rfl,rfl,a,rfl,e4,fun b hb=>by cases hb⟩,fun a q ha=>by cases ha⟩
 | some b =>
  obtain rfl:=e5 b rfl
  simp only [Option.bind_some]
  unfold tD
  cases ht:takeT s a with
  | none =>
   rw [ht] at hg
   exact ⟨_,_,aa_ hg (ag_ (by rw [e2]; rfl) rfl),⟨rfl,rfl,a,rfl,e4,fun b hb=>by cases hb⟩,fun a q ha hq=>by
    obtain rfl:=Option.some.inj ha
    rw [ht] at hq
    cases hq⟩
  | some p =>
   obtain ⟨t,p⟩:=p
   rw [ht] at hg
   exact ⟨_,_,aa_ hg (ac_ (by rw [e2]; rfl) rfl),⟨rfl,e2,p,rfl,(lk_ ht).1,fun b hb=>Option.some.inj hb⟩,fun a q ha hq=>by
    obtain rfl:=Option.some.inj ha
    rw [ht] at hq
    obtain rfl:=Option.some.inj hq
    rfl⟩
theorem d_score {s:Str} (hs:s.length≤2000000) {o:Option Nat} {d:archive_decoder} (h:DS s o d) :
  ∃ v d',dk_ d=some (v,d')∧DS s (o.bind fun a=>(sD s a).map (·.2)) d'∧∀ a q,o=some a→sD s a=some q→v=q.1:=by
 obtain ⟨e1,e2,a,e3,e4,e5⟩:=h
 unfold dk_
 rw [e1,e3]
 have el:w64 ((s.length:Int) - (a:Int))=((s.length - a:Nat):Int):=by rw [am_ ⟨by omega,by omega⟩]; omega
 rw [el]
 cases o with
 | none =>
  refine ⟨_,_,ag_ (by rw [e2]; rfl) rfl,⟨rfl,rfl,a,rfl,e4,fun b hb=>by cases hb⟩,fun a q ha=>by cases ha⟩
 | some b =>
  obtain rfl:=e5 b rfl
  simp only [Option.bind_some]
  unfold sD
  by_cases c1:s.length - a<32
  ·rw [if_pos c1]
   exact ⟨_,_,ag_ (by rw [e2]; simp; omega) rfl,⟨rfl,rfl,a,rfl,e4,fun b hb=>by cases hb⟩,fun a q ha hq=>by
    obtain rfl:=Option.some.inj ha
    rw [if_pos c1] at hq
    cases hq⟩
  ·rw [if_neg c1]
   have w1:w64 ((a:Int)+32)=((a+32:Nat):Int):=by rw [am_ ⟨by omega,by omega⟩]; rfl
   have w2:w64 (((a+32:Nat):Int) - 32)=(a:Int):=by rw [am_ ⟨by omega,by omega⟩]; omega
   have hsub:bl_ s (w64 ((w64 ((a:Int)+32)) - 32)) (w64 ((a:Int)+32))=some (win s a 32):=by
    rw [w1,w2,cc_ (by omega) (by omega) (by omega),Int.toNat_natCast,Int.toNat_natCast,List.drop_take,Nat.add_sub_cancel_left]
    rfl
   exact ⟨_,_,ac_ (by rw [e2]; simp; omega) (aa_ hsub rfl),⟨rfl,e2,a+32,w1,by omega,fun b hb=>Option.some.inj hb⟩,fun a q ha hq=>by
    obtain rfl:=Option.some.inj ha
    rw [if_neg c1] at hq
    obtain rfl:=Option.some.inj hq
    rfl⟩
theorem iD_ {s:Str} (hs:s.length≤2000000) {o:Option Nat} {d:ref16_scan} (h:RS s o d) {w:Nat} (h1:1≤w) (h8:w≤8) :
  ∃ v d',az_ d (w:Int)=some (v,d')∧RS s (o.bind fun a=>(nD s w a).map (·.2)) d'∧∀ a q,o=some a→nD s w a=some q→v=q.1:=by
 obtain ⟨e1,e2,a,e3,e4,e5⟩:=h
 unfold az_
 have el:w64 ((s.length:Int) - (a:Int))=((s.length - a:Nat):Int):=by rw [am_ ⟨by omega,by omega⟩]; omega
 cases o with
 | none =>
  refine ⟨_,_,ag_ (by rw [e2]; rfl) rfl,⟨e1,rfl,a,e3,e4,fun b hb=>by cases hb⟩,fun a q ha=>by cases ha⟩
 | some b =>
  obtain rfl:=e5 b rfl
  simp only [Option.bind_some]
  by_cases c1:s.length - a<w
  ·unfold nD
   rw [if_pos (.inl c1)]
   exact ⟨_,_,ag_ (by rw [e1,e2,e3,el]; simp; omega) rfl,⟨e1,rfl,a,e3,e4,fun b hb=>by cases hb⟩,fun a q ha hq=>by
    obtain rfl:=Option.some.inj ha
    rw [if_pos (.inl c1)] at hq
    cases hq⟩
  ·have h:a+w≤s.length:=by omega
   have hc:(d.Bad_||decide ((w64 ((d.S_.length:Int) - d.At_))<(w:Int)))=false:=by rw [e1,e2,e3,el]; simp; omega
   have hdl:∀ j,j≤w→((win s a w).drop (w - j)).length=j:=fun j hj=>by rw [List.length_drop,hU_ h]; omega
   have hlv:∀ j,j≤w→leV ((win s a w).drop (w - j))<2 ^ (8*j):=fun j hj=>by
    have:=leV_lt ((win s a w).drop (w - j))
    rwa [hdl j hj] at this
   have hstep:∀ j,j<w→leV ((win s a w).drop (w - j))<36028797018963968→bG_ d (((leV ((win s a w).drop (w - j)):Nat):Int),(w:Int) - 1 - (j:Int))=some (.next (((leV ((win s a w).drop (w - (j+1))):Nat):Int),(w:Int) - 1 - ((j+1:Nat):Int))):=fun j hj hlt=>by
    unfold bG_
    refine ag_ (by simp; omega) (ac_ (by simp; omega) ?_)
    have ei:w64 (d.At_+((w:Int) - 1 - (j:Int)))=((a+(w - 1 - j):Nat):Int):=by
     rw [e3,am_ ⟨by omega,by omega⟩]; omega
    show Option.bind (bQ_ d.S_ (w64 (d.At_+((w:Int) - 1 - (j:Int))))) _=_
    rw [ei,e1]
    refine aa_ (i6_ (by omega)) ?_
    rw [nF_ h hj]
    simp only [leV]
    generalize s[a+(w - 1 - j)]'(by omega)=b
    have hb:=b.toNat_lt
    generalize leV ((win s a w).drop (w - j))=v at hlt ⊢
    show some (Step.next (w64 ((w64 ((v:Int)*256))+(w64 (b.toNat:Int))),w64 ((w:Int) - 1 - (j:Int) - 1)))=_
    rw [am_ (n:=(v:Int)*256) ⟨by omega,by omega⟩,am_ (n:=(b.toNat:Int)) ⟨by omega,by omega⟩,am_ (n:=(v:Int)*256+(b.toNat:Int)) ⟨by omega,by omega⟩,am_ ⟨by omega,by omega⟩]
    congr 3
    ·omega
    ·omega
   have hsmall:∀ j,j<w→j≤6→leV ((win s a w).drop (w - j))<36028797018963968:=fun j hj h6=>by
    have:=hlv j (by omega)
    have hp:2 ^ (8*j)≤2 ^ 48:=Nat.pow_le_pow_right (by omega) (by omega)
    omega
   have hfull:(win s a w).drop (w - w)=win s a w:=by simp
   have e0:(win s a w).drop (w - 0)=[]:=List.drop_eq_nil_of_le (by rw [hU_ h]; omega)
   have estart:((0:Int),w64 ((w:Int) - 1))=(((leV ((win s a w).drop (w - 0)):Nat):Int),(w:Int) - 1 - ((0:Nat):Int)):=by
    rw [e0,am_ ⟨by omega,by omega⟩]
    simp [leV]
   by_cases c2:leV (win s a w)>9223372036854775807
   ·
    have hw8:w=8:=by
     have:=hlv w (Nat.le_refl _)
     rw [hfull] at this
     rcases Nat.lt_or_ge w 8 with h' | h'
     ·have hp:2 ^ (8*w)≤2 ^ 56:=Nat.pow_le_pow_right (by omega) (by omega)
      omega
     ·omega
    subst hw8
    have h7:¬ leV ((win s a 8).drop (8 - 7))<36028797018963968:=by
     have hd:=nF_ (s:=s) (at_:=a) (w:=8) (j:=7) h (by omega)
     have e8:(win s a 8).drop (8 - (7+1))=win s a 8:=by simp
     rw [e8] at hd
     rw [hd] at c2
     simp only [leV] at c2
     have:=(s[a+(8 - 1 - 7)]'(by omega)).toNat_lt
     omega
    have hl:aj_ (bG_ d) BIG (0,w64 (((8:Nat):Int) - 1))=some (.ret (0,ref16_scan.mk d.S_ d.At_ true)):=by
     rw [estart]
     refine aJ_ (T:=fun j=>(((leV ((win s a 8).drop (8 - j)):Nat):Int),((8:Nat):Int) - 1 - (j:Int))) 7 (by decide) (fun j hj=>hstep j (by omega) (hsmall j (by omega) (by omega))) ?_
     unfold bG_
     exact ag_ (by show decide (((8:Nat):Int) - 1 - ((7:Nat):Int)≥0)=true; decide) (ag_ (by show decide (((leV ((win s a 8).drop (8 - 7)):Nat):Int)≥36028797018963968)=true; simp only [decide_eq_true_eq]; omega) rfl)
    unfold nD
    rw [if_pos (.inr c2)]
    exact ⟨_,_,ac_ hc (aa_ hl rfl),⟨e1,rfl,a,e3,e4,fun b hb=>by cases hb⟩,fun a q ha hq=>by
     obtain rfl:=Option.some.inj ha
     rw [if_pos (.inr c2)] at hq
     cases hq⟩
   ·have hl:aj_ (bG_ d) BIG (0,w64 ((w:Int) - 1))=some (.fall ((leV (win s a w):Nat):Int)):=by
     rw [estart]
     refine aJ_ (T:=fun j=>(((leV ((win s a w).drop (w - j)):Nat):Int),(w:Int) - 1 - (j:Int))) w (bd_ (by omega)) (fun j hj=>hstep j hj ?_) ?_
     ·rcases Nat.lt_or_ge 6 j with h6 | h6
      ·have:j=7∧w=8:=by omega
       obtain ⟨rfl,rfl⟩:=this
       have hd:=nF_ (s:=s) (at_:=a) (w:=8) (j:=7) h (by omega)
       have e8:(win s a 8).drop (8 - (7+1))=win s a 8:=by simp
       rw [e8] at hd
       rw [hd] at c2
       simp only [leV] at c2
       omega
      ·exact hsmall j hj h6
     ·unfold bG_
      refine ac_ (by simp; omega) ?_
      rw [hfull]
    unfold nD
    rw [if_neg (by omega)]
    refine ⟨_,_,ac_ hc (aa_ hl rfl),⟨e1,e2,a+w,?_,by omega,fun b hb=>Option.some.inj hb⟩,fun a q ha hq=>by
     obtain rfl:=Option.some.inj ha
     rw [if_neg (by omega)] at hq
     obtain rfl:=Option.some.inj hq
     rfl⟩
    show w64 (d.At_+(w:Int))=_
    rw [e3,am_ ⟨by omega,by omega⟩]
    rfl
theorem r_text {s:Str} (hs:s.length≤2000000) {o:Option Nat} {d:ref16_scan} (h:RS s o d) (n:Nat) (hn:n≤1000000) :
  ∃ v d',bo_ d (n:Int)=some (v,d')∧RS s (o.bind fun a=>if s.length - a<n then none else some (a+n)) d'∧∀ a,o=some a→¬ s.length - a<n→v=win s a n:=by
 obtain ⟨e1,e2,a,e3,e4,e5⟩:=h
 unfold bo_
 have el:w64 ((s.length:Int) - (a:Int))=((s.length - a:Nat):Int):=by rw [am_ ⟨by omega,by omega⟩]; omega
 rw [e1,e3,el]
 cases o with
 | none =>
  exact ⟨_,_,ag_ (by rw [e2]; rfl) rfl,⟨rfl,rfl,a,rfl,e4,fun b hb=>by cases hb⟩,fun a ha=>by cases ha⟩
 | some b =>
  obtain rfl:=e5 b rfl
  simp only [Option.bind_some]
  by_cases c1:s.length - a<n
  ·rw [if_pos c1]
   exact ⟨_,_,ag_ (by rw [e2]; simp; omega) rfl,⟨rfl,rfl,a,rfl,e4,fun b hb=>by cases hb⟩,fun a ha hq=>by
    obtain rfl:=Option.some.inj ha
    exact absurd c1 hq⟩
  ·rw [if_neg c1]
   have w1:w64 ((a:Int)+(n:Int))=((a+n:Nat):Int):=by rw [am_ ⟨by omega,by omega⟩]; rfl
   have w2:w64 (((a+n:Nat):Int) - (n:Int))=(a:Int):=by rw [am_ ⟨by omega,by omega⟩]; omega
   have hsub:bl_ s (w64 ((w64 ((a:Int)+(n:Int))) - (n:Int))) (w64 ((a:Int)+(n:Int)))=some (win s a n):=by
    rw [w1,w2,cc_ (by omega) (by omega) (by omega),Int.toNat_natCast,Int.toNat_natCast,List.drop_take,Nat.add_sub_cancel_left]
    rfl
   exact ⟨_,_,ac_ (by rw [e2]; simp; omega) (aa_ hsub rfl),⟨rfl,e2,a+n,w1,by omega,fun b hb=>Option.some.inj hb⟩,fun a ha hq=>by
    obtain rfl:=Option.some.inj ha
    rfl⟩
theorem lR_ {s:Str} (hs:s.length≤2000000) {o:Option Nat} {d:ref16_scan} (h:RS s o d) :
  ∃ v d' t d2,az_ d 2=some (v,d')∧bo_ d' v=some (t,d2)∧RS s (o.bind fun a=>(tD s a).map (·.2)) d2∧∀ a q,o=some a→tD s a=some q→t=q.1:=by
 obtain ⟨v,d',h1,h2,h3⟩:=iD_ hs h (w:=2) (by omega) (by omega)
 cases o with
 | none =>
  obtain ⟨e1,e2,a,e3,e4,e5⟩:=h2
  have hbad:d'.Bad_=true:=e2
  refine ⟨v,d',[],ref16_scan.mk d'.S_ d'.At_ true,h1,?_,⟨e1,rfl,a,e3,e4,fun b hb=>by cases hb⟩,fun a q ha=>by cases ha⟩
  unfold bo_
  exact ag_ (by rw [hbad]; rfl) rfl
 | some a =>
  have ha:a≤s.length:=by
   obtain ⟨_,_,a',_,e4,e5⟩:=h
   have:=e5 a rfl
   omega
  simp only [Option.bind_some] at h2 ⊢
  unfold tD takeT
  by_cases c1:s.length<a+2
  ·rw [if_pos c1]
   have hn:nD s 2 a=none:=by unfold nD; rw [if_pos (.inl (by omega))]
   rw [hn] at h2
   obtain ⟨e1,e2,b,e3,e4,e5⟩:=h2
   have hbad:d'.Bad_=true:=e2
   refine ⟨v,d',[],ref16_scan.mk d'.S_ d'.At_ true,h1,?_,⟨e1,rfl,b,e3,e4,fun b hb=>by cases hb⟩,fun a' q ha' hq=>by
    obtain rfl:=Option.some.inj ha'
    rw [if_pos c1] at hq
    cases hq⟩
   unfold bo_
   exact ag_ (by rw [hbad]; rfl) rfl
  ·rw [if_neg c1]
   have hv2:=leV_two s a (by omega)
   have hn:nD s 2 a=some ((leV (win s a 2):Int),a+2):=by unfold nD; rw [if_neg (by omega)]
   rw [hn] at h2
   have hv:v=(leV (win s a 2):Int):=h3 a _ rfl hn
   subst hv
   obtain ⟨t,d2,g1,g2,g3⟩:=r_text hs h2 (leV (win s a 2)) (by omega)
   simp only [Option.map_some,Option.bind_some] at g2 g3
   refine ⟨_,d',t,d2,h1,g1,?_,fun a' q ha' hq => ?_⟩
   ·by_cases c2:s.length<a+2+leV (win s a 2)
    ·rw [if_pos c2]
     rw [if_pos (by omega)] at g2
     exact g2
    ·rw [if_neg c2]
     rw [if_neg (by omega)] at g2
     exact g2
   ·obtain rfl:=Option.some.inj ha'
    rw [if_neg c1] at hq
    split at hq
    ·cases hq
    ·rename_i c2
     obtain rfl:=Option.some.inj hq
     exact g3 (a+2) rfl (by omega)
def entD (s:Str) (a:Nat):Option (api_Node × api_Root × Nat) :=
 (nD s 4 a).bind fun q1=>(nD s 4 q1.2).bind fun q2=>(nD s 4 q2.2).bind fun q3=>(nD s 4 q3.2).bind fun q4=>(nD s 8 q4.2).bind fun q5=>(nD s 8 q5.2).bind fun q6 =>
 (tD s q6.2).bind fun q7=>(tD s q7.2).bind fun q8=>(tD s q8.2).bind fun q9=>(tD s q9.2).bind fun q10=>(nD s 4 q10.2).bind fun q11=>(nD s 1 q11.2).bind fun q12=>(sD s q12.2).bind fun q13 =>
 some (api_Node.mk q1.1 q2.1 q3.1 q7.1 q4.1 q8.1 q9.1 q10.1 q5.1 q6.1 [],api_Root.mk q13.1 q11.1 q12.1,q13.2)
theorem ent_steps (s:Str) (o:Option Nat):(o.bind fun a=>(entD s a).map (·.2.2))=((((((((((((((o.bind fun a=>(nD s 4 a).map (·.2)).bind fun a=>(nD s 4 a).map (·.2)).bind fun a=>(nD s 4 a).map (·.2)).bind fun a=>(nD s 4 a).map (·.2)).bind fun a=>(nD s 8 a).map (·.2)).bind fun a=>(nD s 8 a).map (·.2)).bind fun a=>(tD s a).map (·.2)).bind fun a=>(tD s a).map (·.2)).bind fun a=>(tD s a).map (·.2)).bind fun a=>(tD s a).map (·.2)).bind fun a=>(nD s 4 a).map (·.2)).bind fun a=>(nD s 1 a).map (·.2)).bind fun a=>(sD s a).map (·.2))):=by
 cases o with
 | none=>rfl
 | some a =>
  simp only [Option.bind_some]
  unfold entD
  cases nD s 4 a with
  | none=>rfl
  | some q1 =>
   simp only [Option.bind_some,Option.map_some]
   cases nD s 4 q1.2 with
   | none=>rfl
   | some q2 =>
    simp only [Option.bind_some,Option.map_some]
    cases nD s 4 q2.2 with
    | none=>rfl
    | some q3 =>
     simp only [Option.bind_some,Option.map_some]
     cases nD s 4 q3.2 with
     | none=>rfl
     | some q4 =>
      simp only [Option.bind_some,Option.map_some]
      cases nD s 8 q4.2 with
      | none=>rfl
      | some q5 =>
       simp only [Option.bind_some,Option.map_some]
       cases nD s 8 q5.2 with
       | none=>rfl
       | some q6 =>
        simp only [Option.bind_some,Option.map_some]
        cases tD s q6.2 with
        | none=>rfl
        | some q7 =>
         simp only [Option.bind_some,Option.map_some]
         cases tD s q7.2 with
         | none=>rfl
         | some q8 =>
          simp only [Option.bind_some,Option.map_some]
          cases tD s q8.2 with
          | none=>rfl
          | some q9 =>
           simp only [Option.bind_some,Option.map_some]
           cases tD s q9.2 with
           | none=>rfl
           | some q10 =>
            simp only [Option.bind_some,Option.map_some]
            cases nD s 4 q10.2 with
            | none=>rfl
            | some q11 =>
             simp only [Option.bind_some,Option.map_some]
             cases nD s 1 q11.2 with
             | none=>rfl
             | some q12 =>
              simp only [Option.bind_some,Option.map_some]
              cases sD s q12.2 <;> rfl
theorem d_entry {s:Str} (hs:s.length≤2000000) {o:Option Nat} {d:archive_decoder} (h:DS s o d) :
  ∃ x d',bU_ d=some (x,d')∧DS s (o.bind fun a=>(entD s a).map (·.2.2)) d'∧∀ a q,o=some a→entD s a=some q→x=archive_entry.mk q.1 q.2.1:=by
 obtain ⟨v1,d1,a1,b1,c1⟩:=jE_ hs h (w:=4) (by omega) (by omega)
 obtain ⟨v2,d2,a2,b2,c2⟩:=jE_ hs b1 (w:=4) (by omega) (by omega)
 obtain ⟨v3,d3,a3,b3,c3⟩:=jE_ hs b2 (w:=4) (by omega) (by omega)
 obtain ⟨v4,d4,a4,b4,c4⟩:=jE_ hs b3 (w:=4) (by omega) (by omega)
 obtain ⟨v5,d5,a5,b5,c5⟩:=jE_ hs b4 (w:=8) (by omega) (by omega)
 obtain ⟨v6,d6,a6,b6,c6⟩:=jE_ hs b5 (w:=8) (by omega) (by omega)
 obtain ⟨v7,d7,a7,b7,c7⟩:=d_text hs b6
 obtain ⟨v8,d8,a8,b8,c8⟩:=d_text hs b7
 obtain ⟨v9,d9,a9,b9,c9⟩:=d_text hs b8
 obtain ⟨v10,d10,a10,b10,c10⟩:=d_text hs b9
 obtain ⟨v11,d11,a11,b11,c11⟩:=jE_ hs b10 (w:=4) (by omega) (by omega)
 obtain ⟨v12,d12,a12,b12,c12⟩:=jE_ hs b11 (w:=1) (by omega) (by omega)
 obtain ⟨v13,d13,a13,b13,c13⟩:=d_score hs b12
 refine ⟨_,d13,aa_ a1 (aa_ a2 (aa_ a3 (aa_ a4 (aa_ a5 (aa_ a6 (aa_ a7 (aa_ a8 (aa_ a9 (aa_ a10 (aa_ a11 (aa_ a12 (aa_ a13 rfl)))))))))))),?_,?_⟩
 ·rw [ent_steps s o]
  exact b13
 ·intro a q ha hq
  subst ha
  unfold entD at hq
  obtain ⟨q1,p1,hq⟩:=Option.bind_eq_some_iff.1 hq
  obtain ⟨q2,p2,hq⟩:=Option.bind_eq_some_iff.1 hq
  obtain ⟨q3,p3,hq⟩:=Option.bind_eq_some_iff.1 hq
  obtain ⟨q4,p4,hq⟩:=Option.bind_eq_some_iff.1 hq
  obtain ⟨q5,p5,hq⟩:=Option.bind_eq_some_iff.1 hq
  obtain ⟨q6,p6,hq⟩:=Option.bind_eq_some_iff.1 hq
  obtain ⟨q7,p7,hq⟩:=Option.bind_eq_some_iff.1 hq
  obtain ⟨q8,p8,hq⟩:=Option.bind_eq_some_iff.1 hq
  obtain ⟨q9,p9,hq⟩:=Option.bind_eq_some_iff.1 hq
  obtain ⟨q10,p10,hq⟩:=Option.bind_eq_some_iff.1 hq
  obtain ⟨q11,p11,hq⟩:=Option.bind_eq_some_iff.1 hq
  obtain ⟨q12,p12,hq⟩:=Option.bind_eq_some_iff.1 hq
  obtain ⟨q13,p13,hq⟩:=Option.bind_eq_some_iff.1 hq
  obtain rfl:=Option.some.inj hq
  have f1:=c1 a q1 rfl p1
  have f2:=c2 q1.2 q2 (by simp [p1]) p2
  have f3:=c3 q2.2 q3 (by simp [p1,p2]) p3
  have f4:=c4 q3.2 q4 (by simp [p1,p2,p3]) p4
  have f5:=c5 q4.2 q5 (by simp [p1,p2,p3,p4]) p5
  have f6:=c6 q5.2 q6 (by simp [p1,p2,p3,p4,p5]) p6
  have f7:=c7 q6.2 q7 (by simp [p1,p2,p3,p4,p5,p6]) p7
  have f8:=c8 q7.2 q8 (by simp [p1,p2,p3,p4,p5,p6,p7]) p8
  have f9:=c9 q8.2 q9 (by simp [p1,p2,p3,p4,p5,p6,p7,p8]) p9
  have f10:=c10 q9.2 q10 (by simp [p1,p2,p3,p4,p5,p6,p7,p8,p9]) p10
  have f11:=c11 q10.2 q11 (by simp [p1,p2,p3,p4,p5,p6,p7,p8,p9,p10]) p11
  have f12:=c12 q11.2 q12 (by simp [p1,p2,p3,p4,p5,p6,p7,p8,p9,p10,p11]) p12
  have f13:=c13 q12.2 q13 (by simp [p1,p2,p3,p4,p5,p6,p7,p8,p9,p10,p11,p12]) p13
  rw [f1,f2,f3,f4,f5,f6,f7,f8,f9,f10,f11,f12,f13]
theorem sD_text {s:Str} {a:Nat}:(sD s a).map (·.2)=if s.length - a<32 then none else some (a+32):=by
 unfold sD
 split <;> rfl
theorem r_entry {s:Str} (hs:s.length≤2000000) {o:Option Nat} {d:ref16_scan} (h:RS s o d) :
  ∃ n r d',dU_ d=some (n,r,d')∧RS s (o.bind fun a=>(entD s a).map (·.2.2)) d'∧∀ a q,o=some a→entD s a=some q→n=q.1∧r=q.2.1:=by
 obtain ⟨v1,d1,a1,b1,c1⟩:=iD_ hs h (w:=4) (by omega) (by omega)
 obtain ⟨v2,d2,a2,b2,c2⟩:=iD_ hs b1 (w:=4) (by omega) (by omega)
 obtain ⟨v3,d3,a3,b3,c3⟩:=iD_ hs b2 (w:=4) (by omega) (by omega)
 obtain ⟨v4,d4,a4,b4,c4⟩:=iD_ hs b3 (w:=4) (by omega) (by omega)
 obtain ⟨v5,d5,a5,b5,c5⟩:=iD_ hs b4 (w:=8) (by omega) (by omega)
 obtain ⟨v6,d6,a6,b6,c6⟩:=iD_ hs b5 (w:=8) (by omega) (by omega)
 obtain ⟨_,_,v7,d7,a7,a7',b7,c7⟩:=lR_ hs b6
 obtain ⟨_,_,v8,d8,a8,a8',b8,c8⟩:=lR_ hs b7
 obtain ⟨_,_,v9,d9,a9,a9',b9,c9⟩:=lR_ hs b8
 obtain ⟨_,_,v10,d10,a10,a10',b10,c10⟩:=lR_ hs b9
 obtain ⟨v11,d11,a11,b11,c11⟩:=iD_ hs b10 (w:=4) (by omega) (by omega)
 obtain ⟨v12,d12,a12,b12,c12⟩:=iD_ hs b11 (w:=1) (by omega) (by omega)
 obtain ⟨v13,d13,a13,b13,c13⟩:=r_text hs b12 32 (by omega)
 refine ⟨_,_,d13,aa_ a1 (aa_ a2 (aa_ a3 (aa_ a4 (aa_ a5 (aa_ a6 (aa_ a7 (aa_ a7' (aa_ a8 (aa_ a8' (aa_ a9 (aa_ a9' (aa_ a10 (aa_ a10' (aa_ a11 (aa_ a12 (aa_ a13 rfl)))))))))))))))),?_,?_⟩
 ·have e:(o.bind fun a=>(entD s a).map (·.2.2))=((((((((((((((o.bind fun a=>(nD s 4 a).map (·.2)).bind fun a=>(nD s 4 a).map (·.2)).bind fun a=>(nD s 4 a).map (·.2)).bind fun a=>(nD s 4 a).map (·.2)).bind fun a=>(nD s 8 a).map (·.2)).bind fun a=>(nD s 8 a).map (·.2)).bind fun a=>(tD s a).map (·.2)).bind fun a=>(tD s a).map (·.2)).bind fun a=>(tD s a).map (·.2)).bind fun a=>(tD s a).map (·.2)).bind fun a=>(nD s 4 a).map (·.2)).bind fun a=>(nD s 1 a).map (·.2)).bind fun a=>if s.length - a<32 then none else some (a+32))):=by
   simp only [← sD_text]
   exact ent_steps s o
  rw [e]
  exact b13
 ·intro a q ha hq
  subst ha
  unfold entD at hq
  obtain ⟨q1,p1,hq⟩:=Option.bind_eq_some_iff.1 hq
  obtain ⟨q2,p2,hq⟩:=Option.bind_eq_some_iff.1 hq
  obtain ⟨q3,p3,hq⟩:=Option.bind_eq_some_iff.1 hq
  obtain ⟨q4,p4,hq⟩:=Option.bind_eq_some_iff.1 hq
  obtain ⟨q5,p5,hq⟩:=Option.bind_eq_some_iff.1 hq
  obtain ⟨q6,p6,hq⟩:=Option.bind_eq_some_iff.1 hq
  obtain ⟨q7,p7,hq⟩:=Option.bind_eq_some_iff.1 hq
  obtain ⟨q8,p8,hq⟩:=Option.bind_eq_some_iff.1 hq
  obtain ⟨q9,p9,hq⟩:=Option.bind_eq_some_iff.1 hq
  obtain ⟨q10,p10,hq⟩:=Option.bind_eq_some_iff.1 hq
  obtain ⟨q11,p11,hq⟩:=Option.bind_eq_some_iff.1 hq
  obtain ⟨q12,p12,hq⟩:=Option.bind_eq_some_iff.1 hq
  obtain ⟨q13,p13,hq⟩:=Option.bind_eq_some_iff.1 hq
  obtain rfl:=Option.some.inj hq
  have f1:=c1 a q1 rfl p1
  have f2:=c2 q1.2 q2 (by simp [p1]) p2
  have f3:=c3 q2.2 q3 (by simp [p1,p2]) p3
  have f4:=c4 q3.2 q4 (by simp [p1,p2,p3]) p4
  have f5:=c5 q4.2 q5 (by simp [p1,p2,p3,p4]) p5
  have f6:=c6 q5.2 q6 (by simp [p1,p2,p3,p4,p5]) p6
  have f7:=c7 q6.2 q7 (by simp [p1,p2,p3,p4,p5,p6]) p7
  have f8:=c8 q7.2 q8 (by simp [p1,p2,p3,p4,p5,p6,p7]) p8
  have f9:=c9 q8.2 q9 (by simp [p1,p2,p3,p4,p5,p6,p7,p8]) p9
  have f10:=c10 q9.2 q10 (by simp [p1,p2,p3,p4,p5,p6,p7,p8,p9]) p10
  have f11:=c11 q10.2 q11 (by simp [p1,p2,p3,p4,p5,p6,p7,p8,p9,p10]) p11
  have f12:=c12 q11.2 q12 (by simp [p1,p2,p3,p4,p5,p6,p7,p8,p9,p10,p11]) p12
  have h13:¬ s.length - q12.2<32∧q13=(win s q12.2 32,q12.2+32):=by
   unfold sD at p13
   split at p13
   ·cases p13
   ·rename_i hh
    exact ⟨hh,(Option.some.inj p13).symm⟩
  have f13:=c13 q12.2 (by simp [p1,p2,p3,p4,p5,p6,p7,p8,p9,p10,p11,p12]) h13.1
  rw [f1,f2,f3,f4,f5,f6,f7,f8,f9,f10,f11,f12,f13,h13.2]
  exact ⟨rfl,rfl⟩
end Go.Proofs.YtebokaoegomboaaGreatDoor
namespace Go.Proofs.YtebokaoegomboaaGreatDoor
open Go.Rt Go.RowKit
theorem pk_ {s:Str} {a:Nat} {q:api_Node × api_Root × Nat} (ha:a≤s.length) (h:entD s a=some q):q.2.2≤s.length∧a+77≤q.2.2∧q.1.Mode_≤9223372036854775807∧q.1.Name_.length≤s.length:=by
 unfold entD at h
 obtain ⟨q1,p1,h⟩:=Option.bind_eq_some_iff.1 h
 obtain ⟨q2,p2,h⟩:=Option.bind_eq_some_iff.1 h
 obtain ⟨q3,p3,h⟩:=Option.bind_eq_some_iff.1 h
 obtain ⟨q4,p4,h⟩:=Option.bind_eq_some_iff.1 h
 obtain ⟨q5,p5,h⟩:=Option.bind_eq_some_iff.1 h
 obtain ⟨q6,p6,h⟩:=Option.bind_eq_some_iff.1 h
 obtain ⟨q7,p7,h⟩:=Option.bind_eq_some_iff.1 h
 obtain ⟨q8,p8,h⟩:=Option.bind_eq_some_iff.1 h
 obtain ⟨q9,p9,h⟩:=Option.bind_eq_some_iff.1 h
 obtain ⟨q10,p10,h⟩:=Option.bind_eq_some_iff.1 h
 obtain ⟨q11,p11,h⟩:=Option.bind_eq_some_iff.1 h
 obtain ⟨q12,p12,h⟩:=Option.bind_eq_some_iff.1 h
 obtain ⟨q13,p13,h⟩:=Option.bind_eq_some_iff.1 h
 obtain rfl:=Option.some.inj h
 have b1:=jD_ ha p1
 have b2:=jD_ b1.1 p2
 have b3:=jD_ b2.1 p3
 have b4:=jD_ b3.1 p4
 have b5:=jD_ b4.1 p5
 have b6:=jD_ b5.1 p6
 have b7:=lk_ p7
 have b8:=lk_ p8
 have b9:=lk_ p9
 have b10:=lk_ p10
 have b11:=jD_ b10.1 p11
 have b12:=jD_ b11.1 p12
 have b13:=sD_le b12.1 p13
 simp only
 omega
def fF_ (s:Str):Nat→Nat→Option (List (api_Node × api_Root))
 | 0,_=>none
 | f+1,a=>if a<s.length then (entD s a).bind fun q=>(fF_ s f q.2.2).map fun l=>(q.1,q.2.1)::l else some []
def ep_ (q:api_Node × api_Root):archive_entry:=archive_entry.mk q.1 q.2
theorem P_entries {s:Str} (hs:s.length≤2000000):∀ (f a:Nat) (out:List archive_entry) {d:archive_decoder},DS s (some a) d→a≤s.length→s.length - a<f→out.length≤a →
  ∃ o,aj_ (cp_ s) (f+1) (d,out)=some o∧match fF_ s f a with | some l=>o.1.bad_=false∧o.2=out++l.map ep_ | none=>o.1.bad_=true
 | 0,a,out,d,_,_,hf,_=>by omega
 | f + 1,a,out,d,hd,ha,hf,ho=>by
  obtain ⟨e1,e2,a',e3,_,e5⟩:=id hd
  obtain rfl:=e5 a rfl
  unfold fF_
  by_cases hlt:a'<s.length
  ·rw [if_pos hlt]
   obtain ⟨x,d',h1,h2,h3⟩:=d_entry hs hd
   have hstep:cp_ s (d,out)=some (.next (d',out++[x])):=by
    unfold cp_
    refine ag_ (by simp only [e2,e3]; simp; omega) (aa_ h1 (aa_ (cr_ (by simp; omega) (by simp; omega)) rfl))
   cases hq:entD s a' with
   | none =>
    simp only [Option.bind_some,hq,Option.map_none] at h2
    have hb:d'.bad_=true:=h2.2.1
    refine ⟨(d',out++[x]),bw_ hstep (aO_ (n:=f) ?_),hb⟩
    unfold cp_
    exact ac_ (by simp [hb]) rfl
   | some q =>
    obtain ⟨l1,l2,_⟩:=pk_ ha hq
    simp only [Option.bind_some,hq,Option.map_some] at h2 ⊢
    obtain ⟨o,g1,g2⟩:=P_entries hs f q.2.2 (out++[x]) h2 l1 (by omega) (by simp; omega)
    refine ⟨o,bw_ hstep g1,?_⟩
    have hx:=h3 a' q rfl hq
    cases hl:fF_ s f q.2.2 with
    | none=>rw [hl] at g2; exact g2
    | some l =>
     rw [hl] at g2
     refine ⟨g2.1,?_⟩
     rw [g2.2,hx]
     simp [ep_]
  ·rw [if_neg hlt]
   refine ⟨(d,out),aO_ ?_,e2,by simp⟩
   unfold cp_
   exact ac_ (by simp only [e3]; simp; omega) rfl
def gw_ (s:Str) (id:Int) (f a:Nat):Option (List (api_Node × api_Root)):=(fF_ s f a).bind fun l=>if l.all (fun q=>q.1.Parent_==id) then some l else none
theorem R_entries {s:Str} (hs:s.length≤2000000) (n:api_Node) (e:Int):∀ (f a:Nat) (ns:List api_Node) (rs:List api_Root) {d:ref16_scan},RS s (some a) d→a≤s.length→s.length - a<f→ns.length≤a→rs.length≤a →
  aj_ (b0_ (s,e) n) f (ns,rs,d)=some (match gw_ s n.Id_ f a with | some l => .fall (ns++l.map (·.1),rs++l.map (·.2)) | none => .ret ([],2))
 | 0,a,ns,rs,d,_,_,hf,_,_=>by omega
 | f + 1,a,ns,rs,d,hd,ha,hf,hn,hr=>by
  obtain ⟨e1,e2,a',e3,_,e5⟩:=id hd
  obtain rfl:=e5 a rfl
  unfold gw_ fF_
  by_cases hlt:a'<s.length
  ·rw [if_pos hlt]
   obtain ⟨m,r,d',h1,h2,h3⟩:=r_entry hs hd
   cases hq:entD s a' with
   | none =>
    simp only [Option.bind_some,hq,Option.map_none] at h2
    have hb:d'.Bad_=true:=h2.2.1
    refine aO_ ?_
    unfold b0_
    exact ag_ (by simp only [e3]; simp; omega) (aa_ h1 (ag_ (by simp [hb]) rfl))
   | some q =>
    obtain ⟨l1,l2,_⟩:=pk_ ha hq
    simp only [Option.bind_some,hq,Option.map_some] at h2 ⊢
    obtain ⟨rfl,rfl⟩:=h3 a' q rfl hq
    have hb:d'.Bad_=false:=h2.2.1
    by_cases hp:q.1.Parent_=n.Id_
    ·have hstep:b0_ (s,e) n (ns,rs,d)=some (.next (ns++[q.1],rs++[q.2.1],d')):=by
      unfold b0_
      exact ag_ (by simp only [e3]; simp; omega) (aa_ h1 (ac_ (by simp [hb,hp]) (aa_ (cr_ (by simp; omega) (by simp; omega)) (aa_ (cr_ (by simp; omega) (by simp; omega)) rfl))))
     have ih:=R_entries hs n e f q.2.2 (ns++[q.1]) (rs++[q.2.1]) h2 l1 (by omega) (by simp; omega) (by simp; omega)
     refine bw_ hstep (ih.trans ?_)
     unfold gw_
     cases fF_ s f q.2.2 with
     | none=>rfl
     | some l =>
      simp only [Option.bind_some,Option.map_some,List.all_cons,hp,beq_self_eq_true,Bool.true_and]
      cases hall:l.all (fun q=>q.1.Parent_==n.Id_) with
      | true=>simp
      | false=>simp
    ·have hz:((Option.map (fun l=>(q.1,q.2.1)::l) (fF_ s f q.2.2)).bind fun l=>if l.all (fun q=>q.1.Parent_==n.Id_) then some l else none)=none:=by
      cases fF_ s f q.2.2 with
      | none=>rfl
      | some l=>simp [hp]
     rw [hz]
     refine aO_ ?_
     unfold b0_
     exact ag_ (by simp only [e3]; simp; omega) (aa_ h1 (ag_ (by simp [hp]) rfl))
  ·rw [if_neg hlt]
   refine aO_ ?_
   unfold b0_
   refine ac_ (by simp only [e3]; simp; omega) ?_
   simp
abbrev Gn:=List api_Node × List Str × Int
def fG (rec:api_Node→api_Root→Int→Gn) (left:Int) (acc:List api_Node × List Str) (q:api_Node × api_Root):(List api_Node × List Str) ⊕ Gn :=
 if (rec q.1 q.2 (left - (acc.1.length:Int))).2.2=0 then .inl (acc.1++(rec q.1 q.2 (left - (acc.1.length:Int))).1,acc.2++(rec q.1 q.2 (left - (acc.1.length:Int))).2.1) else .inr ([],acc.2++(rec q.1 q.2 (left - (acc.1.length:Int))).2.1,(rec q.1 q.2 (left - (acc.1.length:Int))).2.2)
def pl_ (n:api_Node) (d:Str):api_Node:=api_Node.mk n.Id_ n.Parent_ n.Vers_ n.Name_ n.Mode_ n.Uid_ n.Gid_ n.Muid_ n.Atime_ n.Mtime_ d
def aQ_ (n:api_Node):Int:=if n.Mode_≥2147483648 then 3 else 1
def bu_ (s:api_Store):Nat→api_Node→api_Root→Int→Gn
 | 0,_,_,_=>([],[],2)
 | f + 1,n,r,left=>if left<1 then ([],[],2) else
   if (aC_ s (aQ_ n) r).2.2=0 then
    (if n.Mode_≥2147483648 then
     (match gw_ (aC_ s (aQ_ n) r).1 n.Id_ ((aC_ s (aQ_ n) r).1.length+1) 0 with
      | none=>([],(aC_ s (aQ_ n) r).2.1,2)
      | some l=>outS (fun acc=>(acc.1,acc.2,0)) (fun e=>e) (cf_ (fG (bu_ s f) left) ([n],(aC_ s (aQ_ n) r).2.1) l))
    else ([pl_ n (aC_ s (aQ_ n) r).1],(aC_ s (aQ_ n) r).2.1,0))
   else ([],(aC_ s (aQ_ n) r).2.1,(aC_ s (aQ_ n) r).2.2)
theorem jF_ {s:api_Store} (hs:StOK s) (k:Int) (r:api_Root):(aC_ s k r).1.length≤1048576∧(aC_ s k r).2.1.length≤1057:=by
 unfold aC_
 split
 ·have h2:=hN_le (nP r.Length_.toNat)
  obtain ⟨h3,h4⟩:=lP_ hs k (hN (nP r.Length_.toNat)) r.Score_ r.Length_.toNat 0 r.Length_.toNat
  exact ⟨Nat.le_trans h3 (qz_ h2),Nat.le_trans h4 (cntN_le h2)⟩
 ·simp
theorem kM_ {s:api_Store} (hs:StOK s):∀ (f:Nat) {n:api_Node} {r:api_Root} {left:Int},(bu_ s f n r left).2.2=0→1≤(bu_ s f n r left).1.length∧((bu_ s f n r left).1.length:Int)≤left∧(bu_ s f n r left).2.1.length≤1057*(bu_ s f n r left).1.length
 | 0,n,r,left,h=>by cases h
 | f + 1,n,r,left,h=>by
  obtain ⟨_,hb⟩:=jF_ hs (aQ_ n) r
  unfold bu_ at h ⊢
  split at h
  ·cases h
  ·rename_i hl
   rw [if_neg hl]
   split at h
   ·rename_i hc
    rw [if_pos hc]
    split at h
    ·rename_i hd
     rw [if_pos hd]
     split at h
     ·cases h
     ·rename_i l _
      have hi:=oT_ (f:=fG (bu_ s f) left) (fun _ acc=>1≤acc.1.length∧(acc.1.length:Int)≤left∧acc.2.length≤1057*acc.1.length) (fun e=>e.2.2≠0) (xs:=l) (k:=0) (s0:=([n],(aC_ s (aQ_ n) r).2.1)) ⟨by simp,by simp; omega,by simp; omega⟩ fun i acc q _ ⟨a1,a2,a3⟩=>by
       unfold fG
       refine ⟨fun s' he => ?_,fun e he => ?_⟩
       ·split at he
        ·rename_i h0
         obtain ⟨b1,b2,b3⟩:=kM_ hs f h0
         obtain rfl:=Sum.inl.inj he
         simp only [List.length_append]
         omega
        ·cases he
       ·split at he
        ·cases he
        ·rename_i h0
         obtain rfl:=Sum.inr.inj he
         exact h0
      cases hr:cf_ (fG (bu_ s f) left) ([n],(aC_ s (aQ_ n) r).2.1) l with
      | inl acc=>exact hi.1 acc hr
      | inr e =>
       rw [hr] at h
       exact absurd h (hi.2 e hr)
    ·rename_i hd
     rw [if_neg hd]
     simp only [List.length_singleton]
     omega
   ·rename_i hc
    exact absurd h hc
theorem qA_ (n:api_Node):cj_ n=some (decide (n.Mode_≥2147483648)):=rfl
theorem add_kids {l:List (api_Node × api_Root)} {n:api_Node} {r:api_Root} (h:l.length≤1073741824):aH_ (l.map ep_) (fun (u1:archive_entry)=>Option.bind (b1_ u1 (archive_entry.mk n r)) fun (v1:Bool)=>some v1)=some (!(l.all fun q=>q.1.Parent_==n.Id_)):=by
 unfold aH_
 generalize hp:(fun (u:archive_entry)=>u.node_.Parent_ != n.Id_)=p
 refine aa_ (a:=at_ p (l.map ep_)) ?_ ?_
 ·unfold bD_
  have h:=aY_ (body:=aX_ (l.map ep_) (fun (u1:archive_entry)=>Option.bind (b1_ u1 (archive_entry.mk n r)) fun (v1:Bool)=>some v1)) (l.map ep_) (fun i x=>if p x then some ((i:Nat):Int) else none) (bd_ (by simp; omega)) (fun i hi => ?_) ?_
  ·rw [be_ h (fun r=>rfl) (x := -1) rfl,jb_]
  ·unfold aX_
   refine ag_ (bm_ hi) (aa_ (ap_ hi) (aa_ (a:=p (l.map ep_)[i]) (by rw [← hp]; rfl) ?_))
   cases p (l.map ep_)[i] with
   | true=>rfl
   | false =>
    rw [as_ (by simp at hi; omega)]
    rfl
  ·unfold aX_
   exact ac_ (br_ _) rfl
 ·congr 1
  rcases jc_ p (l.map ep_) with ⟨h1,h2⟩ | ⟨i,x,h1,h2,h3,h4,_⟩
  ·rw [h2]
   have:l.all (fun q=>q.1.Parent_==n.Id_)=true:=by
    rw [List.all_eq_true]
    intro q hq
    have:=List.find?_eq_none.1 h1 (ep_ q) (List.mem_map.2 ⟨q,hq,rfl⟩)
    rw [← hp] at this
    simpa [ep_] using this
   rw [this]
   rfl
  ·rw [h2]
   have:l.all (fun q=>q.1.Parent_==n.Id_)=false:=by
    rw [← Bool.not_eq_true,List.all_eq_true]
    intro hall
    obtain ⟨q,hq,rfl⟩:=List.mem_map.1 (List.mem_of_getElem? h3)
    have:=hall q hq
    rw [← hp] at h4
    simp only [ep_,bne_iff_ne,ne_eq,beq_iff_eq] at h4 this
    exact h4 this
   rw [this]
   simp
end Go.Proofs.YtebokaoegomboaaGreatDoor
namespace Go.Proofs.YtebokaoegomboaaGreatDoor
open Go.Rt Go.RowKit
theorem oU_ (n:api_Node) {R:Type} (k:Int→Option R):(Option.bind ((cj_ n).bind fun y1=>bif y1 then some 3 else some 1) k)=k (aQ_ n):=by
 rw [qA_]
 unfold aQ_
 by_cases h:n.Mode_≥2147483648
 ·simp [h]
 ·simp [h]
theorem oV_ {α : Type} {l:List α} {i:Nat} {x : α} {ys:List α} (h:l.drop i=x::ys):l[i]? = some x∧l.drop (i+1)=ys∧i<l.length:=by
 have hi:i<l.length:=by
  rcases Nat.lt_or_ge i l.length with h' | h'
  ·exact h'
  ·rw [List.drop_of_length_le h'] at h; cases h
 rw [List.drop_eq_getElem_cons hi] at h
 injection h with h1 h2
 exact ⟨by rw [List.getElem?_eq_getElem hi,h1],h2,hi⟩
theorem oW_ (s:Str):∀ (f a:Nat) {l:List (api_Node × api_Root)},fF_ s f a=some l→l.length≤f
 | 0,a,l,h=>by cases h
 | f+1,a,l,h=>by
  unfold fF_ at h
  split at h
  ·obtain ⟨q,_,h⟩:=Option.bind_eq_some_iff.1 h
   obtain ⟨l',h1,rfl⟩:=Option.map_eq_some_iff.1 h
   have:=oW_ s f _ h1
   simp
   omega
  ·obtain rfl:=Option.some.inj h
   simp
theorem add_P {s:api_Store} (hs:StOK s):∀ (f m:Nat) {ns:List api_Node} {seen:List Str} {most:Int} {n:api_Node} {r:api_Root},f≤m→(most - (ns.length:Int)).toNat<f→most≤1024→seen.length≤1057*ns.length+2 →
  ∃ e b rd,aM_ m (archive_builder_rest.mk ns most) (archive_reader.mk s seen) (archive_entry.mk n r)=some (e,b,rd)∧e=(bu_ s f n r (most - (ns.length:Int))).2.2∧(e=0→b=archive_builder_rest.mk (ns++(bu_ s f n r (most - (ns.length:Int))).1) most∧rd=archive_reader.mk s (seen++(bu_ s f n r (most - (ns.length:Int))).2.1))
 | 0,_,ns,seen,most,n,r,_,hf,_,_=>by omega
 | f + 1, m,ns,seen,most,n,r,hm,hf,hmost,hseen=>by
  obtain ⟨m,rfl⟩:∃ m',m=m'+1:=⟨m - 1,by omega⟩
  show ∃ e b rd,bc_ (aM_ m) _ _ _=some (e,b,rd)∧_
  unfold bu_
  by_cases hl:most - (ns.length:Int)<1
  ·rw [if_pos hl]
   refine ⟨2,archive_builder_rest.mk ns most,archive_reader.mk s seen,?_,rfl,fun e=>by cases e⟩
   unfold bc_
   exact ag_ (by simp only [decide_eq_true_eq]; omega) rfl
  ·rw [if_neg hl]
   obtain ⟨hb1,hb2⟩:=jF_ hs (aQ_ n) r
   have hcond:∀ {R:Type} (X Y:R),(bif (decide ((ns.length:Int)≥most)) then X else Y)=Y:=fun X Y=>by
    have:decide ((ns.length:Int)≥most)=false:=by simp only [decide_eq_false_iff_not]; omega
    rw [this]
    rfl
   have hcon:=contents_eq hs (aQ_ n) r (seen:=seen) (by omega)
   by_cases hc:(aC_ s (aQ_ n) r).2.2=0
   ·rw [if_pos hc]
    by_cases hd:n.Mode_≥2147483648
    ·rw [if_pos hd]
     have hdir:cj_ n=some true:=by rw [qA_]; simp [hd]
     -- the entries
     obtain ⟨o,o1,o2⟩:=P_entries (s:=(aC_ s (aQ_ n) r).1) (by omega) ((aC_ s (aQ_ n) r).1.length+1) 0 [] (d:=archive_decoder.mk (aC_ s (aQ_ n) r).1 0 false) ⟨rfl,rfl,0,rfl,Nat.zero_le _,fun b hb=>Option.some.inj hb⟩ (Nat.zero_le _) (by omega) (by simp)
     have hents:fz_ (aC_ s (aQ_ n) r).1=some (o.2,!o.1.bad_):=by
      unfold fz_
      exact aa_ (gv_ o1 (Nat.le_of_lt (bd_ (by omega)))) rfl
     have hroom:room 128 ns [n]=some (ns++[n]):=cr_ (by simp; omega) (by simp; omega)
     have hpre:∀ {R:Option (Int × archive_builder_rest × archive_reader)},(Option.bind (bif (!(!o.1.bad_)) then some true else (aH_ o.2 (fun (u1:archive_entry)=>Option.bind (b1_ u1 (archive_entry.mk n r)) fun (v1:Bool)=>some v1)).bind fun y7=>some y7) fun (y8:Bool)=>bif y8 then some ((2,(archive_builder_rest.mk (ns++[n]) most),archive_reader.mk s (seen++(aC_ s (aQ_ n) r).2.1))) else (aj_ (bt_ (o.2,!o.1.bad_) (aM_ m)) BIG (0,most,s.Cap_,s.Blocks_,seen++(aC_ s (aQ_ n) r).2.1,ns++[n],o.2)).bind fun wo2=>match wo2 with
       | .ret r2=>some r2
       | .fall o2=>some ((0,(archive_builder_rest.mk o2.2.2.2.2 o2.1),(archive_reader.mk (api_Store.mk o2.2.1 o2.2.2.1) o2.2.2.2.1))))=R→bc_ (aM_ m) (archive_builder_rest.mk ns most) (archive_reader.mk s seen) (archive_entry.mk n r)=R:=fun hR=>by
      unfold bc_
      simp only [hcond,oU_]
      refine aa_ hcon (ac_ (by simp [hc]) (aa_ hdir (ac_ rfl (aa_ hroom (aa_ hents hR)))))
     cases hE:fF_ (aC_ s (aQ_ n) r).1 ((aC_ s (aQ_ n) r).1.length+1) 0 with
     | none =>
      rw [hE] at o2
      have hk:gw_ (aC_ s (aQ_ n) r).1 n.Id_ ((aC_ s (aQ_ n) r).1.length+1) 0=none:=by unfold gw_; rw [hE]; rfl
      rw [hk]
      exact ⟨_,_,_,hpre (aa_ (a:=true) (ag_ (by rw [o2]; rfl) rfl) (ag_ rfl rfl)),rfl,fun e=>by cases e⟩
     | some l =>
      rw [hE] at o2
      obtain ⟨o3,o4⟩:=o2
      rw [List.nil_append] at o4
      have hll:=oW_ _ _ _ hE
      have hkids:=add_kids (l:=l) (n:=n) (r:=r) (by omega)
      cases hall:l.all (fun q=>q.1.Parent_==n.Id_) with
      | false =>
       have hk:gw_ (aC_ s (aQ_ n) r).1 n.Id_ ((aC_ s (aQ_ n) r).1.length+1) 0=none:=by unfold gw_; rw [hE]; simp [hall]
       rw [hk]
       rw [hall] at hkids
       refine ⟨_,_,_,hpre (aa_ (a:=true) (ac_ (by rw [o3]; rfl) ?_) (ag_ rfl rfl)),rfl,fun e=>by cases e⟩
       rw [o4]
       exact aa_ hkids rfl
      | true =>
       have hk:gw_ (aC_ s (aQ_ n) r).1 n.Id_ ((aC_ s (aQ_ n) r).1.length+1) 0=some l:=by unfold gw_; rw [hE]; simp [hall]
       rw [hk]
       rw [hall] at hkids
       have hloop:∀ (ys:List (api_Node × api_Root)) (i:Nat) (acc:List api_Node × List Str),l.drop i=ys→i≤l.length→1≤acc.1.length→(acc.1.length:Int)≤most - (ns.length:Int)→acc.2.length≤1057*acc.1.length →
         ∃ w,aj_ (bt_ (l.map ep_,true) (aM_ m)) (ys.length+1) ((i:Int),most,s.Cap_,s.Blocks_,seen++acc.2,ns++acc.1,l.map ep_)=some w∧(match cf_ (fG (bu_ s f) (most - (ns.length:Int))) acc ys with
          | .inl a=>w = .fall (most,s.Cap_,s.Blocks_,seen++a.2,ns++a.1)
          | .inr e=>e.2.2≠0∧∃ b rd,w = .ret (e.2.2,b,rd)):=by
        intro ys
        induction ys with
        | nil =>
         intro i acc hdr hi _ _ _
         have:i=l.length:=by
          have:=congrArg List.length hdr
          simp at this
          omega
         subst this
         refine ⟨.fall (most,s.Cap_,s.Blocks_,seen++acc.2,ns++acc.1),aO_ ?_,by simp [cf_]⟩
         unfold bt_
         exact ac_ (by simp) rfl
        | cons q ys ih =>
         intro i acc hdr hi a1 a2 a3
         obtain ⟨g1,g2,g3⟩:=oV_ hdr
         obtain ⟨e,b,rd,k1,k2,k3⟩:=add_P hs f m (ns:=ns++acc.1) (seen:=seen++acc.2) (most:=most) (n:=q.1) (r:=q.2) (by omega) (by simp; omega) hmost (by simp; omega)
         have hleft:most - ((ns++acc.1).length:Int)=most - (ns.length:Int) - (acc.1.length:Int):=by simp; omega
         rw [hleft] at k2 k3
         have hget:ak_ (l.map ep_) (i:Int)=some (archive_entry.mk q.1 q.2):=by rw [dY_,List.getElem?_map,g1]; rfl
         simp only [cf_]
         unfold fG
         by_cases h0:(bu_ s f q.1 q.2 (most - (ns.length:Int) - (acc.1.length:Int))).2.2=0
         ·rw [if_pos h0]
          obtain ⟨k4,k5⟩:=k3 (k2.trans h0)
          obtain ⟨c1,c2,c3⟩:=kM_ hs f h0
          obtain ⟨w,w1,w2⟩:=ih (i+1) (acc.1++(bu_ s f q.1 q.2 (most - (ns.length:Int) - (acc.1.length:Int))).1,acc.2++(bu_ s f q.1 q.2 (most - (ns.length:Int) - (acc.1.length:Int))).2.1) g2 (by omega) (by simp; omega) (by simp; omega) (by simp; omega)
          refine ⟨w,bw_ ?_ w1,w2⟩
          unfold bt_
          refine ag_ (by simp; omega) (aa_ hget (aa_ k1 (ac_ (by rw [k2,h0]; rfl) ?_)))
          rw [k4,k5,as_ (by omega),List.append_assoc,List.append_assoc]
         ·rw [if_neg h0]
          refine ⟨.ret (e,b,rd),aO_ ?_,h0,b,rd,by rw [k2]⟩
          unfold bt_
          exact ag_ (by simp; omega) (aa_ hget (aa_ k1 (ag_ (by rw [k2]; simpa using h0) rfl)))
       obtain ⟨w,w1,w2⟩:=hloop l 0 ([n],(aC_ s (aQ_ n) r).2.1) (by simp) (Nat.zero_le _) (by simp) (by simp; omega) (by simp; omega)
       have w1':=gv_ w1 (show l.length+1≤BIG from Nat.le_of_lt (bd_ (by omega)))
       have hgo:∀ {R},((some w:Option (Out (Int × Int × List api_Block × List Str × List api_Node) (Int × archive_builder_rest × archive_reader))).bind fun wo2=>match wo2 with
         | .ret r2=>some r2
         | .fall o2=>some ((0,(archive_builder_rest.mk o2.2.2.2.2 o2.1),(archive_reader.mk (api_Store.mk o2.2.1 o2.2.2.1) o2.2.2.2.1))))=R→bc_ (aM_ m) (archive_builder_rest.mk ns most) (archive_reader.mk s seen) (archive_entry.mk n r)=R:=fun hR=>by
        refine hpre (aa_ (a:=false) (ac_ (by rw [o3]; rfl) ?_) (ac_ rfl ?_))
        ·rw [o4]
         exact aa_ hkids rfl
        ·rw [o4,o3]
         have w1'':aj_ (bt_ (l.map ep_,!false) (aM_ m)) BIG (0,most,s.Cap_,s.Blocks_,seen++(aC_ s (aQ_ n) r).2.1,ns++[n],l.map ep_)=some w:=w1'
         rw [w1'']
         exact hR
       cases hr:cf_ (fG (bu_ s f) (most - (ns.length:Int))) ([n],(aC_ s (aQ_ n) r).2.1) l with
       | inl a =>
        rw [hr] at w2
        subst w2
        simp only [hr,outS]
        exact ⟨_,_,_,hgo rfl,rfl,fun _=>⟨rfl,rfl⟩⟩
       | inr e =>
        rw [hr] at w2
        obtain ⟨h0,b,rd,rfl⟩:=w2
        simp only [hr,outS]
        exact ⟨_,_,_,hgo rfl,rfl,fun e0=>absurd e0 h0⟩
    ·rw [if_neg hd]
     have hdir:cj_ n=some false:=by rw [qA_]; simp [hd]
     refine ⟨0,archive_builder_rest.mk (ns++[pl_ n (aC_ s (aQ_ n) r).1]) most,archive_reader.mk s (seen++(aC_ s (aQ_ n) r).2.1),?_,rfl,fun _=>⟨rfl,rfl⟩⟩
     unfold bc_
     simp only [hcond,oU_]
     exact aa_ hcon (ac_ (by simp [hc]) (aa_ hdir (ag_ rfl (aa_ (cr_ (by simp; omega) (by simp; omega)) rfl))))
   ·rw [if_neg hc]
    refine ⟨(aC_ s (aQ_ n) r).2.2,archive_builder_rest.mk ns most,archive_reader.mk s (seen++(aC_ s (aQ_ n) r).2.1),?_,rfl,fun e=>absurd e hc⟩
    unfold bc_
    simp only [hcond,oU_]
    exact aa_ hcon (ag_ (by simpa using hc) rfl)
end Go.Proofs.YtebokaoegomboaaGreatDoor
namespace Go.Proofs.YtebokaoegomboaaGreatDoor
open Go.Rt Go.RowKit
theorem get_R {s:api_Store} (hs:StOK s):∀ (f m:Nat) {n:api_Node} {r:api_Root} {left:Int},f≤m→left.toNat<f→left≤1024 →
  ∃ q,ch_ m s n r left=some q∧q.2=(bu_ s f n r left).2.2∧(q.2=0→q.1=(bu_ s f n r left).1)
 | 0,_,n,r,left,_,hf,_=>by omega
 | f + 1, m,n,r,left,hm,hf,hmost=>by
  obtain ⟨m,rfl⟩:∃ m',m=m'+1:=⟨m - 1,by omega⟩
  show ∃ q,cC_ (ch_ m) s n r left=some q∧_
  unfold bu_
  by_cases hl:left<1
  ·rw [if_pos hl]
   refine ⟨([],2),?_,rfl,fun e=>by cases e⟩
   unfold cC_
   exact aa_ (a:=true) (ag_ (by simpa using hl) rfl) (ag_ rfl rfl)
  ·rw [if_neg hl]
   obtain ⟨hb1,hb2⟩:=jF_ hs (aQ_ n) r
   cases hok:fc_ r with
   | false =>
    have hfr:aC_ s (aQ_ n) r=([],[],2):=by unfold aC_; rw [hok]; rfl
    rw [hfr]
    refine ⟨([],2),?_,rfl,fun e=>by cases e⟩
    unfold cC_
    exact aa_ (a:=true) (ac_ (by simpa using hl) (aa_ (lp_ r) (by rw [hok]; rfl))) (ag_ rfl rfl)
   | true =>
    have hpre:∀ {R},((bO_ n.Mode_).bind fun y3=>(bif (!y3) then (cV_ s 1 r).bind fun y4=>some (([pl_ n y4.1],y4.2)) else (cV_ s 3 r).bind fun y5=>(bif (y5.2 != 0) then some (([],y5.2)) else Option.bind (aj_ (b0_ y5 n) BIG ([],[],(ref16_scan.mk y5.1 0 false))) fun (wo1:Out ((List api_Node) × (List api_Root)) ((List api_Node) × Int))=>match wo1 with
      | .ret r1=>some r1
      | .fall o1=>(aj_ (cW_ (ch_ m) s left) BIG (0,o1.1,o1.2,[n])).bind fun wo2=>match wo2 with
       | .ret r2=>some r2
       | .fall o2=>some ((o2,0)))))=R→cC_ (ch_ m) s n r left=R:=fun hR=>by
     unfold cC_
     exact aa_ (a:=false) (ac_ (by simpa using hl) (aa_ (lp_ r) (by rw [hok]; rfl))) (ac_ rfl hR)
    by_cases hd:n.Mode_≥2147483648
    ·have hk:aQ_ n=3:=if_pos hd
     have hdir:bO_ n.Mode_=some true:=by unfold bO_; simp [hd]
     rw [hk] at hb1 hb2 ⊢
     have hcon:=lQ_ hs (k:=3) (by omega) r
     by_cases hc:(aC_ s 3 r).2.2=0
     ·rw [if_pos hc,if_pos hd]
      have hen:=gv_ (R_entries (s:=(aC_ s 3 r).1) (by omega) n (aC_ s 3 r).2.2 ((aC_ s 3 r).1.length+1) 0 [] [] (d:=ref16_scan.mk (aC_ s 3 r).1 0 false) ⟨rfl,rfl,0,rfl,Nat.zero_le _,fun b hb=>Option.some.inj hb⟩ (Nat.zero_le _) (by omega) (by simp) (by simp)) (show (aC_ s 3 r).1.length+1≤BIG from Nat.le_of_lt (bd_ (by omega)))
      cases hkd:gw_ (aC_ s 3 r).1 n.Id_ ((aC_ s 3 r).1.length+1) 0 with
      | none =>
       rw [hkd] at hen
       exact ⟨([],2),hpre (aa_ hdir (ac_ rfl (aa_ hcon (ac_ (by simp [hc]) (aa_ hen rfl))))),rfl,fun e=>by cases e⟩
      | some l =>
       rw [hkd] at hen
       have hll:l.length≤(aC_ s 3 r).1.length+1:=by
        unfold gw_ at hkd
        obtain ⟨l',h1,h2⟩:=Option.bind_eq_some_iff.1 hkd
        split at h2
        ·obtain rfl:=Option.some.inj h2
         exact oW_ _ _ _ h1
        ·cases h2
       have hloop:∀ (ys:List (api_Node × api_Root)) (i:Nat) (acc:List api_Node × List Str),l.drop i=ys→i≤l.length→1≤acc.1.length→(acc.1.length:Int)≤left →
         ∃ w,aj_ (cW_ (ch_ m) s left) (ys.length+1) ((i:Int),l.map (·.1),l.map (·.2),acc.1)=some w∧(match cf_ (fG (bu_ s f) left) acc ys with
          | .inl a=>w = .fall a.1
          | .inr e=>e.2.2≠0∧w = .ret ([],e.2.2)):=by
        intro ys
        induction ys with
        | nil =>
         intro i acc hdr hi _ _
         have:i=l.length:=by
          have:=congrArg List.length hdr
          simp at this
          omega
         subst this
         refine ⟨.fall acc.1,aO_ ?_,by simp [cf_]⟩
         unfold cW_
         exact ac_ (by simp) rfl
        | cons q ys ih =>
         intro i acc hdr hi a1 a2
         obtain ⟨g1,g2,g3⟩:=oV_ hdr
         have hleft:w64 (left - (acc.1.length:Int))=left - (acc.1.length:Int):=am_ ⟨by omega,by omega⟩
         obtain ⟨p,k1,k2,k3⟩:=get_R hs f m (n:=q.1) (r:=q.2) (left:=left - (acc.1.length:Int)) (by omega) (by omega) (by omega)
         have hget1:ak_ (l.map (·.1)) (i:Int)=some q.1:=by rw [dY_,List.getElem?_map,g1]; rfl
         have hget2:ak_ (l.map (·.2)) (i:Int)=some q.2:=by rw [dY_,List.getElem?_map,g1]; rfl
         simp only [cf_]
         unfold fG
         by_cases h0:(bu_ s f q.1 q.2 (left - (acc.1.length:Int))).2.2=0
         ·rw [if_pos h0]
          have k4:=k3 (k2.trans h0)
          obtain ⟨c1,c2,c3⟩:=kM_ hs f h0
          obtain ⟨w,w1,w2⟩:=ih (i+1) (acc.1++(bu_ s f q.1 q.2 (left - (acc.1.length:Int))).1,acc.2++(bu_ s f q.1 q.2 (left - (acc.1.length:Int))).2.1) g2 (by omega) (by simp; omega) (by simp; omega)
          refine ⟨w,bw_ ?_ w1,w2⟩
          unfold cW_
          refine ag_ (by simp; omega) (aa_ hget1 (aa_ hget2 (aa_ (by rw [hleft]; exact k1) (ac_ (by rw [k2,h0]; rfl) (aa_ (a:=acc.1++(bu_ s f q.1 q.2 (left - (acc.1.length:Int))).1) (by rw [k4]; exact cr_ (show acc.1.length+_≤_ by omega) (show (acc.1.length+_)*128≤_ by omega)) ?_)))))
          rw [as_ (by omega)]
         ·rw [if_neg h0]
          refine ⟨.ret ([],p.2),aO_ ?_,h0,by rw [k2]⟩
          unfold cW_
          exact ag_ (by simp; omega) (aa_ hget1 (aa_ hget2 (aa_ (by rw [hleft]; exact k1) (ag_ (by rw [k2]; simpa using h0) rfl))))
       obtain ⟨w,w1,w2⟩:=hloop l 0 ([n],(aC_ s 3 r).2.1) (by simp) (Nat.zero_le _) (by simp) (by simp; omega)
       have w1':=gv_ w1 (show l.length+1≤BIG from Nat.le_of_lt (bd_ (by omega)))
       cases hr:cf_ (fG (bu_ s f) left) ([n],(aC_ s 3 r).2.1) l with
       | inl a =>
        rw [hr] at w2
        subst w2
        simp only [hr,outS]
        exact ⟨(a.1,0),hpre (aa_ hdir (ac_ rfl (aa_ hcon (ac_ (by simp [hc]) (aa_ hen (aa_ w1' rfl)))))),rfl,fun _=>rfl⟩
       | inr e =>
        rw [hr] at w2
        obtain ⟨h0,rfl⟩:=w2
        simp only [hr,outS]
        exact ⟨([],e.2.2),hpre (aa_ hdir (ac_ rfl (aa_ hcon (ac_ (by simp [hc]) (aa_ hen (aa_ w1' rfl)))))),rfl,fun e0=>absurd e0 h0⟩
     ·rw [if_neg hc]
      exact ⟨([],(aC_ s 3 r).2.2),hpre (aa_ hdir (ac_ rfl (aa_ hcon (ag_ (by simpa using hc) rfl)))),rfl,fun e=>absurd e hc⟩
    ·have hk:aQ_ n=1:=if_neg hd
     have hdir:bO_ n.Mode_=some false:=by unfold bO_; simp [hd]
     rw [hk]
     have hcon:=lQ_ hs (k:=1) (by omega) r
     refine ⟨([pl_ n (aC_ s 1 r).1],(aC_ s 1 r).2.2),hpre (aa_ hdir (ag_ rfl (aa_ hcon rfl))),?_,fun e => ?_⟩
     ·split
      ·rename_i hc
       exact hc
      ·rfl
     ·have hc:(aC_ s 1 r).2.2=0:=e
      rw [if_pos hc,if_neg hd]
def leN (x:api_Node):List api_Node→Nat
 | []=>0
 | y::l=>if y.Id_≤x.Id_ then leN x l+1 else 0
theorem leN_le (x:api_Node):∀ l,leN x l≤l.length
 | []=>Nat.le_refl _
 | y::l=>by
  unfold leN
  have:=leN_le x l
  split <;> simp <;> omega
theorem leN_lt (x:api_Node):∀ {l:List api_Node} {i:Nat} (h:i<l.length),i<leN x l→l[i].Id_≤x.Id_
 | y::l,0,_,hi=>by
  unfold leN at hi
  split at hi
  ·assumption
  ·omega
 | y::l,i+1,h,hi=>by
  unfold leN at hi
  split at hi
  ·exact leN_lt x (l:=l) (i:=i) (by simpa using h) (by omega)
  ·omega
theorem leN_at (x:api_Node):∀ {l:List api_Node} (h:leN x l<l.length),¬ l[leN x l].Id_≤x.Id_
 | y::l,h=>by
  by_cases hy:y.Id_≤x.Id_
  ·have e:leN x (y::l)=leN x l+1:=by simp [leN,hy]
   simp only [e] at h ⊢
   exact leN_at x (l:=l) (by simpa using h)
  ·have e:leN x (y::l)=0:=by simp [leN,hy]
   simp only [e]
   exact hy
def insA (out:List api_Node) (x:api_Node):List api_Node:=out.take (leN x out)++[x]++out.drop (leN x out)
theorem insA_len (out:List api_Node) (x:api_Node):(insA out x).length=out.length+1:=by
 have:=leN_le x out
 unfold insA
 simp
 omega
theorem insA_perm (out:List api_Node) (x:api_Node):(insA out x).Perm (x::out):=by
 unfold insA
 rw [List.append_assoc]
 have h:=List.perm_middle (a:=x) (l₁ := out.take (leN x out)) (l₂ := out.drop (leN x out))
 rw [List.take_append_drop] at h
 exact h
theorem insA_sorted {out:List api_Node} (x:api_Node) (h:out.Pairwise fun a b=>leK (fun n:api_Node=>n.Id_) a b=true):(insA out x).Pairwise fun a b=>leK (fun n:api_Node=>n.Id_) a b=true:=by
 have hle:=leN_le x out
 unfold insA
 have hget:=List.pairwise_iff_getElem.1 h
 rw [List.append_assoc]
 refine List.pairwise_append.2 ⟨h.sublist (List.take_sublist _ _),List.pairwise_append.2 ⟨by simp,h.sublist (List.drop_sublist _ _),fun a ha b hb => ?_⟩,fun a ha b hb => ?_⟩
 ·rw [List.mem_singleton] at ha
  subst ha
  obtain ⟨j,hj,e⟩:=List.getElem_of_mem hb
  rw [List.length_drop] at hj
  rw [List.getElem_drop] at e
  have h1:=leN_at a (l:=out) (by omega)
  unfold leK
  simp only [decide_eq_true_eq]
  rw [← e]
  rcases Nat.eq_zero_or_pos j with h0 | h0
  ·subst h0
   simp only [Nat.add_zero]
   omega
  ·have:=hget (leN a out) (leN a out+j) (by omega) (by omega) (by omega)
   unfold leK at this
   simp only [decide_eq_true_eq] at this
   omega
 ·obtain ⟨i,hi,e⟩:=List.getElem_of_mem ha
  rw [List.length_take] at hi
  rw [List.getElem_take] at e
  have h1:=leN_lt x (l:=out) (i:=i) (by omega) (by omega)
  rcases List.mem_append.1 hb with hb | hb
  ·rw [List.mem_singleton] at hb
   subst hb
   unfold leK
   simp only [decide_eq_true_eq]
   rw [← e]
   exact h1
  ·obtain ⟨j,hj,e2⟩:=List.getElem_of_mem hb
   rw [List.length_drop] at hj
   rw [List.getElem_drop] at e2
   rw [← e,← e2]
   exact hget i (leN x out+j) (by omega) (by omega) (by omega)
theorem sorted_step {out l:List api_Node} {i:Nat} (hi:i<l.length) (ho:out.length≤1000000):aj_ (fw_ (out,(i:Int)) l) BIG 0=some ((leN l[i] out:Nat):Int):=by
 have hle:=leN_le l[i] out
 refine aJ_ (T:=fun j=>(j:Int)) (leN l[i] out) (bd_ (by omega)) (fun j hj => ?_) ?_
 ·have hj':j<out.length:=by omega
  unfold fw_
  refine aa_ (a:=true) (ag_ (bm_ hj') (aa_ (ap_ hj') (aa_ (ap_ hi) ?_))) (ag_ rfl (by rw [as_ (by omega)]))
  exact congrArg some (decide_eq_true (leN_lt l[i] hj' hj))
 ·unfold fw_
  refine aa_ (a:=false) ?_ rfl
  by_cases h:leN l[i] out<out.length
  ·refine ag_ (bm_ h) (aa_ (ap_ h) (aa_ (ap_ hi) ?_))
   exact congrArg some (decide_eq_false (leN_at l[i] h))
  ·have:leN l[i] out=out.length:=by omega
   rw [this]
   exact ac_ (br_ _) rfl
theorem nV_ {l:List api_Node} (hl:l.length≤100000):∃ y,h8_ l=some y∧y.Perm l∧y.Pairwise fun a b=>leK (fun n:api_Node=>n.Id_) a b=true:=by
 have h:=nw_ (body:=fx_ l) l (fun out _ x=>insA out x) (fun i s=>(s,(i:Int))) (fun i s=>s.length=i) (fun s=>s) [] (bd_ (by omega)) rfl (fun i s hi hs => ?_) (fun s hs => ?_)
 ·refine ⟨_,aa_ h rfl,?_⟩
  have hp:∀ (xs acc:List api_Node) (k:Nat),(acc.Pairwise fun a b=>leK (fun n:api_Node=>n.Id_) a b=true)→(d3_ (fun out _ x=>insA out x) acc k xs).Perm (xs++acc)∧(d3_ (fun out _ x=>insA out x) acc k xs).Pairwise fun a b=>leK (fun n:api_Node=>n.Id_) a b=true:=fun xs=>by
   induction xs with
   | nil=>exact fun acc k ha=>⟨List.Perm.refl _,ha⟩
   | cons x xs ih =>
    intro acc k ha
    obtain ⟨i1,i2⟩:=ih (insA acc x) (k+1) (insA_sorted x ha)
    refine ⟨i1.trans ?_,i2⟩
    refine ((insA_perm acc x).append_left xs).trans ?_
    exact List.perm_middle
  obtain ⟨p1,p2⟩:=hp l [] 0 List.Pairwise.nil
  rw [List.append_nil] at p1
  exact ⟨p1,p2⟩
 ·have hle:=leN_le l[i] s
  refine ⟨?_,by rw [insA_len,hs]⟩
  unfold fx_
  refine ag_ (bm_ hi) (aa_ (sorted_step (out:=s) hi (by omega)) (aa_ (a:=s.take (leN l[i] s)) ?_ (aa_ (a:=s.take (leN l[i] s)) ?_ (aa_ (ap_ hi) (aa_ (a:=s.take (leN l[i] s)++[l[i]]) ?_ (aa_ (a:=s.drop (leN l[i] s)) ?_ (aa_ (a:=insA s l[i]) ?_ (by rw [as_ (by omega)]))))))))
  ·show bl_ s 0 ((leN l[i] s:Nat):Int)=_
   rw [cc_ (by omega) (by omega) (by omega),Int.toNat_natCast]
   rfl
  ·rw [cr_ (by simp; omega) (by simp; omega)]
   rfl
  ·rw [cr_ (by simp; omega) (by simp; omega)]
  ·show bl_ s ((leN l[i] s:Nat):Int) (s.length:Int)=_
   rw [cc_ (by omega) (by omega) (by omega),Int.toNat_natCast,Int.toNat_natCast,List.take_length]
  ·rw [cr_ (by simp; omega) (by simp; omega)]
   rfl
 ·unfold fx_
  exact ac_ (br_ _) rfl
theorem sorts_agree {l y z:List api_Node} (hy:dT_ (fun n:api_Node=>n.Id_) l=some y) (hz:h8_ l=some z) (hl:l.length≤100000) (hn:(l.map (·.Id_)).Nodup):y=z:=by
 obtain ⟨p1,p2⟩:=md_ hy
 obtain ⟨z',h1,q1,q2⟩:=nV_ hl
 rw [hz] at h1
 obtain rfl:=Option.some.inj h1
 refine i7_ (p1.trans q1.symm) p2 q2 fun a ha b hb h3 h4 => ?_
 refine key_inj hn a (p1.subset ha) b (p1.subset hb) ?_
 unfold leK at h3 h4
 simp only [decide_eq_true_eq] at h3 h4
 omega
end Go.Proofs.YtebokaoegomboaaGreatDoor
namespace Go.Proofs.YtebokaoegomboaaGreatDoor
open Go.Rt Go.RowKit
def headD (d:Str):Option (Int × Int × api_Node × api_Root × Nat):=(nD d 4 0).bind fun q1=>(nD d 4 q1.2).bind fun q2=>(entD d q2.2).map fun q3=>(q1.1,q2.1,q3.1,q3.2.1,q3.2.2)
theorem P_head {d:Str} (hd:d.length≤1024):∃ v1 d1 v2 d2 x d3,aq_ (archive_decoder.mk d 0 false) 4=some (v1,d1)∧aq_ d1 4=some (v2,d2)∧bU_ d2=some (x,d3)∧(match headD d with
  | none=>d3.bad_=true
  | some q=>d3.bad_=false∧d3.at_=(q.2.2.2.2:Int)∧v1=q.1∧v2=q.2.1∧x=archive_entry.mk q.2.2.1 q.2.2.2.1):=by
 have h0:DS d (some 0) (archive_decoder.mk d 0 false):=⟨rfl,rfl,0,rfl,Nat.zero_le _,fun b hb=>Option.some.inj hb⟩
 obtain ⟨v1,d1,a1,b1,c1⟩:=jE_ (by omega) h0 (w:=4) (by omega) (by omega)
 obtain ⟨v2,d2,a2,b2,c2⟩:=jE_ (by omega) b1 (w:=4) (by omega) (by omega)
 obtain ⟨x,d3,a3,b3,c3⟩:=d_entry (by omega) b2
 refine ⟨v1,d1,v2,d2,x,d3,a1,a2,a3,?_⟩
 unfold headD
 cases p1:nD d 4 0 with
 | none =>
  simp only [Option.bind_some,p1,Option.map_none,Option.bind_none] at b3
  exact b3.2.1
 | some q1 =>
  simp only [Option.bind_some,p1,Option.map_some] at b3 c2 c3 ⊢
  cases p2:nD d 4 q1.2 with
  | none =>
   simp only [p2,Option.map_none,Option.bind_none] at b3
   exact b3.2.1
  | some q2 =>
   simp only [Option.bind_some,p2,Option.map_some] at b3 c3 ⊢
   cases p3:entD d q2.2 with
   | none =>
    simp only [p3,Option.map_none] at b3
    exact b3.2.1
   | some q3 =>
    simp only [p3,Option.map_some] at b3 ⊢
    obtain ⟨_,e2,a,e3,_,e5⟩:=b3
    exact ⟨e2,by rw [e3,e5 _ rfl],c1 0 q1 rfl p1,c2 q1.2 q2 rfl p2,c3 q2.2 q3 rfl p3⟩
theorem R_head {d:Str} (hd:d.length≤1024):∃ v1 d1 v2 d2 n r d3,az_ (ref16_scan.mk d 0 false) 4=some (v1,d1)∧az_ d1 4=some (v2,d2)∧dU_ d2=some (n,r,d3)∧(match headD d with
  | none=>d3.Bad_=true
  | some q=>d3.Bad_=false∧d3.At_=(q.2.2.2.2:Int)∧v1=q.1∧v2=q.2.1∧n=q.2.2.1∧r=q.2.2.2.1):=by
 have h0:RS d (some 0) (ref16_scan.mk d 0 false):=⟨rfl,rfl,0,rfl,Nat.zero_le _,fun b hb=>Option.some.inj hb⟩
 obtain ⟨v1,d1,a1,b1,c1⟩:=iD_ (by omega) h0 (w:=4) (by omega) (by omega)
 obtain ⟨v2,d2,a2,b2,c2⟩:=iD_ (by omega) b1 (w:=4) (by omega) (by omega)
 obtain ⟨n,r,d3,a3,b3,c3⟩:=r_entry (by omega) b2
 refine ⟨v1,d1,v2,d2,n,r,d3,a1,a2,a3,?_⟩
 unfold headD
 cases p1:nD d 4 0 with
 | none =>
  simp only [Option.bind_some,p1,Option.map_none,Option.bind_none] at b3
  exact b3.2.1
 | some q1 =>
  simp only [Option.bind_some,p1,Option.map_some] at b3 c2 c3 ⊢
  cases p2:nD d 4 q1.2 with
  | none =>
   simp only [p2,Option.map_none,Option.bind_none] at b3
   exact b3.2.1
  | some q2 =>
   simp only [Option.bind_some,p2,Option.map_some] at b3 c3 ⊢
   cases p3:entD d q2.2 with
   | none =>
    simp only [p3,Option.map_none] at b3
    exact b3.2.1
   | some q3 =>
    simp only [p3,Option.map_some] at b3 ⊢
    obtain ⟨_,e2,a,e3,_,e5⟩:=b3
    obtain ⟨f1,f2⟩:=c3 q2.2 q3 rfl p3
    exact ⟨e2,by rw [e3,e5 _ rfl],c1 0 q1 rfl p1,c2 q1.2 q2 rfl p2,f1,f2⟩
theorem entsF_all (s:Str):∀ (f a:Nat) {l:List (api_Node × api_Root)},a≤s.length→fF_ s f a=some l→∀ q∈l,q.1.Mode_≤9223372036854775807∧q.1.Name_.length≤s.length
 | 0,a,l,_,h=>by cases h
 | f+1,a,l,ha,h=>by
  unfold fF_ at h
  split at h
  ·obtain ⟨q,hq,h⟩:=Option.bind_eq_some_iff.1 h
   obtain ⟨l',h1,rfl⟩:=Option.map_eq_some_iff.1 h
   obtain ⟨b1,b2,b3,b4⟩:=pk_ ha hq
   intro p hp
   rcases List.mem_cons.1 hp with rfl | hp
   ·exact ⟨b3,b4⟩
   ·exact entsF_all s f _ b1 h1 p hp
  ·obtain rfl:=Option.some.inj h
   intro p hp
   cases hp
abbrev SmN (n:api_Node):Prop:=n.Mode_≤9223372036854775807∧n.Name_.length≤9223372036854775807
theorem getN_all {s:api_Store} (hs:StOK s):∀ (f:Nat) {n:api_Node} {r:api_Root} {left:Int},SmN n→∀ x∈(bu_ s f n r left).1,SmN x
 | 0,n,r,left,_,x,hx=>by cases hx
 | f + 1,n,r,left,hn,x,hx=>by
  obtain ⟨hb1,_⟩:=jF_ hs (aQ_ n) r
  unfold bu_ at hx
  split at hx
  ·cases hx
  ·split at hx
   ·split at hx
    ·split at hx
     ·cases hx
     ·rename_i l hk
      have hkl:∀ q∈l,SmN q.1:=by
       unfold gw_ at hk
       obtain ⟨l',h1,h2⟩:=Option.bind_eq_some_iff.1 hk
       split at h2
       ·obtain rfl:=Option.some.inj h2
        intro q hq
        have:=entsF_all _ _ _ (Nat.zero_le _) h1 q hq
        exact ⟨this.1,by omega⟩
       ·cases h2
      have hi:=oT_ (f:=fG (bu_ s f) left) (fun _ acc=>∀ y∈acc.1,SmN y) (fun e=>e.1=[]) (xs:=l) (k:=0) (s0:=([n],(aC_ s (aQ_ n) r).2.1)) (fun y hy=>by rw [List.mem_singleton] at hy; rw [hy]; exact hn) fun i acc q hq a1=>by
       unfold fG
       refine ⟨fun s' he => ?_,fun e he => ?_⟩
       ·split at he
        ·obtain rfl:=Sum.inl.inj he
         intro y hy
         rcases List.mem_append.1 hy with hy | hy
         ·exact a1 y hy
         ·exact getN_all hs f (hkl q hq) y hy
        ·cases he
       ·split at he
        ·cases he
        ·obtain rfl:=Sum.inr.inj he
         rfl
      cases hr:cf_ (fG (bu_ s f) left) ([n],(aC_ s (aQ_ n) r).2.1) l with
      | inl acc =>
       rw [hr] at hx
       exact hi.1 acc hr x hx
      | inr e =>
       rw [hr] at hx
       have he:=hi.2 e hr
       simp only [outS,he] at hx
       cases hx
    ·rw [List.mem_singleton] at hx
     rw [hx]
     exact hn
   ·cases hx
theorem entD_small {s:Str} {a:Nat} {q:api_Node × api_Root × Nat} (ha:a≤s.length) (hs:s.length≤9223372036854775807) (h:entD s a=some q):SmN q.1:=by
 have:=pk_ ha h
 exact ⟨this.2.2.1,by omega⟩
theorem tree_both {s:api_Store} (hs:StOK s) (sc:Str):∃ T E rd,cb_ (archive_reader.mk s []) sc=some (T,E,rd)∧cI_ s sc=some (T,E)∧T.Nodes_.length≤1024 ∧
  (E=0→OkT T.Nodes_ T.Next_∧∃ next many n r a3,(blk s sc 4).2=0∧headD (blk s sc 4).1=some (next,many,n,r,a3)∧many≤1024∧(bu_ s 1025 n r many).2.2=0∧rd=archive_reader.mk s ([sc]++(bu_ s 1025 n r many).2.1)∧next=T.Next_∧many=(T.Nodes_.length:Int)∧a3=(blk s sc 4).1.length∧(bu_ s 1025 n r many).1.Perm T.Nodes_):=by
 have hbl:=mQ_ hs sc 4
 have hrb:=fE_ hs sc 4 (seen:=[]) (by simp)
 have hrr:=ln_ hs sc (k:=4) (by omega)
 unfold cb_ cI_
 by_cases h0:(blk s sc 4).2=0
 ·rw [if_pos h0] at hrb
  obtain ⟨v1,d1,v2,d2,x,d3,p1,p2,p3,p4⟩:=P_head hbl
  obtain ⟨w1,e1,w2,e2,n,r,e3,q1,q2,q3,q4⟩:=R_head hbl
  have err:∀ {X:Option (api_Tree × Int × archive_reader)} {Y:Option (api_Tree × Int)},((d3.bad_||(d3.at_ != ((blk s sc 4).1.length:Int)))||decide (v2<1)||decide (v2>1024))=true→((e3.Bad_||(e3.At_ != ((blk s sc 4).1.length:Int)))||decide (w2<1)||decide (w2>1024))=true →
    ∃ T E rd,(bif ((d3.bad_||(d3.at_ != ((blk s sc 4).1.length:Int)))||decide (v2<1)||decide (v2>1024)) then some (api_Tree.mk 0 [],2,archive_reader.mk s ([]++[sc])) else X)=some (T,E,rd)∧(bif ((e3.Bad_||(e3.At_ != ((blk s sc 4).1.length:Int)))||decide (w2<1)||decide (w2>1024)) then some (api_Tree.mk 0 [],(2:Int)) else Y)=some (T,E)∧T.Nodes_.length≤1024 ∧
     (E=0→OkT T.Nodes_ T.Next_∧∃ next many n r a3,(blk s sc 4).2=0∧headD (blk s sc 4).1=some (next,many,n,r,a3)∧many≤1024∧(bu_ s 1025 n r many).2.2=0∧rd=archive_reader.mk s ([sc]++(bu_ s 1025 n r many).2.1)∧next=T.Next_∧many=(T.Nodes_.length:Int)∧a3=(blk s sc 4).1.length∧(bu_ s 1025 n r many).1.Perm T.Nodes_):=fun ha hb =>
   ⟨api_Tree.mk 0 [],2,archive_reader.mk s ([]++[sc]),ag_ ha rfl,ag_ hb rfl,by simp,fun e=>by cases e⟩
  have pre:∀ {A:Option (api_Tree × Int × archive_reader)} {B:Option (api_Tree × Int)} {A':Option (api_Tree × Int × archive_reader)} {B':Option (api_Tree × Int)} {P:api_Tree→Int→archive_reader→Prop},A=A'→B=B'→(∃ T E rd,A'=some (T,E,rd)∧B'=some (T,E)∧P T E rd)→∃ T E rd,A=some (T,E,rd)∧B=some (T,E)∧P T E rd:=fun ha hb h=>by rw [ha,hb]; exact h
  refine pre (aa_ hrb (ac_ rfl (aa_ p1 (aa_ p2 (aa_ p3 rfl))))) (aa_ hrr (ac_ (by simp [h0]) (aa_ q1 (aa_ q2 (aa_ q3 rfl))))) ?_
  cases hh:headD (blk s sc 4).1 with
  | none =>
   rw [hh] at p4 q4
   exact hh▸err (by simp [p4]) (by simp [q4])
  | some q =>
   obtain ⟨next,many,n',r',a3⟩:=q
   rw [hh] at p4 q4
   obtain ⟨p5,p6,rfl,rfl,rfl⟩:=p4
   obtain ⟨q5,q6,rfl,rfl,rfl,rfl⟩:=q4
   simp only at *
   by_cases hc:(a3:Int)≠((blk s sc 4).1.length:Int)∨w2<1∨w2>1024
   ·refine pre (ag_ ?_ rfl) (ag_ ?_ rfl) ⟨api_Tree.mk 0 [],2,_,rfl,rfl,by simp,fun e=>by cases e⟩
    ·simp [p5,p6]
     omega
    ·simp [q5,q6]
     omega
   ·refine pre (ac_ ?_ rfl) (ac_ ?_ rfl) ?_
    ·simp [p5,p6]
     omega
    ·simp [q5,q6]
     omega
    ·have hsm:SmN n:=by
      unfold headD at hh
      obtain ⟨z1,y1,hh⟩:=Option.bind_eq_some_iff.1 hh
      obtain ⟨z2,y2,hh⟩:=Option.bind_eq_some_iff.1 hh
      obtain ⟨z3,y3,hh⟩:=Option.map_eq_some_iff.1 hh
      simp only [Prod.mk.injEq] at hh
      rw [← hh.2.2.1]
      have b1:=jD_ (Nat.zero_le _) y1
      have b2:=jD_ b1.1 y2
      exact entD_small b2.1 (by omega) y3
     obtain ⟨e,b,rd,k1,k2,k3⟩:=add_P hs 1025 BIG (ns:=[]) (seen:=[]++[sc]) (most:=w2) (n:=n) (r:=r) (by decide) (by simp; omega) (by omega) (by simp)
     obtain ⟨p,g1,g2,g3⟩:=get_R hs 1025 BIG (n:=n) (r:=r) (left:=w2) (by decide) (by omega) (by omega)
     have hz:w2 - (([]:List api_Node).length:Int)=w2:=by simp
     rw [hz] at k2 k3
     by_cases hg:(bu_ s 1025 n r w2).2.2=0
     ·obtain ⟨rfl,rfl⟩:=k3 (k2.trans hg)
      have g4:=g3 (g2.trans hg)
      obtain ⟨c1,c2,c3⟩:=kM_ hs 1025 hg
      have hall:=getN_all hs 1025 (r:=r) (left:=w2) hsm
      simp only [List.nil_append] at k1
      obtain ⟨y,hy⟩:∃ y,dT_ (fun n:api_Node=>n.Id_) (bu_ s 1025 n r w2).1=some y:=⟨_,by unfold dT_; rw [if_pos (by omega)]⟩
      obtain ⟨z,hz1,hz2,hz3⟩:=nV_ (l:=(bu_ s 1025 n r w2).1) (by omega)
      obtain ⟨y1,y2⟩:=md_ hy
      have hyl:=y1.length_eq
      have hzl:=hz2.length_eq
      refine pre (aa_ k1 (ac_ (by rw [k2,hg]; rfl) (aa_ hy rfl))) (aa_ g1 (ac_ (by rw [g2,hg]; rfl) (aa_ (by rw [g4]; exact hz1) rfl))) ?_
      by_cases hlen:((bu_ s 1025 n r w2).1.length:Int)=w2
      ·obtain ⟨b1,t1,t2⟩:=mL_ (api_Tree.mk w1 y) (by show y.length≤1024; omega) (fun x hx=>hall x (y1.subset hx))
       obtain ⟨b2,t3,t4⟩:=iA_ (api_Tree.mk w1 z) (by show z.length≤1024; omega) (fun x hx=>hall x (hz2.subset hx))
       have hnd:∀ {l:List api_Node} {nx:Int},OkT l nx→(l.map (·.Id_)).Nodup:=fun h=>by
        rw [List.nodup_iff_pairwise_ne,List.pairwise_map]
        exact h.srt.imp fun h e=>by omega
       have hyz:(b1=true∨b2=true)→y=z:=fun h=>by
        refine sorts_agree hy hz1 (by omega) ?_
        rcases h with h | h
        ·exact (y1.map _).nodup_iff.1 (hnd (t2.1 h))
        ·exact (hz2.map _).nodup_iff.1 (hnd (t4.1 h))
       have hbb:b1=b2:=by
        cases hb1:b1 with
        | true =>
         have:=hyz (.inl hb1)
         subst this
         exact (t4.2 (t2.1 hb1)).symm
        | false =>
         cases hb2:b2 with
         | false=>rfl
         | true =>
          have:=hyz (.inr hb2)
          subst this
          rw [t2.2 (t4.1 hb2)] at hb1
          cases hb1
       subst hbb
       refine pre (aa_ (a := !b1) (ac_ (by simp; omega) (aa_ t1 rfl)) rfl) (aa_ (a := !b1) (ac_ (by rw [g4]; simp; omega) (aa_ t3 rfl)) rfl) ?_
       cases hb:b1 with
       | false=>exact ⟨api_Tree.mk 0 [],2,_,rfl,rfl,by simp,fun e=>by cases e⟩
       | true =>
        have:=hyz (.inl hb)
        subst this
        exact ⟨api_Tree.mk w1 y,0,_,rfl,rfl,by show y.length≤1024; omega,fun _=>⟨t2.1 hb,w1,w2,n,r,a3,h0,rfl,by omega,hg,rfl,rfl,by show w2=(y.length:Int); omega,by omega,y1.symm⟩⟩
      ·refine pre (aa_ (a:=true) (ag_ (by simp; omega) rfl) rfl) (aa_ (a:=true) (ag_ (by rw [g4]; simp; omega) rfl) rfl) ⟨api_Tree.mk 0 [],2,_,rfl,rfl,by simp,fun e=>by cases e⟩
     ·refine pre (aa_ k1 (ag_ (by rw [k2]; simpa using hg) rfl)) (aa_ g1 (ag_ (by rw [g2]; simpa using hg) rfl)) ⟨api_Tree.mk 0 [],(bu_ s 1025 n r w2).2.2,rd,by rw [k2],by rw [g2],by simp,fun e=>absurd e hg⟩
 ·rw [if_neg h0] at hrb
  exact ⟨api_Tree.mk 0 [],(blk s sc 4).2,archive_reader.mk s [],aa_ hrb (ag_ (by simp [h0]) rfl),aa_ hrr (ag_ (by simp [h0]) rfl),by simp,fun e=>absurd e h0⟩
end Go.Proofs.YtebokaoegomboaaGreatDoor
namespace Go.Proofs.YtebokaoegomboaaGreatDoor
open Go.Rt Go.RowKit
structure Small17 (s:api_SnapSrv):Prop where
 ul:s.Files_.Users_.length≤10
 um:∀ u∈s.Files_.Users_,u.Members_.length≤10
 ql:s.Files_.Quotas_.length≤10
 nl:s.Files_.Tree_.Nodes_.length≤12
 el:s.Files_.Excl_.length≤20
 bl:s.Store_.Blocks_.length≤120
 sl:s.Snaps_.length≤6
theorem nK_ {α : Type} {body:Int→Option (Step Int (Out Unit Bool))} (xs:List α) (p : α → Bool) (hn:xs.length<BIG) (hb:∀ i (h:i<xs.length),body (i:Int)=some (if p xs[i] then .done (.ret false) else .next ((i+1:Nat):Int)))
  (he:body (xs.length:Int)=some (.done (.fall ()))):(aj_ body BIG 0=some (.ret false))∨(aj_ body BIG 0=some (.fall ())∧∀ x∈xs,p x=false):=by
 have h:=aY_ xs (fun (_:Nat) x=>if p x then some false else none) hn (fun i hi=>by
  rw [hb i hi]
  cases p xs[i] <;> rfl) he
 rw [jR_ p (fun _=>false)] at h
 cases hf:xs.find? p with
 | some x =>
  rw [hf] at h
  exact .inl h
 | none =>
  rw [hf] at h
  exact .inr ⟨h,fun x hx=>by
   have:=List.find?_eq_none.1 hf x hx
   simpa using this⟩
theorem small_eq (s:api_SnapSrv):∃ b,gQ_ s=some b∧(b=true→Small17 s):=by
 unfold gQ_
 cases hc:(((((decide ((s.Files_.Users_.length:Int)>10))||(decide ((s.Files_.Quotas_.length:Int)>10)))||(decide ((s.Files_.Tree_.Nodes_.length:Int)>12)))||(decide ((s.Files_.Excl_.length:Int)>20)))||(decide ((s.Store_.Blocks_.length:Int)>120)))||(decide ((s.Snaps_.length:Int)>6)) with
 | true=>exact ⟨false,rfl,fun h=>(nomatch h)⟩
 | false =>
  simp only [Bool.or_eq_false_iff,decide_eq_false_iff_not] at hc
  have l1:=nK_ (body:=f7_ s) s.Files_.Users_ (fun u=>decide ((u.Members_.length:Int)>10)) (bd_ (by omega)) (fun i hi=>by
   unfold f7_
   refine ag_ (bm_ hi) (aa_ (ap_ hi) ?_)
   rw [as_ (by omega)]
   cases decide ((s.Files_.Users_[i].Members_.length:Int)>10) <;> rfl) (by unfold f7_; exact ac_ (br_ _) rfl)
  have l2:=nK_ (body:=f8_ s) s.Files_.Tree_.Nodes_ (fun u=>decide ((u.Data_.length:Int)>3000)||decide ((u.Name_.length:Int)>200)) (bd_ (by omega)) (fun i hi=>by
   unfold f8_
   refine ag_ (bm_ hi) (aa_ (ap_ hi) ?_)
   rw [as_ (by omega),ap_ hi]
   simp only [Option.bind_some]
   cases decide ((s.Files_.Tree_.Nodes_[i].Data_.length:Int)>3000) <;> cases decide ((s.Files_.Tree_.Nodes_[i].Name_.length:Int)>200) <;> rfl) (by unfold f8_; exact ac_ (br_ _) rfl)
  have l3:=nK_ (body:=f9_ s) s.Store_.Blocks_ (fun u=>decide ((u.Data_.length:Int)>2000)||decide ((u.Score_.length:Int)>100)) (bd_ (by omega)) (fun i hi=>by
   unfold f9_
   refine ag_ (bm_ hi) (aa_ (ap_ hi) ?_)
   rw [as_ (by omega),ap_ hi]
   simp only [Option.bind_some]
   cases decide ((s.Store_.Blocks_[i].Data_.length:Int)>2000) <;> cases decide ((s.Store_.Blocks_[i].Score_.length:Int)>100) <;> rfl) (by unfold f9_; exact ac_ (br_ _) rfl)
  have l4:=nK_ (body:=ga_ s) s.Snaps_ (fun u=>decide ((u.Score_.length:Int)>100)) (bd_ (by omega)) (fun i hi=>by
   unfold ga_
   refine ag_ (bm_ hi) (aa_ (ap_ hi) ?_)
   rw [as_ (by omega)]
   cases decide ((s.Snaps_[i].Score_.length:Int)>100) <;> rfl) (by unfold ga_; exact ac_ (br_ _) rfl)
  rcases l1 with l1 | ⟨l1,hm⟩
  ·exact ⟨false,ac_ rfl (aa_ l1 rfl),fun h=>(nomatch h)⟩
  rcases l2 with l2 | ⟨l2,_⟩
  ·exact ⟨false,ac_ rfl (aa_ l1 (aa_ l2 rfl)),fun h=>(nomatch h)⟩
  rcases l3 with l3 | ⟨l3,_⟩
  ·exact ⟨false,ac_ rfl (aa_ l1 (aa_ l2 (aa_ l3 rfl))),fun h=>(nomatch h)⟩
  rcases l4 with l4 | ⟨l4,_⟩
  ·exact ⟨false,ac_ rfl (aa_ l1 (aa_ l2 (aa_ l3 (aa_ l4 rfl)))),fun h=>(nomatch h)⟩
  ·refine ⟨true,ac_ rfl (aa_ l1 (aa_ l2 (aa_ l3 (aa_ l4 rfl)))),fun _=>⟨by omega,fun u hu => ?_,by omega,by omega,by omega,by omega,by omega⟩⟩
   have:=hm u hu
   simp only [decide_eq_false_iff_not] at this
   omega
theorem Small17.size {s:api_SnapSrv} (h:Small17 s) (hu:mM_ s.Files_.Users_) (hq:shortQ s.Files_.Quotas_):SizeOK s.Files_ :=
 ⟨by have:=h.ul; omega,fun u hm=>by have:=h.um u hm; omega,hu,by have:=h.ql; omega,hq,by have:=h.nl; omega,by have:=h.el; omega⟩
structure TreeAt (s:api_Store) (sc:Str) (T:api_Tree) (E:Int):Prop where
 get:bS_ s sc=some (T,E)
 ref:cI_ s sc=some (T,E)
 len:T.Nodes_.length≤1024
 ok:E=0→OkT T.Nodes_ T.Next_
theorem tree_at {s:api_Store} (hs:StOK s) (sc:Str):∃ T E,TreeAt s sc T E:=by
 obtain ⟨T,E,rd,t1,t2,t3,t4⟩:=tree_both hs sc
 exact ⟨T,E,by unfold bS_; exact aa_ t1 rfl,t2,t3,fun e=>(t4 e).1⟩
structure Ok17 (s:api_SnapSrv):Prop where
 sl:s.Snaps_.length≤64
 files:FileOK s.Files_
 store:StOK s.Store_
 time:∀ x∈s.Snaps_,0≤x.Time_∧x.Time_≤1099511627776
 asc:∀ i x y,0<i→s.Snaps_[i]? = some x→s.Snaps_[i - 1]? = some y→y.Time_<x.Time_
 tree:∀ x∈s.Snaps_,∃ T,TreeAt s.Store_ x.Score_ T 0
noncomputable def okTr (s:api_Store) (sc:Str):Bool:=match cI_ s sc with
 | some (_,e)=>e==0
 | none=>false
def iE_ (l:List api_Snap) (i:Nat):api_Snap:=l.getD (i - 1) (api_Snap.mk 0 [])
noncomputable def badS (s:api_SnapSrv) (i:Nat) (x:api_Snap):Bool:=(decide (x.Time_<0)||decide (x.Time_>1099511627776))||(decide (0<i)&&decide ((iE_ s.Snaps_ i).Time_≥x.Time_)) || !(okTr s.Store_ x.Score_)
theorem ok_modes {T:api_Tree} (h:OkT T.Nodes_ T.Next_):∀ n∈T.Nodes_,n.Mode_≤9223372036854775807∧n.Name_.length≤9223372036854775807:=fun n hn=>⟨h.hm hn,by have:=h.name hn; omega⟩
theorem Right_eq (s:api_SnapSrv) (z:SizeOK s.Files_) (hb:NodesB s.Files_) (hbl:s.Store_.Blocks_.length≤120):∃ b,gT_ s=some b∧(b=true↔Ok17 s):=by
 unfold gT_
 by_cases hl:s.Snaps_.length≤64
 ·obtain ⟨b1,e1,g1⟩:=r0_ s.Files_ z hb
  obtain ⟨b2,e2,g2⟩:=Right_iff (s:=s.Store_) (by omega)
  cases b1 with
  | false=>exact ⟨false,aa_ (a:=true) (ac_ (by simp; omega) (aa_ e1 rfl)) (aa_ (a:=true) rfl rfl),fun h=>(nomatch h),fun h=>by rw [g1.2 h.files]⟩
  | true =>
  cases b2 with
  | false=>exact ⟨false,aa_ (a:=false) (ac_ (by simp; omega) (aa_ e1 rfl)) (aa_ (a:=true) (ac_ rfl (aa_ e2 rfl)) rfl),fun h=>(nomatch h),fun h=>by rw [g2.2 h.store]⟩
  | true =>
   have hf:=g1.1 rfl
   have hs:=g2.1 rfl
   have hlp:=aY_ (body:=gh_ s) s.Snaps_ (fun i x=>if badS s i x then some false else none) (bd_ (by omega)) (fun i hi => ?_) (by unfold gh_; exact ac_ (br_ _) rfl)
   ·refine ⟨(aE_ (fun i x=>if badS s i x then some false else none) 0 s.Snaps_).getD true,aa_ (a:=false) (ac_ (by simp; omega) (aa_ e1 rfl)) (aa_ (a:=false) (ac_ rfl (aa_ e2 rfl)) (be_ hlp (fun r=>rfl) rfl)),?_⟩
    rw [nC_ (p:=fun i x => !(badS s i x)) (fun i x=>by cases badS s i x <;> rfl)]
    simp only [Nat.zero_add,Bool.not_eq_true']
    constructor
    ·intro h
     have h':∀ i x,s.Snaps_[i]? = some x→(0≤x.Time_∧x.Time_≤1099511627776)∧(0<i→(iE_ s.Snaps_ i).Time_<x.Time_)∧okTr s.Store_ x.Score_=true:=fun i x hx=>by
      have:=h i x hx
      unfold badS at this
      simp only [Bool.or_eq_false_iff,decide_eq_false_iff_not,Bool.not_eq_false',Bool.and_eq_false_iff] at this
      obtain ⟨⟨⟨t1,t2⟩,t3⟩,t4⟩:=this
      exact ⟨by omega,fun h0=>by omega,t4⟩
     refine ⟨hl,hf,hs,fun x hx => ?_,fun i x y h0 hx hy => ?_,fun x hx => ?_⟩
     ·obtain ⟨i,hi⟩:=List.mem_iff_getElem?.1 hx
      exact (h' i x hi).1
     ·have:=(h' i x hx).2.1 h0
      have e:iE_ s.Snaps_ i=y:=by
       unfold iE_
       rw [List.getD_eq_getElem?_getD,hy]
       rfl
      rwa [e] at this
     ·obtain ⟨i,hi⟩:=List.mem_iff_getElem?.1 hx
      have h4:=(h' i x hi).2.2
      obtain ⟨T,E,hT⟩:=tree_at hs x.Score_
      unfold okTr at h4
      rw [hT.ref] at h4
      have:E=0:=by simpa using h4
      subst this
      exact ⟨T,hT⟩
    ·intro h i x hx
     have hxm:=List.mem_of_getElem? hx
     obtain ⟨t1,t2⟩:=h.time x hxm
     obtain ⟨T,hT⟩:=h.tree x hxm
     have h4:okTr s.Store_ x.Score_=true:=by
      unfold okTr
      rw [hT.ref]
      rfl
     have h5:0<i→(iE_ s.Snaps_ i).Time_<x.Time_:=fun h0=>by
      have hi:i - 1<s.Snaps_.length:=by
       have:i<s.Snaps_.length:=by
        rcases Nat.lt_or_ge i s.Snaps_.length with h' | h'
        ·exact h'
        ·rw [List.getElem?_eq_none h'] at hx; cases hx
       omega
      have hy:=List.getElem?_eq_getElem hi
      have e:iE_ s.Snaps_ i=s.Snaps_[i - 1]:=by
       unfold iE_
       rw [List.getD_eq_getElem?_getD,hy]
       rfl
      rw [e]
      exact h.asc i x _ h0 hx hy
     unfold badS
     rw [h4]
     simp only [Bool.or_eq_false_iff,decide_eq_false_iff_not,Bool.and_eq_false_iff,Bool.not_true]
     refine ⟨⟨⟨by omega,by omega⟩,?_⟩,trivial⟩
     by_cases h0:0<i
     ·exact .inr (by have:=h5 h0; omega)
     ·exact .inl h0
   ·unfold gh_
    refine ag_ (bm_ hi) (aa_ (ap_ hi) ?_)
    obtain ⟨T,E,hT⟩:=tree_at hs s.Snaps_[i].Score_
    have hok:okTr s.Store_ s.Snaps_[i].Score_=(E==0):=by unfold okTr; rw [hT.ref]
    have hprev:∀ h0:0<i,ak_ s.Snaps_ (w64 ((i:Int) - 1))=some (iE_ s.Snaps_ i):=fun h0=>hF_ _ h0 hi (by omega)
    have hcond:(Option.bind (bif (decide ((i:Int)>0)) then (ak_ s.Snaps_ (w64 ((i:Int) - 1))).bind fun y13=>some (decide (y13.Time_≥s.Snaps_[i].Time_)) else some false) fun (y14:Bool)=>some y14)=some (decide (0<i)&&decide ((iE_ s.Snaps_ i).Time_≥s.Snaps_[i].Time_)):=by
     by_cases h0:0<i
     ·have e:decide ((i:Int)>0)=true:=by simpa using h0
      rw [e,hprev h0]
      simp [h0]
     ·have e:decide ((i:Int)>0)=false:=by simp; omega
      rw [e]
      simp [h0]
    refine aa_ (a:=(decide (s.Snaps_[i].Time_<0)||decide (s.Snaps_[i].Time_>1099511627776))||(decide (0<i)&&decide ((iE_ s.Snaps_ i).Time_≥s.Snaps_[i].Time_))) ?_ ?_
    ·cases hc:decide (s.Snaps_[i].Time_<0)||decide (s.Snaps_[i].Time_>1099511627776) with
     | true=>rfl
     | false=>exact ac_ rfl hcond
    ·unfold badS
     cases hc:(decide (s.Snaps_[i].Time_<0)||decide (s.Snaps_[i].Time_>1099511627776))||(decide (0<i)&&decide ((iE_ s.Snaps_ i).Time_≥s.Snaps_[i].Time_)) with
     | true=>rfl
     | false =>
      refine ac_ rfl (aa_ hT.ref ?_)
      rw [hok]
      by_cases hE:E=0
      ·subst hE
       obtain ⟨b3,e3,g3⟩:=iA_ T hT.len (ok_modes (hT.ok rfl))
       have hb3:=g3.2 (hT.ok rfl)
       subst hb3
       refine aa_ (a:=false) (ac_ rfl (aa_ e3 rfl)) ?_
       rw [as_ (by omega)]
       rfl
      ·refine aa_ (a:=true) (ag_ (by simpa using hE) rfl) ?_
       have:(E==0)=false:=by simpa using hE
       rw [this]
       rfl
 ·exact ⟨false,aa_ (a:=true) (ag_ (by simp; omega) rfl) (aa_ (a:=true) rfl rfl),fun h=>(nomatch h),fun h=>absurd h.sl hl⟩
def atS (l:List api_Snap) (t:Int):Option api_Snap:=l.reverse.find? fun x=>decide (x.Time_≤t)
theorem at_down (s:api_SnapSrv) (t:Int) (hl:s.Snaps_.length≤1000):∀ (n m:Nat),n≤s.Snaps_.length→n<m→aj_ (eM_ s t) m ((n:Int) - 1)=some (match atS (s.Snaps_.take n) t with | some x => .ret (x,true) | none => .fall ())
 | 0,m,_,hm=>by
  obtain ⟨m,rfl⟩:∃ k,m=k+1:=⟨m - 1,by omega⟩
  refine aO_ ?_
  unfold eM_
  exact ac_ (by simp) rfl
 | n+1,m,hn,hm=>by
  obtain ⟨m,rfl⟩:∃ k,m=k+1:=⟨m - 1,by omega⟩
  have hi:n<s.Snaps_.length:=by omega
  have e0:((n+1:Nat):Int) - 1=(n:Int):=by omega
  have ht:s.Snaps_.take (n+1)=s.Snaps_.take n++[s.Snaps_[n]]:=List.take_succ_eq_append_getElem hi
  have hat:atS (s.Snaps_.take (n+1)) t=if s.Snaps_[n].Time_≤t then some s.Snaps_[n] else atS (s.Snaps_.take n) t:=by
   unfold atS
   rw [ht,List.reverse_append,List.reverse_singleton,List.singleton_append,List.find?_cons]
   by_cases h:s.Snaps_[n].Time_≤t <;> simp [h]
  rw [hat,e0]
  by_cases h:s.Snaps_[n].Time_≤t
  ·rw [if_pos h]
   refine aO_ ?_
   unfold eM_
   exact ag_ (by simp) (aa_ (ap_ hi) (ag_ (by simpa using h) (aa_ (ap_ hi) rfl)))
  ·rw [if_neg h]
   refine bw_ ?_ (at_down s t hl n m (by omega) (by omega))
   unfold eM_
   refine ag_ (by simp) (aa_ (ap_ hi) (ac_ (by simpa using h) ?_))
   rw [am_ ⟨by omega,by omega⟩]
def atR (s:api_SnapSrv) (t:Int):api_Snap × Bool:=match atS s.Snaps_ t with | some x=>(x,true) | none=>(api_Snap.mk 0 [],false)
theorem At_eq (s:api_SnapSrv) (t:Int) (hl:s.Snaps_.length≤1000):gU_ s t=some (atR s t):=by
 have h:=at_down s t hl s.Snaps_.length BIG (Nat.le_refl _) (bd_ (by omega))
 rw [List.take_length] at h
 unfold gU_ atR
 rw [am_ ⟨by omega,by omega⟩]
 refine aa_ h ?_
 cases atS s.Snaps_ t <;> rfl
theorem ref_At_eq (s:api_SnapSrv) (t:Int) (hl:s.Snaps_.length≤1000):nt_ s t=some (atR s t):=At_eq s t hl
theorem atS_mem {l:List api_Snap} {t:Int} {x:api_Snap} (h:atS l t=some x):x∈l:=List.mem_reverse.1 (List.mem_of_find?_eq_some h)
theorem Tree_eq {s:api_SnapSrv} (h:Ok17 s) (t:Int):∃ T E,he_ s t=some (T,E)∧ky_ s t=some (T,E)∧T.Nodes_.length≤1024:=by
 unfold he_ ky_
 rw [At_eq s t (by have:=h.sl; omega),ref_At_eq s t (by have:=h.sl; omega)]
 unfold atR
 cases ha:atS s.Snaps_ t with
 | none=>exact ⟨api_Tree.mk 0 [],8,rfl,rfl,by simp⟩
 | some x =>
  obtain ⟨T,hT⟩:=h.tree x (atS_mem ha)
  exact ⟨T,0,aa_ (a:=(x,true)) rfl (ac_ rfl (aa_ hT.get rfl)),aa_ (a:=(x,true)) rfl (ac_ rfl (aa_ hT.ref rfl)),hT.len⟩
theorem srv_fit {x:api_SnapSrv} (h:Fit te (.st snapN) x):mM_ x.Files_.Users_∧shortQ x.Files_.Quotas_∧NodesB x.Files_ :=
 ⟨fun u hu=>((h 1).1.2 u hu).1,fun q hq=>((h 1).2.1.2 q hq).1,fun n hn=>⟨((h 1).2.2.2.1.2 n hn).2.2.2.2.1.2,((h 1).2.2.2.1.2 n hn).2.2.2.1⟩⟩
theorem nZ_ (x0:api_SnapSrv) (x1:Int) (h0:Fit te (.st snapN) x0) (_:Fit te (.int .i64) x1):d0_ x0 x1=some true:=by
 unfold d0_
 have hA:(law17_awake.bind fun y4=>some y4)=some true:=by rw [awake_eq]; rfl
 obtain ⟨b,h1,h2⟩:=small_eq x0
 refine aa_ h1 ?_
 cases b with
 | false=>exact aa_ (a:=true) rfl hA
 | true =>
  have hs:=h2 rfl
  obtain ⟨f1,f2,f3⟩:=srv_fit h0
  obtain ⟨c,e1,e2⟩:=Right_eq x0 (hs.size f1 f2) f3 hs.bl
  refine aa_ (a := !c) (aa_ e1 rfl) ?_
  cases c with
  | false=>exact hA
  | true =>
   have h:=e2.1 rfl
   obtain ⟨T,E,t1,t2,t3⟩:=Tree_eq h x1
   refine ac_ rfl (aa_ (At_eq x0 x1 (by have:=h.sl; omega)) (aa_ (ref_At_eq x0 x1 (by have:=h.sl; omega)) (aa_ t1 (aa_ t2 (aa_ (a:=true) (ag_ (by simp) (aa_ (same_tree13 T (by omega)) rfl)) (aa_ (a:=true) (ag_ (by simp) hA) rfl))))))
end Go.Proofs.YtebokaoegomboaaGreatDoor
namespace Go.Proofs.YtebokaoegomboaaGreatDoor
open Go.Rt Go.RowKit
theorem text_eq {n:Int} (h0:0≤n) (h1:n≤9223372036854775807):i5_ n 10=some (digF 20 n.toNat):=by
 unfold i5_
 exact aa_ (a:=true) rfl (ac_ rfl (aa_ (by unfold dy_; rw [if_pos ⟨rfl,h0,h1⟩]) rfl))
theorem r9_ (u:Nat) (s:Str) (hu:u≤9223372036854775807) (hs:s.length≤1000) (hc:(decide (-(u:Int)<0)||(s==[]))=true):dm_ 10 (-(u:Int),s)=some (.next (-((u / 10:Nat):Int),UInt8.ofNat (48+u % 10)::s)):=by
 unfold dm_
 have hd:u % 10<10:=Nat.mod_lt _ (by omega)
 have e1:remI (-(u:Int)) 10=some (-((u % 10:Nat):Int)):=by
  unfold remI
  rw [if_neg (by decide),Int.neg_tmod,Int.tmod_eq_emod_of_nonneg (by omega)]
  rfl
 have e2:d4_ .i64 (-(u:Int)) 10=some (-((u / 10:Nat):Int)):=by
  unfold d4_
  rw [if_neg (by decide),Int.neg_tdiv,Int.tdiv_eq_ediv_of_nonneg (by omega),c0_ ⟨by omega,by omega⟩]
  rfl
 refine ag_ hc (aa_ e1 (aa_ (a:=[UInt8.ofNat (48+u % 10)]) ?_ (aa_ (a:=UInt8.ofNat (48+u % 10)::s) ?_ (aa_ e2 rfl))))
 ·generalize u % 10=d at hd
  have h:d=0∨d=1∨d=2∨d=3∨d=4∨d=5∨d=6∨d=7∨d=8∨d=9:=by omega
  rcases h with rfl | rfl | rfl | rfl | rfl | rfl | rfl | rfl | rfl | rfl <;> rfl
 ·rw [io_ (by simp; omega)]
  rfl
theorem digF_succ (f u:Nat):digF (f+1) u=if u<10 then [UInt8.ofNat (48+u)] else digF f (u / 10)++[UInt8.ofNat (48+u % 10)]:=rfl
theorem pO_:∀ (f u:Nat) (s:Str),u<10 ^ f→u≤9223372036854775807→s≠[]→s.length+f≤1000→aj_ (dm_ 10) (f+1) (-(u:Int),s)=some ((if u=0 then [] else digF f u)++s)
 | 0,u,s,h,_,hs,_=>by
  have:u=0:=by simpa using h
  subst this
  refine aO_ ?_
  unfold dm_
  refine ac_ ?_ rfl
  cases s with
  | nil=>exact absurd rfl hs
  | cons a l=>rfl
 | f+1,u,s,h,hu,hs,hl=>by
  by_cases h0:u=0
  ·subst h0
   rw [if_pos rfl]
   refine aO_ ?_
   unfold dm_
   refine ac_ ?_ rfl
   cases s with
   | nil=>exact absurd rfl hs
   | cons a l=>rfl
  ·rw [if_neg h0]
   have hc:(decide (-(u:Int)<0)||(s==[]))=true:=by
    have:decide (-(u:Int)<0)=true:=by simp; omega
    rw [this]
    rfl
   refine bw_ (r9_ u s hu (by omega) hc) ((pO_ f (u / 10) (UInt8.ofNat (48+u % 10)::s) (by rw [Nat.pow_succ] at h; omega) (by omega) (by simp) (by simp; omega)).trans ?_)
   rw [digF_succ f u]
   by_cases h1:u<10
   ·rw [if_pos h1,if_pos (by omega),Nat.mod_eq_of_lt h1]
    rfl
   ·rw [if_neg h1,if_neg (by omega)]
    simp
theorem ref_text_eq {n:Int} (h0:0≤n) (h1:n≤9223372036854775807):ig_ n 10=some (digF 20 n.toNat):=by
 obtain ⟨u,rfl⟩:∃ u:Nat,n=(u:Int):=⟨n.toNat,by omega⟩
 rw [Int.toNat_natCast]
 unfold ig_ if_
 refine aa_ (a:=true) rfl (ac_ rfl (ac_ (by simp) ?_))
 rw [am_ ⟨by omega,by omega⟩,Int.zero_sub]
 have hstep:=r9_ u [] (by omega) (by simp) (by simp)
 have hrest:=pO_ 19 (u / 10) [UInt8.ofNat (48+u % 10)] (by omega) (by omega) (by simp) (by simp)
 have h:=gv_ (bw_ hstep hrest) (show 19+1+1≤BIG by decide)
 refine aa_ (aa_ h rfl) (congrArg some ?_)
 rw [show digF 20 u=_ from digF_succ 19 u]
 by_cases h2:u<10
 ·rw [if_pos h2,if_pos (by omega),Nat.mod_eq_of_lt h2]
  rfl
 ·rw [if_neg h2,if_neg (by omega)]
def txtS (x:api_Snap):Str:=digF 20 x.Time_.toNat
theorem oY_ {s:api_SnapSrv} (h:Ok17 s) {x:api_Snap} (hx:x∈s.Snaps_):i5_ x.Time_ 10=some (txtS x)∧ig_ x.Time_ 10=some (txtS x):=by
 obtain ⟨h1,h2⟩:=h.time x hx
 exact ⟨text_eq h1 (by omega),ref_text_eq h1 (by omega)⟩
theorem srv_at {s:api_SnapSrv} (h:Ok17 s) (z:SizeOK s.Files_) {k:Int} (k1:1≤k) (kl:k≤(s.Snaps_.length:Int)+1) :
  ∃ F,FileOK F∧SizeOK F∧b3_ s k=some F∧((k=1∧F=s.Files_)∨(k>1∧∃ x∈s.Snaps_,ak_ s.Snaps_ (w64 (k - 2))=some x∧∃ T,bS_ s.Store_ x.Score_=some (T,0)∧F=api_FileSrv.mk s.Files_.Users_ s.Files_.Quotas_ T [])):=by
 have hsl:=h.sl
 by_cases hk:k=1
 ·subst hk
  exact ⟨s.Files_,h.files,z,rfl,.inl ⟨rfl,rfl⟩⟩
 ·obtain ⟨i,hi⟩:∃ i:Nat,k=(i:Int)+2:=⟨(k - 2).toNat,by omega⟩
  have hil:i<s.Snaps_.length:=by omega
  have hgi:ak_ s.Snaps_ (w64 (k - 2))=some s.Snaps_[i]:=by
   rw [am_ ⟨by omega,by omega⟩,show k - 2=(i:Int) by omega]
   exact ap_ hil
  have hx:=List.getElem_mem hil
  obtain ⟨T,hT⟩:=h.tree _ hx
  refine ⟨api_FileSrv.mk s.Files_.Users_ s.Files_.Quotas_ T [],⟨h.files.us,h.files.qs,hT.ok rfl,by simp [kP_],fun x hx=>by cases hx⟩,⟨z.ul,z.um,z.us,z.ql,z.qs,hT.len,by simp⟩,?_,.inr ⟨by omega,_,hx,hgi,T,hT.get,rfl⟩⟩
  unfold b3_
  exact ac_ (by simpa using hk) (aa_ hgi (aa_ hT.ref rfl))
structure Found (s:api_SnapSrv) (id:Int) (F:api_FileSrv) (k:Int):Prop where
 ge:1048576≤id
 kk:IntKind.i64.wrap (id.tdiv 1048576)=k
 k1:1≤k
 kl:k≤(s.Snaps_.length:Int)+1
 ok:FileOK F
 size:SizeOK F
 find:bi_ s id=some (snapshot_place.mk F k (id.tmod 1048576),true)
 ex:bL_ s id=some true
 srv:b3_ s k=some F
 is:isS F (id.tmod 1048576)=true
 snap:k>1→∃ x∈s.Snaps_,ak_ s.Snaps_ (w64 (k - 2))=some x
def zeroP (t i:Int):snapshot_place:=snapshot_place.mk (api_FileSrv.mk [] [] (api_Tree.mk 0 []) []) t i
theorem look {s:api_SnapSrv} (h:Ok17 s) (z:SizeOK s.Files_) {id:Int} (hid:I64 id) :
  ((id=1∨id=2)∧bi_ s id=some (zeroP 0 id,true)∧bL_ s id=some true)∨(¬ (id=1∨id=2)∧(∃ p,bi_ s id=some (p,false))∧bL_ s id=some false)∨∃ F k,Found s id F k:=by
 have hsl:=h.sl
 by_cases hA:id=1∨id=2
 ·refine .inl ⟨hA,?_,?_⟩
  ·unfold bi_
   exact ag_ (by rcases hA with rfl | rfl <;> rfl) rfl
  ·unfold bL_
   exact ag_ (by rcases hA with rfl | rfl <;> rfl) rfl
 ·have hA':((id==1)||(id==2))=false:=by
   simp only [not_or] at hA
   simp [hA.1,hA.2]
  have hw:w64 ((s.Snaps_.length:Int)+1)=(s.Snaps_.length:Int)+1:=am_ ⟨by omega,by omega⟩
  have hk:(1048576≤id→1≤IntKind.i64.wrap (id.tdiv 1048576))∧(id<1048576→IntKind.i64.wrap (id.tdiv 1048576)<1):=by
   obtain ⟨i1,i2⟩:=hid
   by_cases h0:0≤id
   ·rw [Int.tdiv_eq_ediv_of_nonneg h0,c0_ ⟨by omega,by omega⟩]
    omega
   ·obtain ⟨u,rfl⟩:∃ u:Nat,id = -(u:Int):=⟨(-id).toNat,by omega⟩
    rw [Int.neg_tdiv,Int.tdiv_eq_ediv_of_nonneg (by omega),c0_ ⟨by omega,by omega⟩]
    omega
  by_cases hg:id<1048576∨IntKind.i64.wrap (id.tdiv 1048576)>(s.Snaps_.length:Int)+1
  ·refine .inr (.inl ⟨hA,⟨zeroP 0 0,?_⟩,?_⟩)
   ·unfold bi_
    refine ac_ hA' (ag_ ?_ rfl)
    rw [hw]
    simpa using hg
   ·unfold bL_
    refine ac_ hA' (ag_ ?_ rfl)
    rw [hw]
    simp only [Bool.or_eq_true,decide_eq_true_eq]
    rcases hg with hg | hg
    ·exact .inl (.inr (hk.2 hg))
    ·exact .inr hg
  ·have hge:1048576≤id:=by omega
   have k1:=hk.1 hge
   have kl:IntKind.i64.wrap (id.tdiv 1048576)≤(s.Snaps_.length:Int)+1:=by omega
   have hex:∀ {F:api_FileSrv},SizeOK F→b3_ s (IntKind.i64.wrap (id.tdiv 1048576))=some F→bL_ s id=some (isS F (id.tmod 1048576)):=fun zF hF=>by
    unfold bL_
    refine ac_ hA' (ac_ ?_ (aa_ hF (aa_ (cl_ _ _ (nl2 zF)) rfl)))
    rw [hw]
    simp only [Bool.or_eq_false_iff,decide_eq_false_iff_not]
    omega
   generalize hkk:IntKind.i64.wrap (id.tdiv 1048576)=k at *
   obtain ⟨F,f1,f2,f3,f4⟩:=srv_at h z k1 kl
   have hex2:=hex f2 f3
   have hfind:bi_ s id=some (snapshot_place.mk F k (id.tmod 1048576),isS F (id.tmod 1048576)):=by
    unfold bi_
    rw [hkk,hw]
    refine ac_ hA' (ac_ (by simpa using hg) ?_)
    rcases f4 with ⟨rfl,rfl⟩ | ⟨q1,x,_,q2,T,q3,rfl⟩
    ·exact aa_ (ac_ rfl rfl) (aa_ (cF_ _ _ (nl2 z)) rfl)
    ·exact aa_ (ag_ (by simpa using q1) (aa_ q2 (aa_ q3 (ac_ rfl rfl)))) (aa_ (cF_ _ _ (nl2 f2)) rfl)
   cases his:isS F (id.tmod 1048576) with
   | false =>
    rw [his] at hfind hex2
    exact .inr (.inl ⟨hA,⟨_,hfind⟩,hex2⟩)
   | true =>
    rw [his] at hfind hex2
    refine .inr (.inr ⟨F,k,hge,hkk,k1,kl,f1,f2,hfind,hex2,f3,his,fun hk1 => ?_⟩)
    rcases f4 with ⟨rfl,_⟩ | ⟨_,x,hx,q2,_⟩
    ·omega
    ·exact ⟨x,hx,q2⟩
end Go.Proofs.YtebokaoegomboaaGreatDoor
namespace Go.Proofs.YtebokaoegomboaaGreatDoor
open Go.Rt Go.RowKit
theorem svalid_eq {s:api_SnapSrv} (h:Ok17 s) (z:SizeOK s.Files_) (user:Str) (hu:user.length≤9223372036854775807):dQ_ s user=some (vU user):=by
 unfold dQ_
 refine aa_ (walk_eq h.files z user 0 [] hu) (congrArg some ?_)
 have h0:isS s.Files_ 0=false:=by
  cases hi:isS s.Files_ 0 with
  | false=>rfl
  | true =>
   obtain ⟨h1,h2⟩:=c8_ hi
   have:=h.files.tr.ge h1
   omega
 unfold walkS dirC
 rw [h0]
 cases vU user <;> rfl
def dirF (F:api_FileSrv) (m:Int):Bool:=aD_ (bY_ F m).Mode_ 31
theorem has17 (x:Int) (h1:x≤9223372036854775807):oB_ x 2147483648=some (aD_ x 31):=mI_ x 31 (by omega) h1
theorem Found.dir {s:api_SnapSrv} {id:Int} {F:api_FileSrv} {k:Int} (f:Found s id F k):bB_ (snapshot_place.mk F k (id.tmod 1048576))=some (dirF F (id.tmod 1048576))∧dn_ s id=some (dirF F (id.tmod 1048576)):=by
 have hm:=hT_ f.ok (id.tmod 1048576)
 constructor
 ·unfold bB_
  have k1:=f.k1
  refine ac_ (by simp; omega) (aa_ (cF_ _ _ (nl2 f.size)) (congrArg some ?_))
  exact hG_ (okNode_all (f.ok.tr.flds _ (c8_ f.is).1)).1
 ·unfold dn_
  have ge:=f.ge
  refine ac_ (by simp; omega) ?_
  rw [f.kk]
  exact aa_ f.srv (aa_ (cl_ _ _ (nl2 f.size)) (aa_ (has17 _ hm) rfl))
theorem zero_dir {s:api_SnapSrv} {id:Int} (h:id=1∨id=2):bB_ (zeroP 0 id)=some true∧dn_ s id=some true:=by
 rcases h with rfl | rfl <;> exact ⟨rfl,rfl⟩
theorem Read_eq {s:api_SnapSrv} (h:Ok17 s) (z:SizeOK s.Files_) {id:Int} (hid:I64 id) (offset count:Int) (ho:offset≤9223372036854775807):∃ r,cJ_ s id offset count=some r∧kE_ s id offset count=some r:=by
 unfold cJ_ kE_
 rcases look h z hid with ⟨hA,l1,l2⟩ | ⟨_,⟨p,l1⟩,l2⟩ | ⟨F,k,f⟩
 ·obtain ⟨d1,d2⟩:=zero_dir (s:=s) hA
  exact ⟨_,aa_ l1 (ac_ rfl (aa_ d1 (ag_ rfl rfl))),aa_ l2 (ac_ rfl (aa_ d2 (ag_ rfl rfl)))⟩
 ·exact ⟨_,aa_ l1 (ag_ rfl rfl),aa_ l2 (ag_ rfl rfl)⟩
 ·obtain ⟨d1,d2⟩:=f.dir
  rw [f.kk]
  cases hd:dirF F (id.tmod 1048576) with
  | true =>
   rw [hd] at d1 d2
   exact ⟨_,aa_ f.find (ac_ rfl (aa_ d1 (ag_ rfl rfl))),aa_ f.ex (ac_ rfl (aa_ d2 (ag_ rfl rfl)))⟩
  | false =>
   rw [hd] at d1 d2
   exact ⟨_,aa_ f.find (ac_ rfl (aa_ d1 (ac_ rfl (aa_ (read_eq f.ok _ _ _) rfl)))),aa_ f.ex (ac_ rfl (aa_ d2 (ac_ rfl (aa_ f.srv (aa_ (uf_ f.ok f.size _ _ _ ho) rfl)))))⟩
theorem sa_ {α β : Type} {f g:Nat → α → Option β}:∀ (l:List α) (k:Nat),(∀ i x,x∈l→f (i+2) x=g i x)→aE_ f (k+2) l=aE_ g k l
 | [],_,_=>rfl
 | x::l,k,h=>by
  unfold aE_
  rw [h k x List.mem_cons_self]
  cases g k x with
  | some r=>rfl
  | none=>exact sa_ l (k+1) fun i y hy=>h i y (List.mem_cons_of_mem _ hy)
def topI2 (i:Nat):Int:=w64 ((w64 ((2+(i:Int))*1048576))+1)
theorem scan_map {α γ β : Type} (h : α → γ) {f:Nat → γ → Option β}:∀ (l:List α) (k:Nat),aE_ f k (l.map h)=aE_ (fun i x=>f i (h x)) k l
 | [],_=>rfl
 | x::l,k=>by
  simp only [List.map_cons,aE_]
  cases f k (h x) with
  | some r=>rfl
  | none=>exact scan_map h l (k+1)
def gO (name:Str) (i:Nat):Option api_Snap→Option (Int × Int)
 | some x=>if txtS x==name then some (w64 ((w64 ((i:Int)*1048576))+1),0) else none
 | none=>none
def gS (name:Str) (i:Nat) (x:api_Snap):Option (Int × Int):=if txtS x==name then some (topI2 i,0) else none
theorem gO_shift (name:Str) (i:Nat) (x:api_Snap):gO name (i+2) (some x)=gS name i x:=by
 unfold gO gS topI2
 have e:((i+2:Nat):Int)=2+(i:Int):=by omega
 rw [e]
theorem top_both {s:api_SnapSrv} (h:Ok17 s) {id:Int} (hA:id=1∨id=2) (name:Str) :
  ∃ r,(bif (name==[46,46]) then some ((1:Int),(0:Int)) else
   (bif ((id==1)&&(name==[97,99,116,105,118,101])) then
    (db_ 1).bind fun y3=>some (y3,0)
   else
    (bif ((id==1)&&(name==[97,114,99,104,105,118,101])) then
     some (2,0)
    else
     (aj_ (b2_ s id name) BIG 0).bind fun wo1=>match wo1 with
     | .ret r1=>some r1
     | .fall _=>some (0,8))))=some r∧lL_ s id name=some r:=by
 have hsl:=h.sl
 have hw:w64 ((s.Snaps_.length:Int)+1)=(s.Snaps_.length:Int)+1:=am_ ⟨by omega,by omega⟩
 unfold lL_
 cases h0:name==[46,46] with
 | true=>exact ⟨_,rfl,rfl⟩
 | false =>
 simp only [cond_false]
 rcases hA with rfl | rfl
 ·
  by_cases h1:name=[97,114,99,104,105,118,101]
  ·subst h1
   exact ⟨(2,0),rfl,rfl⟩
  ·have h1':(name==[97,114,99,104,105,118,101])=false:=by simpa using h1
   by_cases h2:name=[97,99,116,105,118,101]
   ·subst h2
    refine ⟨(1048577,0),rfl,ac_ rfl (aa_ (a:=Out.ret (1048577,0)) ?_ rfl)⟩
    refine aO_ (n:=18446744073709551615) ?_
    unfold cE_
    rw [hw]
    exact ag_ (by simp; omega) rfl
   ·have h2':(name==[97,99,116,105,118,101])=false:=by simpa using h2
    rw [h1',h2']
    refine ⟨(0,8),ac_ rfl (ac_ rfl (aa_ (a:=Out.fall ()) ?_ rfl)),ac_ rfl (aa_ (a:=Out.fall ()) ?_ rfl)⟩
    ·refine aJ_ (T:=fun i=>(i:Int)) s.Snaps_.length (bd_ (by omega)) (fun i hi => ?_) ?_
     ·unfold b2_
      refine ag_ (bm_ hi) (aa_ (ap_ hi) (aa_ (a:=false) rfl (ac_ rfl ?_)))
      rw [as_ (by omega)]
     ·unfold b2_
      exact ac_ (br_ _) rfl
    ·have hl:=aJ_ (body:=cE_ s 1 name) (T:=fun i=>(i:Int)+1) (b:=Out.fall ()) (s.Snaps_.length+1) (bd_ (by omega)) (fun i hi => ?_) ?_
     ·exact hl
     ·unfold cE_
      rw [hw]
      refine ag_ (by simp; omega) (aa_ (a:=false) ?_ (ac_ rfl ?_))
      ·by_cases hi0:i=0
       ·subst hi0
        refine ag_ rfl (aa_ (a:=[97,99,116,105,118,101]) rfl ?_)
        have:([97,99,116,105,118,101]==name)=false:=by
         rw [Bool.eq_false_iff]
         intro e
         exact h2 (eq_of_beq e).symm
        rw [this]
       ·refine ac_ ?_ rfl
        have:(((i:Int)+1)==1)=false:=by simp; omega
        rw [this]
        rfl
      ·rw [am_ ⟨by omega,by omega⟩]
       congr 2
     ·unfold cE_
      rw [hw]
      exact ac_ (by simp; omega) rfl
 ·
  have e1:((2:Int)==1)=false:=rfl
  rw [e1]
  simp only [Bool.false_and,cond_false]
  have hp:=aY_ (body:=b2_ s 2 name) s.Snaps_ (gS name) (bd_ (by omega)) (fun i hi => ?_) (by unfold b2_; exact ac_ (br_ _) rfl)
  ·have hr:=nA_ (body:=cE_ s 2 name) (none::none::s.Snaps_.map some) (gO name) 1 (by simp) (bd_ (by simp; omega)) (fun i hi hk => ?_) ?_
   ·refine ⟨((aE_ (gS name) 0 s.Snaps_).getD (0,8)),?_,?_⟩
    ·exact be_ hp (fun r=>rfl) rfl
    ·have hr':aj_ (cE_ s 2 name) BIG 1=some (cL_ (aE_ (gS name) 0 s.Snaps_)):=by
      refine hr.trans (congrArg (fun o=>some (cL_ o)) ?_)
      show aE_ (gO name) (0+2) (s.Snaps_.map some)=_
      rw [scan_map]
      exact sa_ s.Snaps_ 0 fun i x _=>gO_shift name i x
     exact be_ hr' (fun r=>rfl) rfl
   ·have hi':i<s.Snaps_.length+2:=by simpa using hi
    unfold cE_
    rw [hw]
    refine ag_ (by simp; omega) ?_
    by_cases hi1:i=1
    ·subst hi1
     refine aa_ (a:=false) rfl (ac_ rfl ?_)
     rfl
    ·obtain ⟨j,rfl⟩:∃ j,i=j+2:=⟨i - 2,by omega⟩
     have hj:j<s.Snaps_.length:=by omega
     have hx:=List.getElem_mem hj
     have hel:(none::none::s.Snaps_.map some)[j+2]'hi=some s.Snaps_[j]:=by simp
     have hti:fl_ s ((j+2:Nat):Int)=some (txtS s.Snaps_[j]):=by
      unfold fl_
      refine ac_ (by simp; omega) (aa_ (a:=s.Snaps_[j]) ?_ (aa_ (oY_ h hx).2 rfl))
      rw [am_ ⟨by omega,by omega⟩,show ((j+2:Nat):Int) - 2=(j:Int) by omega]
      exact ap_ hj
     rw [hel]
     refine aa_ (a:=txtS s.Snaps_[j]==name) (ag_ ?_ (aa_ hti rfl)) ?_
     ·have:(((j+2:Nat):Int)==1)=false:=by simp; omega
      rw [this]
      rfl
     ·cases hb:txtS s.Snaps_[j]==name with
      | true =>
       have hg:gO name (j+2) (some s.Snaps_[j])=some (w64 ((w64 (((j+2:Nat):Int)*1048576))+1),0):=by unfold gO; simp only [hb,if_true]
       rw [hg]
       rfl
      | false =>
       have hg:gO name (j+2) (some s.Snaps_[j])=none:=by unfold gO; simp only [hb]; rfl
       rw [hg,as_ (by omega)]
       rfl
   ·unfold cE_
    rw [hw]
    exact ac_ (by simp; omega) rfl
  ·unfold b2_
   have hx:=List.getElem_mem hi
   refine ag_ (bm_ hi) (aa_ (ap_ hi) (aa_ (a:=txtS s.Snaps_[i]==name) (ag_ rfl (aa_ (oY_ h hx).1 rfl)) ?_))
   cases hb:txtS s.Snaps_[i]==name with
   | true =>
    have hg:gS name i s.Snaps_[i]=some (topI2 i,0):=by unfold gS; simp only [hb,if_true]
    rw [hg]
    exact ag_ rfl (aa_ (a:=topI2 i) (by unfold db_ topI2; rw [am_ (n:=2+(i:Int)) ⟨by omega,by omega⟩]) rfl)
   | false =>
    have hg:gS name i s.Snaps_[i]=none:=by unfold gS; simp only [hb]; rfl
    rw [hg,as_ (by omega)]
    rfl
theorem Walk_eq {s:api_SnapSrv} (h:Ok17 s) (z:SizeOK s.Files_) (user:Str) {id:Int} (hid:I64 id) (name:Str) (hu:user.length≤9223372036854775807):∃ r,dv_ s user id name=some r∧kC_ s user id name=some r:=by
 have hv:=svalid_eq h z user hu
 have hv2:=jA_ user hu
 have hsl:=h.sl
 unfold dv_ kC_ cq_ mc_
 cases hval:vU user with
 | false =>
  rw [hval] at hv hv2
  exact ⟨(0,25),aa_ (aa_ hv (ag_ rfl rfl)) (ag_ rfl rfl),aa_ (aa_ hv2 (ag_ rfl rfl)) (ag_ rfl rfl)⟩
 | true =>
 rw [hval] at hv hv2
 rcases look h z hid with ⟨hA,l1,l2⟩ | ⟨_,⟨p,l1⟩,l2⟩ | ⟨F,k,f⟩
 ·obtain ⟨r,t1,t2⟩:=top_both h hA name
  refine ⟨r,aa_ (aa_ hv (ac_ rfl (aa_ l1 (ac_ rfl rfl)))) (ac_ rfl (ac_ rfl t1)),aa_ (aa_ hv2 (ac_ rfl (aa_ l2 (ac_ rfl rfl)))) (ac_ rfl (ag_ (by rcases hA with rfl | rfl <;> rfl) (aa_ t2 rfl)))⟩
 ·exact ⟨(0,8),aa_ (aa_ hv (ac_ rfl (aa_ l1 (ag_ rfl rfl)))) (ag_ rfl rfl),aa_ (aa_ hv2 (ac_ rfl (aa_ l2 (ag_ rfl rfl)))) (ag_ rfl rfl)⟩
 ·have k1:=f.k1
  have kl:=f.kl
  have ge:=f.ge
  rw [f.kk]
  have hw:=walk_eq f.ok f.size user (id.tmod 1048576) name hu
  have hw2:=ref_walk_eq f.ok f.size user (id.tmod 1048576) name hu
  generalize walkS F user (id.tmod 1048576) name=W at hw hw2
  have hge:¬ id<1048576:=by omega
  by_cases he:W.2=0
  ·by_cases hd:((name==[46,46])&&((id.tmod 1048576)==1))=true
   ·refine ⟨(bJ_ k 2,0),aa_ (aa_ hv (ac_ rfl (aa_ f.find (ac_ rfl rfl)))) (ac_ rfl (ag_ (by simp; omega) (aa_ hw (ac_ (by simp [he]) (ag_ hd rfl))))),aa_ (aa_ hv2 (ac_ rfl (aa_ f.ex (ac_ rfl rfl)))) (ac_ rfl (ac_ (by simpa using hge) (aa_ f.srv (aa_ hw2 (ac_ (by simp [he]) ?_)))))⟩
    by_cases hk:k=1
    ·exact ag_ (by rw [hd]; simp [hk]) (by rw [hk]; rfl)
    ·refine ac_ (by rw [hd]; simp [hk]) (ag_ hd ?_)
     have:bJ_ k 2=2:=by unfold bJ_; split <;> omega
     rw [this]
   ·have hd':=Bool.eq_false_iff.2 hd
    exact ⟨(w64 ((w64 (k*1048576))+W.1),0),aa_ (aa_ hv (ac_ rfl (aa_ f.find (ac_ rfl rfl)))) (ac_ rfl (ag_ (by simp; omega) (aa_ hw (ac_ (by simp [he]) (ac_ hd' rfl))))),aa_ (aa_ hv2 (ac_ rfl (aa_ f.ex (ac_ rfl rfl)))) (ac_ rfl (ac_ (by simpa using hge) (aa_ f.srv (aa_ hw2 (ac_ (by simp [he]) (ac_ (by rw [hd']; rfl) (ac_ hd' rfl)))))))⟩
  ·exact ⟨(0,W.2),aa_ (aa_ hv (ac_ rfl (aa_ f.find (ac_ rfl rfl)))) (ac_ rfl (ag_ (by simp; omega) (aa_ hw (ag_ (by simpa using he) rfl)))),aa_ (aa_ hv2 (ac_ rfl (aa_ f.ex (ac_ rfl rfl)))) (ac_ rfl (ac_ (by simpa using hge) (aa_ f.srv (aa_ hw2 (ag_ (by simpa using he) rfl)))))⟩
end Go.Proofs.YtebokaoegomboaaGreatDoor
namespace Go.Proofs.YtebokaoegomboaaGreatDoor
open Go.Rt Go.RowKit
theorem sc_ {F:api_FileSrv} (f:FileOK F) (z:SizeOK F) {m:Int} (hi:isS F m=true):dc_ F m=some (iC_ (bY_ F m),0)∧im_ F m=some (iC_ (bY_ F m),0):=by
 obtain ⟨r,s1,s2,_⟩:=stat_eq f z m
 have h1:dc_ F m=some (iC_ (bY_ F m),0):=by
  unfold dc_
  have hn:=cF_ F.Tree_ m (nl2 z)
  refine aa_ hn (ac_ ?_ (aa_ (oQ_ _ (hT_ f m)).1 rfl))
  show (!(isS F m))=false
  rw [hi]
  rfl
 rw [s1] at h1
 rw [s1,s2]
 exact ⟨h1,h1⟩
theorem statN_ids (n:api_Node) (h1:n.Mode_≤9223372036854775807):(iC_ n).Uid_=n.Uid_∧(iC_ n).Gid_=n.Gid_:=by
 have h:=(oQ_ n h1).1
 unfold dX_ at h
 obtain ⟨k,h2,h⟩:=Option.bind_eq_some_iff.1 h
 obtain ⟨o,h3,h⟩:=Option.bind_eq_some_iff.1 h
 obtain ⟨b,h4,h3⟩:=Option.bind_eq_some_iff.1 h3
 obtain rfl:=Option.some.inj h
 cases b with
 | true =>
  have h5:=Option.some.inj h3
  rw [← h5]
  exact ⟨rfl,rfl⟩
 | false =>
  have h5:=Option.some.inj h3
  rw [← h5]
  exact ⟨rfl,rfl⟩
theorem Stat_eq {s:api_SnapSrv} (h:Ok17 s) (z:SizeOK s.Files_) {id:Int} (hid:I64 id):∃ r,dw_ s id=some r∧gq_ s id=some r:=by
 have hsl:=h.sl
 unfold dw_ gq_
 rcases look h z hid with ⟨hA,l1,l2⟩ | ⟨_,⟨p,l1⟩,l2⟩ | ⟨F,k,f⟩
 ·have hroot:isS s.Files_ 1=true:=by
   obtain ⟨r,q,e,r1,_⟩:=h.files.tr.root
   have hm:r∈s.Files_.Tree_.Nodes_:=by rw [e]; exact List.mem_cons_self
   have:=qn_ h.files.tr.srt hm
   rw [r1] at this
   show (ax_ s.Files_.Tree_.Nodes_ 1).2=true
   rw [this]
  obtain ⟨s1,_⟩:=sc_ h.files z hroot
  obtain ⟨u1,u2⟩:=statN_ids (bY_ s.Files_ 1) (hT_ h.files 1)
  have hlt:decide (id<1048576)=true:=by rcases hA with rfl | rfl <;> rfl
  have hn:=cl_ s.Files_.Tree_ 1 (nl2 z)
  have e1:∀ (d:api_Dir) (o:Option api_Dir),o=some d→(o.bind fun o1=>some (o1,(0:Int)))=some (d,0):=fun d o e=>by rw [e]; rfl
  by_cases h2:(id==2)=true
  ·refine ⟨(api_Dir.mk 2 0 (api_Qid.mk 128 0 id) 2147484013 0 0 0 [97,114,99,104,105,118,101] (bY_ s.Files_ 1).Uid_ (bY_ s.Files_ 1).Gid_ [],0),aa_ l1 (ac_ rfl (ag_ rfl (aa_ s1 (e1 _ _ (ag_ h2 ?_))))),aa_ l2 (ac_ rfl (ag_ hlt (aa_ hn (e1 _ _ (ag_ h2 rfl)))))⟩
   rw [← u1,← u2]
  ·have h2':=Bool.eq_false_iff.2 h2
   refine ⟨(api_Dir.mk 2 0 (api_Qid.mk 128 0 id) 2147484013 0 0 0 [47] (bY_ s.Files_ 1).Uid_ (bY_ s.Files_ 1).Gid_ [],0),aa_ l1 (ac_ rfl (ag_ rfl (aa_ s1 (e1 _ _ (ac_ h2' ?_))))),aa_ l2 (ac_ rfl (ag_ hlt (aa_ hn (e1 _ _ (ac_ h2' rfl)))))⟩
   rw [← u1,← u2]
 ·exact ⟨_,aa_ l1 (ag_ rfl rfl),aa_ l2 (ag_ rfl rfl)⟩
 ·obtain ⟨s1,s2⟩:=sc_ f.ok f.size f.is
  have k1:=f.k1
  have kl:=f.kl
  have ge:=f.ge
  rw [f.kk]
  generalize iC_ (bY_ F (id.tmod 1048576))=D at s1 s2
  have hge:decide (id<1048576)=false:=by simpa using ge
  have hk0:(k==0)=false:=by simp; omega
  have e1:∀ (d:api_Dir) (o:Option api_Dir),o=some d→(o.bind fun o1=>some (o1,(0:Int)))=some (d,0):=fun d o e=>by rw [e]; rfl
  by_cases hm:((id.tmod 1048576)==1)=true
  ·by_cases hk:k=1
   ·refine ⟨(api_Dir.mk 2 D.Dev_ (api_Qid.mk D.Qid_.Type_ D.Qid_.Vers_ id) D.Mode_ D.Atime_ D.Mtime_ D.Length_ [97,99,116,105,118,101] D.Uid_ D.Gid_ D.Muid_,0),aa_ f.find (ac_ rfl (ac_ hk0 (aa_ s1 (ac_ rfl (e1 _ _ (ag_ (by rw [hm]; simp [hk]) rfl)))))),aa_ f.ex (ac_ rfl (ac_ hge (aa_ f.srv (aa_ s2 (e1 _ _ (ag_ hm ?_))))))⟩
    rw [hk]
    rfl
   ·obtain ⟨x,hx,hg⟩:=f.snap (by omega)
    obtain ⟨t1,t2⟩:=oY_ h hx
    refine ⟨(api_Dir.mk 2 D.Dev_ (api_Qid.mk D.Qid_.Type_ D.Qid_.Vers_ id) D.Mode_ D.Atime_ D.Mtime_ D.Length_ (txtS x) D.Uid_ D.Gid_ D.Muid_,0),aa_ f.find (ac_ rfl (ac_ hk0 (aa_ s1 (ac_ rfl (e1 _ _ (ac_ (by rw [hm]; simp [hk]) (ag_ hm (aa_ hg (aa_ t1 rfl))))))))),aa_ f.ex (ac_ rfl (ac_ hge (aa_ f.srv (aa_ s2 (e1 _ _ (ag_ hm (aa_ (a:=txtS x) ?_ rfl)))))))⟩
    unfold fl_
    exact ac_ (by simpa using hk) (aa_ hg (aa_ t2 rfl))
  ·have hm':=Bool.eq_false_iff.2 hm
   exact ⟨(api_Dir.mk 2 D.Dev_ (api_Qid.mk D.Qid_.Type_ D.Qid_.Vers_ id) D.Mode_ D.Atime_ D.Mtime_ D.Length_ D.Name_ D.Uid_ D.Gid_ D.Muid_,0),aa_ f.find (ac_ rfl (ac_ hk0 (aa_ s1 (ac_ rfl (e1 _ _ (ac_ (by rw [hm']; rfl) (ac_ hm' rfl))))))),aa_ f.ex (ac_ rfl (ac_ hge (aa_ f.srv (aa_ s2 (e1 _ _ (ac_ hm' rfl))))))⟩
noncomputable def stD (s:api_SnapSrv) (id:Int):api_Dir:=match dw_ s id with
 | some r=>r.1
 | none=>default
theorem stD_eq {s:api_SnapSrv} (h:Ok17 s) (z:SizeOK s.Files_) {id:Int} (hid:I64 id):∃ e,dw_ s id=some (stD s id,e)∧gq_ s id=some (stD s id,e):=by
 obtain ⟨r,s1,s2⟩:=Stat_eq h z hid
 have:stD s id=r.1:=by unfold stD; rw [s1]
 exact ⟨r.2,by rw [this]; exact s1,by rw [this]; exact s2⟩
theorem dirs_P {s:api_SnapSrv} (h:Ok17 s) (z:SizeOK s.Files_) {l:List Int} (hl:l.length≤2000) (hid:∀ x∈l,I64 x):aj_ (e5_ l s) BIG (0,[],l)=some (l.map (stD s))∧aj_ (hj_ l s) BIG (0,l,[])=some (l.map (stD s)):=by
 have hroom:∀ i (hi:i<l.length),room 136 ((l.take i).map (stD s)) [stD s l[i]]=some ((l.take (i+1)).map (stD s)):=fun i hi=>by
  rw [cr_ (by simp; omega) (by simp; omega),List.take_succ_eq_append_getElem hi,List.map_append]
  rfl
 constructor
 ·refine aJ_ (T:=fun i=>((i:Int),(l.take i).map (stD s),l)) l.length (bd_ (by omega)) (fun i hi => ?_) ?_
  ·obtain ⟨e,s1,_⟩:=stD_eq h z (hid _ (List.getElem_mem hi))
   unfold e5_
   refine ag_ (bm_ hi) (aa_ (ap_ hi) (aa_ s1 (aa_ (hroom i hi) ?_)))
   rw [as_ (by omega)]
  ·unfold e5_
   refine ac_ (br_ _) ?_
   rw [List.take_length]
 ·refine aJ_ (T:=fun i=>((i:Int),l,(l.take i).map (stD s))) l.length (bd_ (by omega)) (fun i hi => ?_) ?_
  ·obtain ⟨e,_,s2⟩:=stD_eq h z (hid _ (List.getElem_mem hi))
   unfold hj_
   refine ag_ (bm_ hi) (aa_ (ap_ hi) (aa_ s2 (aa_ (hroom i hi) ?_)))
   rw [as_ (by omega)]
  ·unfold hj_
   refine ac_ (br_ _) ?_
   rw [List.take_length]
def topJ (i:Nat):Int:=(2+(i:Int))*1048576+1
theorem tops_P {s:api_SnapSrv} (h:Ok17 s):aj_ (e3_ s) BIG (0,[])=some ((List.range s.Snaps_.length).map topJ)∧aj_ (eb_ s 2) BIG (0,[])=some ((List.range s.Snaps_.length).map topJ):=by
 have hsl:=h.sl
 have hroom:∀ i (hi:i<s.Snaps_.length),room 8 ((List.range i).map topJ) [topJ i]=some ((List.range (i+1)).map topJ):=fun i hi=>by
  rw [cr_ (by simp; omega) (by simp; omega),List.range_succ,List.map_append]
  rfl
 have hw:∀ i,i<s.Snaps_.length→w64 ((w64 ((w64 (2+(i:Int)))*1048576))+1)=topJ i:=fun i hi=>by
  unfold topJ
  rw [am_ (n:=2+(i:Int)) ⟨by omega,by omega⟩,am_ (n:=(2+(i:Int))*1048576) ⟨by omega,by omega⟩,am_ ⟨by omega,by omega⟩]
 constructor
 ·refine aJ_ (T:=fun i=>((i:Int),(List.range i).map topJ)) s.Snaps_.length (bd_ (by omega)) (fun i hi => ?_) ?_
  ·unfold e3_
   refine ag_ (bm_ hi) (aa_ (a:=topJ i) (congrArg some (hw i hi)) (aa_ (hroom i hi) ?_))
   rw [as_ (by omega)]
  ·unfold e3_
   exact ac_ (br_ _) rfl
 ·refine aJ_ (T:=fun i=>((i:Int),(List.range i).map topJ)) s.Snaps_.length (bd_ (by omega)) (fun i hi => ?_) ?_
  ·unfold eb_
   simp only [hw i hi]
   refine ag_ (by simpa using hi) (aa_ (hroom i hi) ?_)
   rw [as_ (by omega)]
  ·unfold eb_
   exact ac_ (by simp) rfl
theorem same_dirs11 (l:List api_Dir) (hl:l.length≤2000):kG_ l l=some true:=by
 unfold kG_
 refine ac_ (by simp) ?_
 have hlp:=aJ_ (body:=hk_ l l) (T:=fun i=>(i:Int)) (b:=Out.fall ()) l.length (bd_ (by omega)) (fun i hi => ?_) ?_
 ·exact aa_ hlp rfl
 ·unfold hk_
  refine ag_ (bm_ hi) (aa_ (ap_ hi) (aa_ (ap_ hi) (ac_ (by simp) ?_)))
  rw [as_ (by omega)]
 ·unfold hk_
  exact ac_ (br_ _) rfl
theorem pP_ {F:api_FileSrv} (f:FileOK F) {id x:Int} (hx:x∈b5_ F.Tree_.Nodes_ id):1≤x∧x≤1048576:=by
 obtain ⟨n,hn,e,_⟩:=child_of f.tr hx
 have h1:=f.tr.ge hn
 have h2:=f.tr.nxt n hn
 have h3:=f.tr.nx2
 omega
theorem kids_P {F:api_FileSrv} (f:FileOK F) (z:SizeOK F) {id m k:Int} (hm:m=id.tmod 1048576) (hk:id=k*1048576+m) (k1:1≤k) (k2:k≤1000) (b:Bool) :
  aj_ (e4_ (b5_ F.Tree_.Nodes_ m) (snapshot_place.mk F k m,b)) BIG (0,[],b5_ F.Tree_.Nodes_ m)=some ((b5_ F.Tree_.Nodes_ m).map fun n=>k*1048576+n)∧aj_ (hh_ (b5_ F.Tree_.Nodes_ m) id) BIG (0,[],b5_ F.Tree_.Nodes_ m)=some ((b5_ F.Tree_.Nodes_ m).map fun n=>k*1048576+n):=by
 have hl:=r7_ F.Tree_.Nodes_ m
 have hsm:=fun x (hx:x∈b5_ F.Tree_.Nodes_ m)=>pP_ f hx
 have hnl:=z.nl
 generalize b5_ F.Tree_.Nodes_ m=l at *
 have hroom:∀ i (hi:i<l.length),room 8 ((l.take i).map fun n=>k*1048576+n) [k*1048576+l[i]]=some ((l.take (i+1)).map fun n=>k*1048576+n):=fun i hi=>by
  rw [cr_ (by simp; omega) (by simp; omega),List.take_succ_eq_append_getElem hi,List.map_append]
  rfl
 constructor
 ·refine aJ_ (T:=fun i=>((i:Int),(l.take i).map (fun n=>k*1048576+n),l)) l.length (bd_ (by omega)) (fun i hi => ?_) ?_
  ·have hs:=hsm _ (List.getElem_mem hi)
   unfold e4_
   refine ag_ (bm_ hi) (aa_ (ap_ hi) ?_)
   show Option.bind (room 8 ((l.take i).map fun n=>k*1048576+n) [(w64 ((w64 (k*1048576))+l[i]))]) _=_
   rw [am_ (n:=k*1048576) ⟨by omega,by omega⟩,am_ (n:=k*1048576+l[i]) ⟨by omega,by omega⟩]
   refine aa_ (hroom i hi) ?_
   rw [as_ (by omega)]
  ·unfold e4_
   refine ac_ (br_ _) ?_
   rw [List.take_length]
 ·refine aJ_ (T:=fun i=>((i:Int),(l.take i).map (fun n=>k*1048576+n),l)) l.length (bd_ (by omega)) (fun i hi => ?_) ?_
  ·have hs:=hsm _ (List.getElem_mem hi)
   unfold hh_
   refine ag_ (bm_ hi) (aa_ (ap_ hi) ?_)
   rw [← hm,show id - m=k*1048576 by omega]
   show Option.bind (room 8 ((l.take i).map fun n=>k*1048576+n) [(w64 ((w64 (k*1048576))+l[i]))]) _=_
   rw [am_ (n:=k*1048576) ⟨by omega,by omega⟩,am_ (n:=k*1048576+l[i]) ⟨by omega,by omega⟩]
   refine aa_ (hroom i hi) ?_
   rw [as_ (by omega)]
  ·unfold hh_
   refine ac_ (br_ _) ?_
   rw [List.take_length]
theorem List_eq {s:api_SnapSrv} (h:Ok17 s) (z:SizeOK s.Files_) {id:Int} (hid:I64 id):∃ r,hg_ s id=some r∧kF_ s id=some r∧r.1.length≤2000:=by
 have hsl:=h.sl
 unfold hg_ kF_
 rcases look h z hid with ⟨hA,l1,l2⟩ | ⟨_,⟨p,l1⟩,l2⟩ | ⟨F,k,f⟩
 ·obtain ⟨d1,d2⟩:=zero_dir (s:=s) hA
  rcases hA with rfl | rfl
  ·obtain ⟨p1,p2⟩:=dirs_P h z (l:=[1048577,2]) (by simp) (fun x hx=>by simp at hx; omega)
   refine ⟨_,aa_ l1 (ac_ rfl (aa_ d1 (ac_ rfl (aa_ (a:=[1048577,2]) rfl (aa_ p1 rfl))))),aa_ l2 (ac_ rfl (aa_ d2 (ac_ rfl (aa_ (a:=[1048577,2]) rfl (aa_ (a:=[1048577,2]) ?_ (aa_ (a:=[1048577,2]) rfl (aa_ p2 rfl))))))),by simp⟩
   refine aO_ (n:=18446744073709551615) ?_
   unfold eb_
   exact ac_ (by simp) rfl
  ·obtain ⟨t1,t2⟩:=tops_P h
   obtain ⟨p1,p2⟩:=dirs_P h z (l:=(List.range s.Snaps_.length).map topJ) (by simp; omega) (fun x hx=>by
    obtain ⟨i,hi,rfl⟩:=List.mem_map.1 hx
    have:=List.mem_range.1 hi
    unfold topJ
    omega)
   exact ⟨_,aa_ l1 (ac_ rfl (aa_ d1 (ac_ rfl (aa_ (ac_ rfl (ag_ rfl (aa_ t1 rfl))) (aa_ p1 rfl))))),aa_ l2 (ac_ rfl (aa_ d2 (ac_ rfl (aa_ (a:=[]) rfl (aa_ t2 (aa_ (a:=(List.range s.Snaps_.length).map topJ) rfl (aa_ p2 rfl))))))),by simp; omega⟩
 ·exact ⟨_,aa_ l1 (ag_ rfl rfl),aa_ l2 (ag_ rfl rfl),by simp⟩
 ·obtain ⟨d1,d2⟩:=f.dir
  have k1:=f.k1
  have kl:=f.kl
  have ge:=f.ge
  have hm1:1≤id.tmod 1048576:=by
   have:=f.ok.tr.ge (c8_ f.is).1
   rw [(c8_ f.is).2] at this
   exact this
  have hdm:id=k*1048576+id.tmod 1048576:=by
   have e1:=Int.tdiv_mul_add_tmod id 1048576
   have e2:IntKind.i64.wrap (id.tdiv 1048576)=id.tdiv 1048576:=by
    have:=hid.2
    rw [Int.tdiv_eq_ediv_of_nonneg (by omega),c0_ ⟨by omega,by omega⟩]
   have e3:=f.kk
   rw [e2] at e3
   rw [e3] at e1
   exact e1.symm
  have hgt:decide (id>1048576)=true:=by
   simp only [decide_eq_true_eq]
   omega
  rw [f.kk]
  cases hd:dirF F (id.tmod 1048576) with
  | false =>
   rw [hd] at d1 d2
   exact ⟨_,aa_ f.find (ac_ rfl (aa_ d1 (ag_ rfl rfl))),aa_ f.ex (ac_ rfl (aa_ d2 (ag_ rfl rfl))),by simp⟩
  | true =>
   rw [hd] at d1 d2
   obtain ⟨q1,q2⟩:=kids_P f.ok f.size rfl hdm k1 (by omega) true
   have hcl:=r7_ F.Tree_.Nodes_ (id.tmod 1048576)
   have hnl:=f.size.nl
   obtain ⟨p1,p2⟩:=dirs_P h z (l:=(b5_ F.Tree_.Nodes_ (id.tmod 1048576)).map fun n=>k*1048576+n) (by simp; omega) (fun x hx=>by
    obtain ⟨y,hy,rfl⟩:=List.mem_map.1 hx
    have:=pP_ f.ok hy
    show -9223372036854775808≤k*1048576+y∧k*1048576+y≤9223372036854775807
    omega)
   have n1:(id==1)=false:=by simp; omega
   have n2:(id==2)=false:=by simp; omega
   refine ⟨_,aa_ f.find (ac_ rfl (aa_ d1 (ac_ rfl (aa_ (ac_ n1 (ac_ n2 (aa_ (qo_ F.Tree_ _ f.ok.tr) (aa_ q1 rfl)))) (aa_ p1 rfl))))),aa_ f.ex (ac_ rfl (aa_ d2 (ac_ rfl (aa_ (a:=[]) (ac_ n1 rfl) (aa_ (a:=[]) ?_ (aa_ (ag_ hgt (aa_ f.srv (aa_ (pw_ F.Tree_ _ f.ok.tr) (aa_ q2 rfl)))) (aa_ p2 rfl))))))),by simp; omega⟩
   refine aO_ (n:=18446744073709551615) ?_
   unfold eb_
   exact ac_ (by rw [n2]; simp) rfl
theorem n0_ (x0:api_SnapSrv) (x1:Str) (x2:Int) (x3:Str) (x4:Int) (x5:Int) (h0:Fit te (.st snapN) x0) (_:Fit te .str x1) (h2:Fit te (.int .i64) x2) (_:Fit te .str x3) (h4:Fit te (.int .i64) x4) (_:Fit te (.int .i64) x5):d1_ x0 x1 x2 x3 x4 x5=some true:=by
 have hid:I64 x2:=(h2 0).1
 have ho:x4≤9223372036854775807:=(h4 0).1.2
 obtain ⟨f1,f2,f3⟩:=srv_fit h0
 unfold d1_
 have hA:(law17_awake.bind fun y4=>some y4)=some true:=by rw [awake_eq]; rfl
 obtain ⟨b,h1,hs⟩:=small_eq x0
 refine aa_ h1 ?_
 cases hc:((!b)||(decide ((x1.length:Int)>200)))||(decide ((x3.length:Int)>200)) with
 | true=>exact aa_ (a:=true) rfl hA
 | false =>
  simp only [Bool.or_eq_false_iff,Bool.not_eq_false',decide_eq_false_iff_not] at hc
  have sm:=hs hc.1.1
  have z:=sm.size f1 f2
  obtain ⟨c,e1,e2⟩:=Right_eq x0 z f3 sm.bl
  refine aa_ (a := !c) (ac_ rfl (aa_ e1 rfl)) ?_
  cases c with
  | false=>exact hA
  | true =>
   have h:=e2.1 rfl
   obtain ⟨r1,a1,a2⟩:=Walk_eq h z x1 hid x3 (by omega)
   obtain ⟨r2,b1,b2⟩:=Read_eq h z hid x4 x5 ho
   obtain ⟨r3,c1,c2⟩:=Stat_eq h z hid
   obtain ⟨r4,d1,d2,d3⟩:=List_eq h z hid
   exact ac_ rfl (aa_ a1 (aa_ a2 (ac_ (by simp) (aa_ b1 (aa_ b2 (ac_ (by simp) (aa_ c1 (aa_ c2 (ac_ (by simp) (aa_ d1 (aa_ d2 (aa_ (a:=true) (ag_ (by simp) (aa_ (same_dirs11 r4.1 d3) rfl)) (aa_ (a:=true) (ag_ rfl hA) rfl)))))))))))))
end Go.Proofs.YtebokaoegomboaaGreatDoor
