/-
 What the statements of this seat hang on,part 8: Bf Bg Bh Bi Bj Bk Bl Bm Bn Bo Bp Bq Br Bu Bv Bw Bx By Bz Eb Ec Ed Ee Ef Eg Eh Ea Ei.
-/
import Derived.Test.YtfbcbakhdkppoaaGreatDoorWA7
import Derived.KernelRfl
namespace Go.Proofs.YtfbcbakhdkppoaaGreatDoor
open Go.Rt Go.RowKit
def rp(C:List Xz)(i g:Nat)(b:Bool):Xx:=Xx.mk C (i:Int) (g:Int) b
theorem rpE(C:List Xz)(i g:Nat)(b:Bool):Xx.mk C (i:Int) (g:Int) b=rp C i g b:=rfl
theorem kO_{s:Str}{p:Xx}(h:p.Xi=true)(k:Int):bF_ s p k=some (false,p):=by
 unfold bF_;rw[h];rfl
theorem is_eq{s:Str}{C:List Xz}{i g:Nat}{c:UInt8}{k:Int}(hk:k=(c.toNat:Int)):bF_ s (rp C i g false) k=some (decide (s[i]? = some c),rp C i g false):=by
 subst hk;unfold bF_ rp;simp only[Bool.not_false,Bool.true_and];by_cases hi:i<s.length
 .rw[decide_eq_true (by omega),cond_true,cs_ hi];simp only[qBs];rw[bO_,List.getElem?_eq_getElem hi];by_cases h:s[i]=c
  .rw[beq_iff_eq.2 h,decide_eq_true (by rw[h])]
  .rw[beq_eq_false_iff_ne.2 h,decide_eq_false (λe=>h (qSj e))]
 .rw[decide_eq_false (by omega),cond_false,List.getElem?_eq_none (by omega)];rfl
theorem is_t{s:Str}{C:List Xz}{i g:Nat}{c:UInt8}{k:Int}(hk:k=(c.toNat:Int))(h:s[i]? = some c):bF_ s (rp C i g false) k=some (true,rp C i g false):=by
 rw[is_eq hk,decide_eq_true h]
theorem is_f{s:Str}{C:List Xz}{i g:Nat}{c:UInt8}{k:Int}(hk:k=(c.toNat:Int))(h:s[i]? ≠ some c):bF_ s (rp C i g false) k=some (false,rp C i g false):=by
 rw[is_eq hk,decide_eq_false h]
theorem cY_{C:List Xz}{i g:Int}{b:Bool}{x:Xz}(h:C.length<=100000):aL_ (Xx.mk C i g b) x=some (Xx.mk (C++[x]) i g b):=by
 unfold aL_;simp only[];rw[bv_ (by simp only[qLc,List.length_nil];omega) (by simp only[qLc,List.length_nil];omega)];rfl
def rchar (s:Str) (L:List Xz) (i g:Int) (b:Bool):Option (Int×(List Xz)×Int×Int×Bool) :=
 (an_ s i).bind λy22 =>
 (bif(y22 != 92)then
  some (y22,L,(w64 (i+1)),g,b)
 else
  (bif((w64 (i+1))==(s.length:Int))then
   some (0,L,(w64 (i+1)),g,true)
  else
   (an_ s (w64 (i+1))).bind λy23 =>
   (bif(y23==110)then
    some (10,L,(w64 ((w64 (i+1))+1)),g,b)
   else
    (bif(y23==116)then
     some (9,L,(w64 ((w64 (i+1))+1)),g,b)
    else
     some (y23,L,(w64 ((w64 (i+1))+1)),g,b)))))
def chO(L:List Xz)(g:Int):CR->Int×(List Xz)×Int×Int×Bool | .err e=>(0,L,(e:Int),g,true) | .ok b q=>((b.toNat:Int),L,(q:Int),g,false)
def escC(s:Str)(i:Nat)(c:UInt8):CR:=if c=92 then escS s i else .ok c (i+1)
theorem bM_{s:Str}{i:Nat}{c:UInt8}(h:s[i]? = some c):an_ s (i:Int)=some (c.toNat:Int):=by
 rw[byteI_nat,h];rfl
theorem rchar_eq{s:Str}{L:List Xz}{i:Nat}{g:Int}{c:UInt8}(hs:s.length<=1000)(h:s[i]? = some c):rchar s L (i:Int) g false=some (chO L g (escC s i c)):=by
 have hlt:=av_ h;unfold rchar escC;rw[bM_ h];simp only[qBs];have k1:((c.toNat:Int) != 92)=(c != 92):=by
  have:((c.toNat:Int)==92)=(c==92):=bO_ c 92;unfold bne;rw[this]
 rw[k1,ai_ (by omega)];by_cases h92:c=92
 .subst h92;rw[if_pos rfl];simp only[bne_self_eq_false,cond_false];unfold escS;cases h1:s[i+1]? with
  | none =>
   have:=List.getElem?_eq_none_iff.1 h1;rw[beq_iff_eq.2 (by omega:((i+1:Nat):Int)=(s.length:Int))];rfl
  | some d =>
   have hlt1:=av_ h1;rw[beq_eq_false_iff_ne.2 (by omega:((i+1:Nat):Int)≠(s.length:Int)),cond_false,bM_ h1];simp only[qBs];rw[ai_ (by omega)];have k2:((d.toNat:Int)==110)=(d==110):=bO_ d 110;have k3:((d.toNat:Int)==116)=(d==116):=bO_ d 116;rw[k2,k3];unfold escB;by_cases h2:d=110
   .subst h2;rfl
   .rw[beq_eq_false_iff_ne.2 h2,if_neg h2,cond_false];by_cases h3:d=116
    .subst h3;rfl
    .rw[beq_eq_false_iff_ne.2 h3,if_neg h3,cond_false];rfl
 .rw[if_neg h92,bne_iff_ne.2 h92,cond_true];rfl
theorem kh_(x0:Str)(s2:Int×Int×Bool×(List Xz)×(List Int)):fM_ x0 s2 =
 Option.bind (bif(decide (s2.1<(x0.length:Int)))then 
  (an_ x0 s2.1).bind λy17 =>
  some ((y17 != 93)||((s2.2.2.2.2.length:Int)==0))
   else some false) λ(y18:Bool) =>
 (bif y18 then
  (an_ x0 s2.1).bind λy19 =>
  Option.bind (bif(y19==93)then some true else 
   (an_ x0 s2.1).bind λy20 =>
   some (y20==45)
   ) λ(y21:Bool) =>
  (bif y21 then
   some (.done (.ret ((Xx.mk s2.2.2.2.1 s2.1 s2.2.1 true))))
  else
   Option.bind (rchar x0 s2.2.2.2.1 s2.1 s2.2.1 s2.2.2.1) λ(o5:Int×(List Xz)×Int×Int×Bool) =>
   Option.bind (
    (bF_ x0 (Xx.mk o5.2.1 o5.2.2.1 o5.2.2.2.1 o5.2.2.2.2) 45).bind λy24 =>
    (bif y24.1 then
     Option.bind (bif((w64 (o5.2.2.1+1))==(x0.length:Int))then some true else 
      (an_ x0 (w64 (o5.2.2.1+1))).bind λy25 =>
      some (y25==93)
      ) λ(y26:Bool) =>
     Option.bind (bif y26 then some true else 
      (an_ x0 (w64 (o5.2.2.1+1))).bind λy27 =>
      some (y27==45)
      ) λ(y28:Bool) =>
     (bif y28 then
      some (.ret ((Xx.mk y24.2.L_ (w64 (o5.2.2.1+1)) o5.2.2.2.1 true)))
     else
      Option.bind (rchar x0 y24.2.L_ (w64 (o5.2.2.1+1)) o5.2.2.2.1 o5.2.2.2.2) λ(o6:Int×(List Xz)×Int×Int×Bool) =>
      (bif((!o6.2.2.2.2)&&(decide (o6.1<o5.1)))then
       some (.fall (o6.1,o6.2.1,(maxI (w64 (o5.2.2.1+1)) (w64 (o6.2.2.1-1))),o6.2.2.2.1,true))
      else
       some (.fall (o6.1,o6.2.1,o6.2.2.1,o6.2.2.2.1,o6.2.2.2.2))))
    else
     some (.fall (o5.1,y24.2.L_,o5.2.2.1,o5.2.2.2.1,o5.2.2.2.2)))
    ) λ(wo7:Out (Int×(List Xz)×Int×Int×Bool) Xx)=>match wo7 with
   | .ret r7=>some (.done (.ret r7))
   | .fall o7 =>
    (bif o7.2.2.2.2 then
     some (.done (.ret ((Xx.mk o7.2.1 o7.2.2.1 o7.2.2.2.1 o7.2.2.2.2))))
    else
     (room 1 s2.2.2.2.2 [o5.1,o7.1]).bind λy31 =>
     some (.next (o7.2.2.1,o7.2.2.2.1,o7.2.2.2.2,o7.2.1,y31))))
 else
  some (.done (.fall (s2.1,s2.2.1,s2.2.2.1,s2.2.2.2.1,s2.2.2.2.2)))):=rfl
theorem u8_ne(c k:UInt8):((c.toNat:Int) != (k.toNat:Int))=(c != k):=by
 unfold bne;rw[bO_]
theorem lK_{s:Str}{i:Nat}{set:Str}:(bif(decide ((i:Int)<(s.length:Int)))then 
  (an_ s (i:Int)).bind λy17 =>
  some ((y17 != 93)||(((aG_ set).length:Int)==0))
   else some false)=some (decide (i<s.length)&&decide (¬(set≠[]/\s[i]? = some 93))):=by
 by_cases hi:i<s.length
 .rw[decide_eq_true (by omega),cond_true,cs_ hi,decide_eq_true hi,Bool.true_and];simp only[qBs];have k1:((s[i].toNat:Int) != 93)=(s[i] != 93):=u8_ne _ 93;rw[k1,List.getElem?_eq_getElem hi,ay_]
  congr 1
  cases set with
  | nil=>simp
  | cons b l => 
   simp only[qLc];rw[show(((l.length+1:Nat):Int)==0)=false from beq_eq_false_iff_ne.2 (by omega),Bool.or_false];by_cases h:s[i]=93
   .rw[h];simp
   .rw[bne_iff_ne.2 h,decide_eq_true];exact λe=>h (qSj e.2)
 .rw[decide_eq_false (by omega),cond_false,decide_eq_false hi,Bool.false_and]
def PairO(L:List Xz)(g:Nat)(set:Str):PR2->Step (Int×Int×Bool×(List Xz)×(List Int)) (Out (Int×Int×Bool×(List Xz)×(List Int)) Xx) | .err e => .done (.ret (rp L e g true)) | .ok a b q => .next ((q:Int),(g:Int),false,L,aG_ (set++[a,b]))
theorem rcls_step {s:Str} (hs:s.length<=1000) {i g:Nat} {L:List Xz} {set:Str} (hset:set.length<=100000) (hi:i<s.length) (h0:¬(set≠[]/\s[i]? = some 93)):fM_ s ((i:Int),(g:Int),false,L,aG_ set)=some (PairO L g set (eC_ s i)):=by
 rw[kh_];simp only[];rw[lK_,decide_eq_true hi,decide_eq_true h0];obtain⟨c,hc⟩:∃c,s[i]? = some c:=⟨s[i],List.getElem?_eq_getElem hi⟩;simp only[qBs,Bool.and_self,cond_true];rw[bM_ hc];simp only[qBs];have k1:((c.toNat:Int)==93)=(c==93):=bO_ c 93;have k2:((c.toNat:Int)==45)=(c==45):=bO_ c 45;rw[k1,k2];by_cases h1:c=93
 .subst h1;unfold eC_ chS;rw[hc];rfl
 .rw [beq_eq_false_iff_ne.2 h1,cond_false];simp only[qBs];by_cases h2:c=45
  .subst h2;unfold eC_ chS;rw[hc];rfl
  .rw [beq_eq_false_iff_ne.2 h2,cond_false,rchar_eq hs hc];have ech:chS s i=escC s i c:=by
    unfold chS escC;rw[hc];simp only[];rw[if_neg (by rintro(h|h)<;>contradiction)]
   unfold eC_;rw[ech];have hlen:=λb q (e:chS s i = .ok b q)=>gX_ e
   rw[ech]at hlen;cases he:escC s i c with
   | err e => 
    simp only[qBs,chO];rw[kO_ rfl];rfl
   | ok a p =>
    have hp:=hlen a p he;simp only[qBs,chO];rw[rpE,is_eq (c:=45) (k:=45) rfl];simp only[qBs];have hroom:∀x:Int,room 1 (aG_ set) [(a.toNat:Int),x]=some (aG_ set++[(a.toNat:Int),x]):=λx=>bv_ (by rw[ay_];simp only[qLc,List.length_nil];omega) (by rw[ay_];simp only[qLc,List.length_nil];omega)
    have hcat:∀b:UInt8,aG_ set++[(a.toNat:Int),(b.toNat:Int)]=aG_ (set++[a,b]):=λb=>by unfold aG_;rw[List.map_append];rfl
    by_cases h3:s[p]? = some 45
    .have hp3:=av_ h3;rw[decide_eq_true h3,if_pos h3];simp only[cond_true];rw[ai_ (by omega)];cases h4:s[p+1]? with
     | none =>
      have:=List.getElem?_eq_none_iff.1 h4;rw[beq_iff_eq.2 (by omega:((p+1:Nat):Int)=(s.length:Int))];unfold chS;rw[h4];rfl
     | some d =>
      have hp4:=av_ h4;rw[beq_eq_false_iff_ne.2 (by omega:((p+1:Nat):Int)≠(s.length:Int)),cond_false,bM_ h4];simp only[qBs];have k3:((d.toNat:Int)==93)=(d==93):=bO_ d 93;have k4:((d.toNat:Int)==45)=(d==45):=bO_ d 45;rw[k3,k4];by_cases h5:d=93
      .subst h5;unfold chS;rw[h4];rfl
      .rw [beq_eq_false_iff_ne.2 h5,cond_false];simp only[qBs];by_cases h6:d=45
       .subst h6;unfold chS;rw[h4];rfl
       .rw [beq_eq_false_iff_ne.2 h6,cond_false,rchar_eq hs h4];have ech2:chS s (p+1)=escC s (p+1) d:=by
         unfold chS escC;rw[h4];simp only[];rw[if_neg (by rintro(h|h)<;>contradiction)]
        rw[ech2];have hlen2:=λb q (e:chS s (p+1) = .ok b q)=>gX_ e
        rw[ech2]at hlen2;cases he2:escC s (p+1) d with
        | err e=>rfl
        | ok b q =>
         have hq:=hlen2 b q he2;simp only[qBs,chO,Bool.not_false,Bool.true_and];by_cases h7:b.toNat<a.toNat
         .rw[if_pos h7,decide_eq_true (by omega),cond_true,bb_ (n:=(q:Int)-1) ⟨by omega,by omega⟩];have:maxI ((p+1:Nat):Int) ((q:Int)-1)=((q-1:Nat):Int):=by
           unfold maxI;split<;>omega
          rw[this];rfl
         .rw[if_neg h7,decide_eq_false (by omega),cond_false];simp only[qBs,cond_false];rw[hroom,hcat];rfl
    .rw[decide_eq_false h3,if_neg h3];simp only[cond_false,qBs];rw[hroom,hcat];rfl
def rclsO(s:Str)(L:List Xz)(g:Nat):SR->Out (Int×Int×Bool×(List Xz)×(List Int)) Xx->Prop | .err e,o=>o = .ret (rp L e g true)\/(e=s.length/\∃set,o = .fall ((e:Int),(g:Int),false,L,aG_ set)) | .ok x q,o=>o = .fall (((q-1:Nat):Int),(g:Int),false,L,aG_ x)/\0<q/\q<=s.length
theorem rcls_go{s:Str}(hs:s.length<=1000){g:Nat}{L:List Xz}{i:Nat}{set:Str}{r:SR}(h:Cx s i set r):i<=s.length->∀(f:Nat),s.length-i<f->set.length+2*(s.length-i)<=5000 ->
  ∃o,af_ (fM_ s) f ((i:Int),(g:Int),false,L,aG_ set)=some o/\rclsO s L g r o:=by
 induction h with
 | @done i set h0 h =>
  intro hi f hf hl;obtain⟨f,rfl⟩:∃k,f=k+1:=⟨f-1,by omega⟩;have hlt:=av_ h;refine⟨_,bo_ (b := .fall ((i:Int),(g:Int),false,L,aG_ set)) ?_,?_,by omega,by omega⟩
  .rw[kh_];simp only[];rw[lK_,show decide (¬(set≠[]/\s[i]? = some 93))=false from decide_eq_false (λe=>e ⟨h0,h⟩),Bool.and_false];rfl
  .rfl
 | @err i set e h0 h =>
  intro hi f hf hl;obtain⟨f,rfl⟩:∃k,f=k+1:=⟨f-1,by omega⟩;rcases Nat.lt_or_ge i s.length with hlt|hge
  .refine⟨_,bo_ (b := .ret (rp L e g true)) ?_,.inl rfl⟩;rw[rcls_step hs (by omega) hlt h0,h];rfl
  .have hn:s[i]? = none:=List.getElem?_eq_none hge;have he:e=i:=by
    unfold eC_ chS at h;rw[hn]at h;injection h with h;exact h.symm
   subst he;refine⟨_,bo_ (b := .fall ((e:Int),(g:Int),false,L,aG_ set)) ?_,.inr ⟨by omega,set,rfl⟩⟩;rw[kh_];simp only[];rw[lK_,decide_eq_false (by omega:¬e<s.length),Bool.false_and];rfl
 | @next i set a b q r h0 h t ih =>
  intro hi f hf hl;obtain⟨f,rfl⟩:∃k,f=k+1:=⟨f-1,by omega⟩;have hq:=jZ_ h;have hst:=rcls_step hs (i:=i) (g:=g) (L:=L) (set:=set) (by omega) (by omega) h0;rw[h]at hst;obtain⟨o,ho,hr⟩:=ih (by omega) f (by omega) (by simp only[qLa,qLc,List.length_nil];omega);exact⟨o,b7_ hst ho,hr⟩
def rclsP(C:List Xz)(g:Nat)(n:Bool):SR->Xx | .err e=>rp C e g true | .ok x q=>rp (C++[setI x n]) q g false
theorem rclass_eq{s:Str}(hs:s.length<=1000){g:Nat}{C:List Xz}{i:Nat}{r:SR}(hi:i<s.length)(hC:C.length<=100000)(h:Cx s (clsI s (i+1)) [] r):f7_ s (rp C i g false)=some (rclsP C g (clsN s (i+1)) r):=by
 have hci:=clsI_le s (i+1) (by omega);obtain⟨o,ho,hr⟩:=rcls_go hs (g:=g) (L:=C) h hci.2 BIG (by unfold BIG;omega) (by simp only[List.length_nil];omega);unfold f7_;have e1:Xx.mk (rp C i g false).L_ (w64 ((rp C i g false).At_+1)) (rp C i g false).N_ (rp C i g false).Xi=rp C (i+1) g false:=by
  unfold rp;simp only[];rw[ai_ (by omega)]
 rw[e1,is_eq (c:=94) (k:=94) rfl];have e2:(rp C i g false).At_=(i:Int):=rfl;simp only[qBs,e2];rw[ai_ (i:=i) (by omega),ai_ (by omega)];have e3:(bif decide (s[i+1]? = some 94)then some (((i+1+1:Nat):Int),(rp C i g false).N_,(rp C i g false).Xi,(rp C (i+1) g false).L_,(Xz.mk 3 0 [] true 0 0))else some (((i+1:Nat):Int),(rp C i g false).N_,(rp C i g false).Xi,(rp C (i+1) g false).L_,(Xz.mk 3 0 [] false 0 0)))=some ((clsI s (i+1):Int),(g:Int),false,C,Xz.mk 3 0 [] (clsN s (i+1)) 0 0):=by
  unfold clsI clsN;by_cases h:s[i+1]? = some 94
  .rw[if_pos h,decide_eq_true h];rfl
  .rw[if_neg h,decide_eq_false h];rfl
 refine aq_ e3 ?_;refine aq_ ho ?_;cases r with
 | err e =>
  rcases hr with rfl|⟨he,set,rfl⟩
  .rfl
  .simp only[];rw[beq_iff_eq.2 (by omega:(e:Int)=(s.length:Int))];rfl
 | ok x q =>
  obtain⟨rfl,h1,h2⟩:=hr;simp only[];rw[beq_eq_false_iff_ne.2 (by omega:((q-1:Nat):Int)≠(s.length:Int)),cond_false,cY_ (by omega),gb_,ai_ (by omega),show q-1+1=q by omega];rfl
def ResR(s:Str)(z:Bool)(C:List Xz)(o:Option Xx):PX->Prop | .err e=>∃p,o=some p/\p.At_=(e:Int)/\(p.Xi=true\/(z=true/\p.Xi=false/\s[e]? = some 41))/\C.length<=p.L_.length | .ok a q g=>o=some (rp (C++a.code C.length) q g false)
def ResL(s:Str)(z:Bool)(C:List Xz)(o:Option (Int×Int×Bool×(List Xz))):PX->Prop | .err e=>∃(n:Int) (b:Bool) (L:List Xz),o=some ((e:Int),n,b,L)/\(b=true\/(z=true/\b=false/\s[e]? = some 41))/\C.length<=L.length | .ok a q g=>o=some ((q:Int),(g:Int),false,C++a.code C.length)
def GoR(s:Str)(k:PK)(d i g:Nat)(r:PX):Prop:=s.length<=1000->i<=s.length->g<=9->∀(C:List Xz) (n:Nat),C.length+2*(s.length-i)<=5000->match k with | .rx=>s.length-i<n->ResR s (decide (d=0)) C (aw_ n s (rp C i g false)) r | .br=>s.length-i<=n->∀f,s.length-i+1<f->ResL s (decide (d=0)) C (af_ (bz_ s (aw_ n)) f ((i:Int),(g:Int),false,C)) r | .pc=>s.length-i<=n->(∃c,s[i]? = some c/\c≠41)->ResR s false C (cU_ (aw_ n) s (rp C i g false)) r | .at=>s.length-i<=n->(∃c,s[i]? = some c/\c≠41)->ResR s false C (bf_ (aw_ n) s (rp C i g false)) r
theorem rbr_end{s:Str}{f:Str->Xx->Option Xx}{i g:Int}{C:List Xz}:bz_ s f (i,g,true,C)=some (.done (i,g,true,C)):=rfl
theorem rbr_stop{s:Str}{f:Str->Xx->Option Xx}{i:Nat}{g:Int}{C:List Xz}(h:s[i]? = none\/s[i]? = some 124\/s[i]? = some 41):bz_ s f ((i:Int),g,false,C)=some (.done ((i:Int),g,false,C)):=by
 unfold bz_;simp only[Bool.not_false,Bool.true_and];rcases h with h|h|h
 .have:=List.getElem?_eq_none_iff.1 h;rw[decide_eq_false (by omega)];rfl
 .have:=av_ h;rw[decide_eq_true (by omega),bM_ h];rfl
 .have:=av_ h;rw[decide_eq_true (by omega),bM_ h];rfl
theorem rbr_more{s:Str}{f:Str->Xx->Option Xx}{i g:Nat}{C:List Xz}{c:UInt8}(h:s[i]? = some c)(h1:c≠124)(h2:c≠41):bz_ s f ((i:Int),(g:Int),false,C)=(cU_ f s (rp C i g false)).bind λy10=>some (.next (y10.At_,y10.N_,y10.Xi,y10.L_)):=by
 have hlt:=av_ h;unfold bz_;simp only[Bool.not_false,Bool.true_and];rw[decide_eq_true (by omega),cond_true,bM_ h];simp only[qBs];have k1:((c.toNat:Int) != 124)=(c != 124):=u8_ne c 124;have k2:((c.toNat:Int) != 41)=(c != 41):=u8_ne c 41;rw[k1,k2,bne_iff_ne.2 h1,bne_iff_ne.2 h2];rfl
theorem gr_stop{s:Str}{d i g:Nat}(h:s[i]? = none\/s[i]? = some 124\/(s[i]? = some 41/\0<d)):GoR s .br d i g (.ok .emp i g):=by
 intro hs hi hg C n hC hn f hf;obtain⟨f,rfl⟩:∃k,f=k+1:=⟨f-1,by omega⟩;show _=_;rw[show C++Re.emp.code C.length=C from List.append_nil C];refine bo_ (rbr_stop ?_);rcases h with h|h|h
 .exact .inl h
 .exact .inr (.inl h)
 .exact .inr (.inr h.1)
theorem gr_par{s:Str}{i g:Nat}(h:s[i]? = some 41):GoR s .br 0 i g (.err i):=by
 intro hs hi hg C n hC hn f hf;obtain⟨f,rfl⟩:∃k,f=k+1:=⟨f-1,by omega⟩;exact⟨_,false,C,bo_ (rbr_stop (.inr (.inr h))),.inr ⟨rfl,rfl,h⟩,Nat.le_refl _⟩
theorem gr_bad{s:Str}{d i g e:Nat}{c:UInt8}(h:s[i]? = some c)(h1:c≠124)(h2:c≠41)(ih:GoR s .pc d i g (.err e)):GoR s .br d i g (.err e):=by
 intro hs hi hg C n hC hn f hf;have hlt:=av_ h;obtain⟨f,rfl⟩:∃k,f=k+1+1:=⟨f-2,by omega⟩;obtain⟨p,hp,ha,hb,hl⟩:=ih hs hi hg C n hC hn ⟨c,h,h2⟩;have hb:p.Xi=true:=by
  rcases hb with hb|hb
  .exact hb
  .exact absurd hb.1 (by decide)
 refine⟨p.N_,true,p.L_,b7_ (s':=(p.At_,p.N_,p.Xi,p.L_)) ?_ ?_,.inl rfl,hl⟩
 .rw[rbr_more h h1 h2,hp];rfl
 .rw[hb,ha];exact bo_ rbr_end
theorem gr_next{s:Str}{d i g q g1:Nat}{c:UInt8}{a:Re}{r:PX}(h:s[i]? = some c)(h1:c≠124)(h2:c≠41)(hq:RP s .pc d i g (.ok a q g1))(ih:GoR s .pc d i g (.ok a q g1))(ih2:GoR s .br d q g1 r):GoR s .br d i g (r.pre a):=by
 intro hs hi hg C n hC hn f hf;obtain⟨f,rfl⟩:∃k,f=k+1:=⟨f-1,by omega⟩;have hgood:=hq.good hi hg;simp only[PK.inc]at hgood;have hlen:(C++a.code C.length).length=C.length+a.len:=by rw[qLa,aA_]
 have hp:_=_:=ih hs hi hg C n hC hn ⟨c,h,h2⟩;have ht:=ih2 hs (by omega) (by omega) (C++a.code C.length) n (by rw[hlen];omega) (by omega) f (by omega);have hst:bz_ s (aw_ n) ((i:Int),(g:Int),false,C)=some (.next ((q:Int),(g1:Int),false,C++a.code C.length)):=by
  rw[rbr_more h h1 h2,hp];rfl
 cases r with
 | err e =>
  obtain⟨m,b,L,hp,hb,hl⟩:=ht;exact⟨m,b,L,b7_ hst hp,hb,by rw[hlen]at hl;omega⟩
 | ok b q2 g2 =>
  have ht:_=_:=ht;show _=_;refine b7_ hst ?_;rw[ht];simp only[Re.code];rw[hlen,List.append_assoc]
theorem gr_pcbad{s:Str}{d i g e:Nat}(ih:GoR s .at d i g (.err e)):GoR s .pc d i g (.err e):=by
 intro hs hi hg C n hC hn hc;obtain⟨p,hp,ha,hb,hl⟩:=ih hs hi hg C n hC hn hc;have hb:p.Xi=true:=by
  rcases hb with hb|hb
  .exact hb
  .exact absurd hb.1 (by decide)
 refine⟨p,?_,ha,.inl hb,hl⟩;unfold cU_;rw[hp];have e1:Xx.mk p.L_ p.At_ p.N_ p.Xi=p:=rfl;simp only[qBs];rw[kO_ hb];simp only[qBs,cond_false,e1];rw[kO_ hb];simp only[qBs,cond_false,e1];rw[kO_ hb];rfl
theorem rp_L(C:List Xz)(i g:Nat)(b:Bool):(rp C i g b).L_=C:=rfl
theorem e8_(C:List Xz)(i g:Nat)(b:Bool):(rp C i g b).At_=(i:Int):=rfl
theorem rp_N(C:List Xz)(i g:Nat)(b:Bool):(rp C i g b).N_=(g:Int):=rfl
theorem fo_(C:List Xz)(i g:Nat)(b:Bool):(rp C i g b).Xi=b:=rfl
theorem gr_pcok{s:Str}{d i g q g1:Nat}{a:Re}(hq:RP s .at d i g (.ok a q g1))(ih:GoR s .at d i g (.ok a q g1)):GoR s .pc d i g (post s a q g1):=by
 intro hs hi hg C n hC hn hc;have hgood:=hq.good hi hg;simp only[PK.inc]at hgood;have hp:_=_:=ih hs hi hg C n hC hn hc;have hlen:(a.code C.length).length=a.len:=aA_ a _;have hlen1:(a.code (C.length+1)).length=a.len:=aA_ a _;have hw:w64 ((C.length:Int)+1)=((C.length+1:Nat):Int):=ai_ (by omega);have hw2:w64 ((q:Int)+1)=((q+1:Nat):Int):=ai_ (by omega);show ResR s false C (cU_ (aw_ n) s (rp C i g false)) (post s a q g1);unfold cU_;rw[hp];simp only[qBs,rp_L,e8_,rp_N,fo_];unfold post;by_cases h42:s[q]? = some 42
 .rw[if_pos h42,is_t (c:=42) (k:=42) rfl h42];simp only[qBs,cond_true,rp_L];rw[hw2,lG_ rfl (by omega) hgood.2.2.2.2.2];simp only[qBs];rw[cY_ (by simp only[qLa,qLc];omega)];simp only[qBs];rw[List.append_assoc,List.cons_append,cX_ rfl];simp only[qBs];rw[eU_ (fn_ _)];show _=_;simp only[Re.code];have e1:(((C++Xz.mk 6 0 [] false (w64 ((C.length:Int)+1)) 0::(a.code (C.length+1)++[Xz.mk 7 0 [] false (C.length:Int) 0])).length:Nat):Int)=((C.length+a.len+2:Nat):Int):=by
   simp only[qLa,qLc,List.length_nil,hlen1];omega
  rw[e1,hw];rfl
 .rw [if_neg h42,is_f (c:=42) (k:=42) rfl h42];simp only[qBs,cond_false,rp_L];rw[rpE];by_cases h43:s[q]? = some 43
  .rw[if_pos h43,is_t (c:=43) (k:=43) rfl h43];simp only[qBs,cond_true,rp_L];rw[hw2,cY_ (by simp only[qLa];omega)];show _=_;simp only[Re.code,qBs];have e1:w64 (((C++a.code C.length).length:Int)+1)=((C.length+a.len+1:Nat):Int):=by
    rw[bb_ ⟨by omega,by simp only[qLa];omega⟩];simp only[qLa];omega
   rw[e1,←List.append_assoc];rfl
  .rw[if_neg h43,is_f (c:=43) (k:=43) rfl h43];simp only[qBs,cond_false,rp_L];rw[rpE];by_cases h63:s[q]? = some 63
   .rw[if_pos h63,is_t (c:=63) (k:=63) rfl h63];simp only[qBs,cond_true,rp_L];rw[hw2,lG_ rfl (by omega) hgood.2.2.2.2.2];simp only[qBs];rw[cX_ rfl];simp only[qBs];rw[eU_ (fn_ _)];show _=_;simp only[Re.code];have e1:(((C++Xz.mk 6 0 [] false (w64 ((C.length:Int)+1)) 0::a.code (C.length+1)).length:Nat):Int)=((C.length+a.len+1:Nat):Int):=by
     simp only[qLa,qLc,hlen1];omega
    rw[e1,hw];rfl
   .rw[if_neg h63,is_f (c:=63) (k:=63) rfl h63];rfl
theorem rat_many{s:Str}{d i g:Nat}(h:s[i]? = some 40)(hg9:9<=g):GoR s .at d i g (.err i):=by
 intro hs hi hg C n hC hn hc;refine⟨rp C i g true,?_,rfl,.inl rfl,Nat.le_refl _⟩;unfold bf_;rw[e8_,rp_N,bM_ h];simp only[qBs];rw[show((((40:UInt8).toNat:Int)==40))=true from rfl,cond_true,show decide ((g:Int)>=9)=true from decide_eq_true (by omega)];rfl
theorem ki_{s:Str}{i g n:Nat}{C:List Xz}(h:s[i]? = some 40)(hs:s.length<=1000)(hg:g<9)(hC:C.length<=5000) :
  bf_ (aw_ n) s (rp C i g false)=(aw_ n s (rp (C++[aM_ (2*(g+1))]) (i+1) (g+1) false)).bind λy3 =>
    (bF_ s y3 41).bind λy4 =>
    (bif(!y4.1)then
     some (Xx.mk y4.2.L_ y3.At_ y3.N_ true)
    else
     Option.bind (aL_ (Xx.mk y4.2.L_ y3.At_ y3.N_ y3.Xi) (aM_ (2*(g+1)+1))) λ(y5:Xx) =>
     some (Xx.mk y5.L_ (w64 (y5.At_+1)) y5.N_ y5.Xi)):=by
 have hlt:=av_ h;unfold bf_;rw[e8_,rp_N,rp_L,fo_,bM_ h];simp only[qBs];have e2:w64 (2*(((g+1:Nat):Int)))=((2*(g+1):Nat):Int):=by
  rw[bb_ ⟨by omega,by omega⟩];omega
 have e3:w64 (((2*(g+1):Nat):Int)+1)=((2*(g+1)+1:Nat):Int):=ai_ (by omega);rw[show((((40:UInt8).toNat:Int)==40))=true from rfl,cond_true,show decide ((g:Int)>=9)=false from decide_eq_false (by omega),cond_false,ai_ (i:=g) (by omega),e2,e3,ai_ (i:=i) (by omega),cY_ (by omega)];simp only[qBs];show Option.bind ((aw_ n s (rp (C++[aM_ (2*(g+1))]) (i+1) (g+1) false)).bind _) _=_;cases aw_ n s (rp (C++[aM_ (2*(g+1))]) (i+1) (g+1) false)with
 | none=>rfl
 | some y3 =>
  simp only[qBs];cases bF_ s y3 41 with
  | none=>rfl
  | some y4 =>
   simp only[qBs];cases y4.1 with
   | false=>rfl
   | true =>
    simp only[Bool.not_true,cond_false];show Option.bind (Option.bind (aL_ _ (aM_ (2*(g+1)+1))) _) _=_;cases aL_ (Xx.mk y4.2.L_ y3.At_ y3.N_ y3.Xi) (aM_ (2*(g+1)+1))<;>rfl
theorem rat_inner{s:Str}{d i g e:Nat}(h:s[i]? = some 40)(hg9:g<9)(ih:GoR s .rx (d+1) (i+1) (g+1) (.err e)):GoR s .at d i g (.err e):=by
 intro hs hi hg C n hC hn hc;have hlt:=av_ h;obtain⟨p,hp,ha,hb,hl⟩:=ih hs (by omega) (by omega) (C++[aM_ (2*(g+1))]) n (by simp only[qLa,qLc,List.length_nil];omega) (by omega);have hb:p.Xi=true:=by
  rcases hb with hb|hb
  .exact hb
  .exact absurd hb.1 (by simp)
 refine⟨Xx.mk p.L_ p.At_ p.N_ true,?_,ha,.inl rfl,by simp only[qLa]at hl;show C.length<=p.L_.length;omega⟩;rw[ki_ h hs hg9 (by omega),hp];simp only[qBs];rw[kO_ hb];rfl
theorem rat_unc{s:Str}{d i g q g1:Nat}{a:Re}(h:s[i]? = some 40)(hg9:g<9)(ih:GoR s .rx (d+1) (i+1) (g+1) (.ok a q g1))(hc:s[q]? ≠ some 41):GoR s .at d i g (.err q):=by
 intro hs hi hg C n hC hn _;have hlt:=av_ h;have hp:_=_:=ih hs (by omega) (by omega) (C++[aM_ (2*(g+1))]) n (by simp only[qLa,qLc,List.length_nil];omega) (by omega);refine⟨rp ((C++[aM_ (2*(g+1))])++a.code (C++[aM_ (2*(g+1))]).length) q g1 true,?_,rfl,.inl rfl,by rw[rp_L];simp only[qLa];omega⟩;rw[ki_ h hs hg9 (by omega),hp];simp only[qBs];rw[is_f (c:=41) (k:=41) rfl hc];rfl
theorem rat_grp{s:Str}{d i g q g1:Nat}{a:Re}(h:s[i]? = some 40)(hg9:g<9)(hr:RP s .rx (d+1) (i+1) (g+1) (.ok a q g1))(ih:GoR s .rx (d+1) (i+1) (g+1) (.ok a q g1))(hc:s[q]? = some 41):GoR s .at d i g (.ok (.grp (g+1) a) (q+1) g1):=by
 intro hs hi hg C n hC hn _;have hlt:=av_ h;have hlt2:=av_ hc;have hgood:=hr.good (by omega) (by omega);simp only[PK.inc]at hgood;have hp:_=_:=ih hs (by omega) (by omega) (C++[aM_ (2*(g+1))]) n (by simp only[qLa,qLc,List.length_nil];omega) (by omega);show _=_;rw[ki_ h hs hg9 (by omega),hp];simp only[qBs];rw[is_t (c:=41) (k:=41) rfl hc];simp only[qBs,Bool.not_true,cond_false,rp_L,e8_,rp_N,fo_];rw[cY_ (by simp only[qLa,qLc,List.length_nil,aA_];omega)];simp only[qBs,Re.code];rw[show(C++[aM_ (2*(g+1))]).length=C.length+1 from by simp,List.append_assoc,List.append_assoc,List.singleton_append,ai_ (by omega)]
 rfl
theorem find_any{α:Type}(p:α->Bool):∀l:List α,((l.find? p).map λ_=>true).getD false=l.any p
 | []=>rfl
 | x::l=>by
  rw[List.find?_cons,List.any_cons];cases p x with
  | true=>rfl
  | false=>exact find_any p l
theorem lL_(c:UInt8):gr_ (c.toNat:Int)=some (spec c):=by
 unfold gr_;have hL:=bC_ (body:=gI_ (c.toNat:Int)) ([40,41,124,42,43,63,46,94,36,91,92]:Str) (λ_ x=>if(x==c)=true then some true else none) (by unfold BIG;simp)
  (λi hi=>by
   have hi11:i<11:=hi;unfold gI_;refine cond_t (decide_eq_true (show(i:Int)<((11:Nat):Int)by omega)) ?_;rw[cs_ hi];simp only[qBs];rw[bO_,ai_ (by omega)];cases([40,41,124,42,43,63,46,94,36,91,92]:Str)[i]==c<;>rfl)
  (by rfl)
 refine(cc_ hL (λr=>rfl) rfl).trans ?_;rw[scan_find (λx=>x==c) (λ_=>true),find_any];simp only[List.any_cons,List.any_nil,Bool.or_false];have k:∀x:UInt8,(x==c)=(c==x):=λx=>BEq.comm
 simp only[k];unfold spec;simp only[Bool.or_assoc]
theorem rat_one{s:Str}{i g:Nat}{C:List Xz}{z:Int}{n:Nat}(hi:i<900000)(hC:C.length<=5000){f:Str->Xx->Option Xx}{c:UInt8}(h:s[i]? = some c)(hc:(c=46/\z=2)\/(c=94/\z=4)\/(c=36/\z=5)):bf_ f s (rp C i g false)=some (rp (C++[Xz.mk z 0 [] false 0 0]) (i+1) g false):=by
 unfold bf_;rw[e8_,rp_N,rp_L,fo_,bM_ h];simp only[qBs];have hem:∀z:Int,aL_ (rp C i g false) (Xz.mk z 0 [] false 0 0)=some (rp (C++[Xz.mk z 0 [] false 0 0]) i g false):=λz=>cY_ (by omega)
 have hw:w64 ((i:Int)+1)=((i+1:Nat):Int):=ai_ (by omega);rcases hc with⟨rfl,rfl⟩|⟨rfl,rfl⟩|⟨rfl,rfl⟩
 .rw[hem];simp only[qBs,rp_L,e8_,rp_N,fo_];refine Eq.trans (show _=some (Xx.mk (C++[Xz.mk 2 0 [] false 0 0]) (w64 ((i:Int)+1)) (g:Int) false)from rfl) ?_;rw[hw];rfl
 .rw[hem,hem];simp only[qBs,rp_L,e8_,rp_N,fo_];refine Eq.trans (show _=some (Xx.mk (C++[Xz.mk 4 0 [] false 0 0]) (w64 ((i:Int)+1)) (g:Int) false)from rfl) ?_;rw[hw];rfl
 .rw[hem,hem,hem];simp only[qBs,rp_L,e8_,rp_N,fo_];refine Eq.trans (show _=some (Xx.mk (C++[Xz.mk 5 0 [] false 0 0]) (w64 ((i:Int)+1)) (g:Int) false)from rfl) ?_;rw[hw];rfl
theorem gr_sym{s:Str}{d i g:Nat}{c:UInt8}(h:s[i]? = some c)(hc:c=42\/c=43\/c=63):GoR s .at d i g (.err i):=by
 intro hs hi hg C n hC hn _;refine⟨rp C i g true,?_,rfl,.inl rfl,Nat.le_refl _⟩;unfold bf_;rw[e8_,bM_ h];simp only[qBs];rw[lL_];rcases hc with rfl|rfl|rfl<;>rfl
theorem gr_one{s:Str}{d i g:Nat}{c:UInt8}{z:Int}{a:Re}(ha:∀n,a.code n=[Xz.mk z 0 [] false 0 0])(h:s[i]? = some c)(hc:(c=46/\z=2)\/(c=94/\z=4)\/(c=36/\z=5)):GoR s .at d i g (.ok a (i+1) g):=by
 intro hs hi hg C n hC hn _;show _=_;rw[rat_one (n:=0) (by omega) (by omega) h hc,ha]
theorem gr_cls{s:Str}{d i g:Nat}{r:SR}(h:s[i]? = some 91)(hc:Cx s (clsI s (i+1)) [] r):GoR s .at d i g (clsR g (clsN s (i+1)) r):=by
 intro hs hi hg C n hC hn _;have hlt:=av_ h;have e2:bf_ (aw_ n) s (rp C i g false)=some (rclsP C g (clsN s (i+1)) r):=by
  unfold bf_;rw[e8_,bM_ h];simp only[qBs];rw[rclass_eq hs hlt (by omega) hc];rfl
 show ResR s false C (bf_ (aw_ n) s (rp C i g false)) _;rw[e2];cases r with
 | err e=>exact⟨_,rfl,rfl,.inl rfl,Nat.le_refl _⟩
 | ok x q=>rfl
theorem gr_esc{s:Str}{d i g:Nat}(h:s[i]? = some 92):GoR s .at d i g (escR g (escS s i)):=by
 intro hs hi hg C n hC hn _;have hlt:=av_ h;show ResR s false C (bf_ (aw_ n) s (rp C i g false)) _;unfold bf_;rw[e8_,bM_ h];simp only[qBs,rp_N,rp_L,fo_];rw[lL_,ai_ (i:=i) (by omega)];unfold escS;cases h1:s[i+1]? with
 | none =>
  have:=List.getElem?_eq_none_iff.1 h1;rw[beq_iff_eq.2 (by omega:((i+1:Nat):Int)=(s.length:Int))];exact⟨rp C (i+1) g true,rfl,rfl,.inl rfl,Nat.le_refl _⟩
 | some d =>
  have hlt1:=av_ h1;rw[beq_eq_false_iff_ne.2 (by omega:((i+1:Nat):Int)≠(s.length:Int)),cond_false,bM_ h1];simp only[qBs];rw[ai_ (i:=i+1) (by omega)];have k2:((d.toNat:Int)==110)=(d==110):=bO_ d 110;have k3:((d.toNat:Int)==116)=(d==116):=bO_ d 116;have hem:∀z:Int,aL_ (rp C (i+2) g false) (Xz.mk 1 z [] false 0 0)=some (rp (C++[Xz.mk 1 z [] false 0 0]) (i+2) g false):=λz=>cY_ (by omega)
  rw[k2,k3];unfold escB;by_cases h2:d=110
  .subst h2;exact aq_ (aq_ (hem 10) rfl) rfl
  .rw[beq_eq_false_iff_ne.2 h2,if_neg h2,cond_false];by_cases h3:d=116
   .subst h3;exact aq_ (aq_ (hem 9) rfl) rfl
   .rw[beq_eq_false_iff_ne.2 h3,if_neg h3,cond_false];exact aq_ (aq_ (hem d.toNat) rfl) rfl
theorem gr_chr{s:Str}{d i g:Nat}{c:UInt8}(h:s[i]? = some c)(hc:spec c=false):GoR s .at d i g (.ok (.chr c) (i+1) g):=by
 intro hs hi hg C n hC hn _;show _=_;have hsp:=hc;unfold spec at hc;simp only[Bool.or_eq_false_iff]at hc;obtain⟨⟨⟨⟨⟨⟨⟨⟨⟨⟨a1,a2⟩,a3⟩,a4⟩,a5⟩,a6⟩,a7⟩,a8⟩,a9⟩,a10⟩,a11⟩:=hc;have k (m:UInt8) (z:Int) (hz:z=(m.toNat:Int)) (hm:(c==m)=false):((c.toNat:Int)==z)=false:=by
  subst hz;rw[←hm];exact bO_ c m
 have k92:((c.toNat:Int) != 92)=true:=by
  unfold bne;rw[k 92 92 rfl a11];rfl
 unfold bf_;rw[e8_,bM_ h];simp only[qBs,rp_N,rp_L,fo_];rw[k 40 40 rfl a1,k 46 46 rfl a7,k 94 94 rfl a8,k 36 36 rfl a9,k 91 91 rfl a10,lL_,hsp,k92];simp only[cond_false,cond_true,qBs,Bool.false_and];rw[cY_ (by omega),ai_ (by omega)];rfl
theorem j1_{s:Str}{z:Bool}{i g n:Nat}{C:List Xz}{r:PX}(h:ResL s z C (af_ (bz_ s (aw_ n)) BIG ((i:Int),(g:Int),false,C)) r):ResR s z C (en_ (aw_ n) s (rp C i g false)) r:=by
 have e:en_ (aw_ n) s (rp C i g false)=(af_ (bz_ s (aw_ n)) BIG ((i:Int),(g:Int),false,C)).bind λo1=>some ((Xx.mk o1.2.2.2 o1.1 o1.2.1 o1.2.2.1)):=rfl
 rw[e];cases r with
 | err e =>
  obtain⟨m,b,L,hp,hb,hl⟩:=h;rw[hp];exact⟨_,rfl,rfl,hb,hl⟩
 | ok a q g1 =>
  have h:_=_:=h;rw[h];rfl
theorem ov_{n:Nat}{s:Str}{p:Xx}:aw_ (n+1) s p=dF_ (aw_ n) s p:=rfl
theorem gr_rxbad{s:Str}{d i g e:Nat}(ih:GoR s .br d i g (.err e)):GoR s .rx d i g (.err e):=by
 intro hs hi hg C n hC hn;obtain⟨n,rfl⟩:∃k,n=k+1:=⟨n-1,by omega⟩;obtain⟨p,hp,ha,hb,hl⟩:=j1_ (ih hs hi hg C n hC (by omega) BIG (by unfold BIG;omega));have his:bF_ s p 124=some (false,p):=by
  rcases hb with hb|⟨_,hb,h41⟩
  .exact kO_ hb _
  .unfold bF_;have:=av_ h41;rw[hb,ha,decide_eq_true (by omega),bM_ h41];rfl
 refine⟨p,?_,ha,hb,hl⟩;rw[ov_];unfold dF_;rw[hp];simp only[qBs];rw[his];rfl
theorem gr_rxone{s:Str}{d i g q g1:Nat}{a:Re}(ih:GoR s .br d i g (.ok a q g1))(hq:s[q]? ≠ some 124):GoR s .rx d i g (.ok a q g1):=by
 intro hs hi hg C n hC hn;obtain⟨n,rfl⟩:∃k,n=k+1:=⟨n-1,by omega⟩;have hp:_=_:=j1_ (ih hs hi hg C n hC (by omega) BIG (by unfold BIG;omega));show _=_;rw[ov_];unfold dF_;rw[hp];simp only[qBs];rw[is_f (c:=124) (k:=124) rfl hq];rfl
theorem rrx_step{s:Str}{i g q g1 n:Nat}{a:Re}{C:List Xz}(hs:s.length<=1000)(hl:C.length+a.len<=20000)(hgr:a.grps 100)
  (hp:en_ (aw_ n) s (rp C i g false)=some (rp (C++a.code C.length) q g1 false)) (hq:s[q]? = some 124) :
  aw_ (n+1) s (rp C i g false)=(aw_ n s (rp (C++(bx_ (C.length+1) (C.length+a.len+2)::(a.code (C.length+1)++[cB_ 0]))) (q+1) g1 false)).bind λy6 =>
   (ag_ y6.L_ ((C.length+a.len+1:Nat):Int)).bind λy7 =>
   some ((Xx.mk (y6.L_.set (C.length+a.len+1) (Xz.mk y7.Op_ y7.C_ y7.Yx y7.Yj (y6.L_.length:Int) y7.Y_)) y6.At_ y6.N_ y6.Xi)):=by
 have hlen1:(a.code (C.length+1)).length=a.len:=aA_ a _;have hlt:=av_ hq;rw[ov_];unfold dF_;rw[hp];simp only[qBs];rw[is_t (c:=124) (k:=124) rfl hq];simp only[qBs,Bool.not_true,cond_false,rp_L,e8_,rp_N,fo_];rw[ai_ (i:=q) (by omega),lG_ rfl (by omega) hgr];simp only[qBs];rw[cY_ (by simp only[qLa,qLc];omega)];simp only[qBs];have hk:(C++Xz.mk 6 0 [] false (w64 ((C.length:Int)+1)) 0::a.code (C.length+1)).length=C.length+a.len+1:=by
  simp only[qLa,qLc,hlen1];omega
 rw[hk,List.append_assoc,List.cons_append,cX_ rfl];simp only[qBs];have hk2:(((C++Xz.mk 6 0 [] false (w64 ((C.length:Int)+1)) 0::(a.code (C.length+1)++[Xz.mk 7 0 [] false 0 0])).length:Nat):Int)=((C.length+a.len+2:Nat):Int):=by
  simp only[qLa,qLc,List.length_nil,hlen1];omega
 rw[eU_ (fn_ _),hk2,ai_ (i:=C.length) (by omega)];rfl
theorem gr_rxerr{s:Str}{d i g q g1 e:Nat}{a:Re}(h:RP s .br d i g (.ok a q g1))(hq:s[q]? = some 124)(ih:GoR s .br d i g (.ok a q g1))(ih2:GoR s .rx d (q+1) g1 (.err e)):GoR s .rx d i g (.err e):=by
 intro hs hi hg C n hC hn;obtain⟨n,rfl⟩:∃k,n=k+1:=⟨n-1,by omega⟩;have hgood:=h.good hi hg;simp only[PK.inc]at hgood;have hlt:=av_ hq;have hp:_=_:=j1_ (ih hs hi hg C n hC (by omega) BIG (by unfold BIG;omega));obtain⟨p,hp2,ha,hb,hl⟩:=ih2 hs (by omega) (by omega) (C++(bx_ (C.length+1) (C.length+a.len+2)::(a.code (C.length+1)++[cB_ 0]))) n (by simp only[qLa,qLc,List.length_nil,aA_];omega) (by omega);have hk:(C++(bx_ (C.length+1) (C.length+a.len+2)::(a.code (C.length+1)++[cB_ 0]))).length=C.length+a.len+2:=by
  simp only[qLa,qLc,List.length_nil,aA_];omega
 rw[hk]at hl;refine⟨Xx.mk (p.L_.set (C.length+a.len+1) (Xz.mk (p.L_[C.length+a.len+1]'(by omega)).Op_ (p.L_[C.length+a.len+1]'(by omega)).C_ (p.L_[C.length+a.len+1]'(by omega)).Yx (p.L_[C.length+a.len+1]'(by omega)).Yj (p.L_.length:Int) (p.L_[C.length+a.len+1]'(by omega)).Y_)) p.At_ p.N_ p.Xi,?_,ha,hb,by rw[List.length_set];omega⟩;rw[rrx_step hs (by omega) hgood.2.2.2.2.2 hp hq,hp2];simp only[qBs];rw[al_ (by omega)];rfl
theorem gr_rxalt{s:Str}{d i g q g1 q2 g2:Nat}{a b:Re}(h:RP s .br d i g (.ok a q g1))(hq:s[q]? = some 124)(ih:GoR s .br d i g (.ok a q g1))(ih2:GoR s .rx d (q+1) g1 (.ok b q2 g2)):GoR s .rx d i g (.ok (.alt a b) q2 g2):=by
 intro hs hi hg C n hC hn;obtain⟨n,rfl⟩:∃k,n=k+1:=⟨n-1,by omega⟩;have hgood:=h.good hi hg;simp only[PK.inc]at hgood;have hlt:=av_ hq;have hp:_=_:=j1_ (ih hs hi hg C n hC (by omega) BIG (by unfold BIG;omega));have hp2:_=_:=ih2 hs (by omega) (by omega) (C++(bx_ (C.length+1) (C.length+a.len+2)::(a.code (C.length+1)++[cB_ 0]))) n (by simp only[qLa,qLc,List.length_nil,aA_];omega) (by omega);show _=_;rw[rrx_step hs (by omega) hgood.2.2.2.2.2 hp hq,hp2];have hlen1:(a.code (C.length+1)).length=a.len:=aA_ a _;simp only[qBs,rp_L];have hk:(C++(bx_ (C.length+1) (C.length+a.len+2)::(a.code (C.length+1)++[cB_ 0]))).length=C.length+a.len+2:=by
  simp only[qLa,qLc,List.length_nil,hlen1];omega
 have hk2:(C++(bx_ (C.length+1) (C.length+a.len+2)::a.code (C.length+1))).length=C.length+a.len+1:=by
  simp only[qLa,qLc,hlen1];omega
 rw[hk];have e1:(C++(bx_ (C.length+1) (C.length+a.len+2)::(a.code (C.length+1)++[cB_ 0])))++b.code (C.length+a.len+2)=(C++(bx_ (C.length+1) (C.length+a.len+2)::a.code (C.length+1)))++cB_ 0::b.code (C.length+a.len+2):=by simp
 rw[e1,cX_ (by rw[hk2])];simp only[qBs];rw[eU_ hk2.symm];have e2:(((C++(bx_ (C.length+1) (C.length+a.len+2)::a.code (C.length+1)))++cB_ 0::b.code (C.length+a.len+2)).length:Int)=((C.length+a.len+b.len+2:Nat):Int):=by
  rw[qLa,hk2];simp only[qLc,aA_];omega
 rw[e2];simp only[Re.code,List.append_assoc,List.cons_append];rfl
theorem RP.goR{s:Str}{k:PK}{d i g:Nat}{r:PX}(h:RP s k d i g r):GoR s k d i g r:=by
 induction h with
 | stop h=>exact gr_stop h
 | par h=>exact gr_par h
 | bad h h1 h2 hp ih=>exact gr_bad h h1 h2 ih
 | next h h1 h2 hp ht ih1 ih2=>exact gr_next h h1 h2 hp ih1 ih2
 | pcbad h ih=>exact gr_pcbad ih
 | pcok h ih=>exact gr_pcok h ih
 | many h hg=>exact rat_many h hg
 | inner h hg hr ih=>exact rat_inner h hg ih
 | unc h hg hr hc ih=>exact rat_unc h hg ih hc
 | grp h hg hr hc ih=>exact rat_grp h hg hr ih hc
 | sym h hc=>exact gr_sym h hc
 | any h=>exact gr_one (λ_=>rfl) h (.inl ⟨rfl,rfl⟩)
 | bol h=>exact gr_one (λ_=>rfl) h (.inr (.inl ⟨rfl,rfl⟩))
 | eol h=>exact gr_one (λ_=>rfl) h (.inr (.inr ⟨rfl,rfl⟩))
 | cls h hc=>exact gr_cls h hc
 | esc h=>exact gr_esc h
 | chr h hc=>exact gr_chr h hc
 | rxbad h ih=>exact gr_rxbad ih
 | rxone h hq ih=>exact gr_rxone ih hq
 | rxerr h hq ht ih1 ih2=>exact gr_rxerr h hq ih1 ih2
 | rxalt h hq ht ih1 ih2=>exact gr_rxalt h hq ih1 ih2
def prog(a:Re)(g:Nat):Yq:=Yq.mk (aM_ 0::(a.code 1++[aM_ 1,iOne 9])) ((g+1:Nat):Int)
def compV:PX->Yq×Int×Int | .err e=>(Yq.mk [] 0,(e:Int),49) | .ok a _ g=>(prog a g,0,0)
theorem compile_both(s:Str):(256<s.length/\bl_ s=some (Yq.mk [] 0,0,4)/\cV_ s=some (Yq.mk [] 0,0,4)) \/
  (s.length<=256/\∃r,RP s .rx 0 0 0 r/\bl_ s=some (compV r)/\cV_ s=some (compV r)):=by
 rcases Nat.lt_or_ge 256 s.length with hl|hl
 .refine .inl ⟨hl,?_,?_⟩
  .unfold bl_;rw[decide_eq_true (by omega)];rfl
  .unfold cV_;rw[decide_eq_true (by omega)];rfl
 .obtain⟨r,hr⟩:=(RP.ex (s:=s) _ 0 (Nat.lt_succ_self _) (Nat.zero_le _)).2 0 0 (Nat.zero_le _);refine .inr ⟨hl,r,hr,?_,?_⟩
  .have h:=hr.go (by omega) (Nat.zero_le _) (Nat.zero_le _) (Nat.le_refl _) [aM_ 0] 0 BIG (by simp only[qLc,List.length_nil];omega) (by unfold BIG;omega);unfold bl_;rw[decide_eq_false (by omega),cond_false];have e1:ap_ (regex_parser.mk s 0 0 [] 0) (Xz.mk 8 0 [] false 0 0)=some (0,ps s 0 0 [aM_ 0] 0):=dk_ (s:=s) (i:=0) (g:=0) (C:=[]) (bad:=0) (x:=aM_ 0) (by simp);rw[e1];simp only[qBs];cases r with
   | err e =>
    obtain⟨p,hp,hb⟩:=h;have hp:ah_ BIG (ps s 0 0 [aM_ 0] 0) 0=some (false,p):=hp;rw[hp];simp only[qBs,Bool.not_false,cond_true];rw[hb];rfl
   | ok a q g =>
    have hgood:=hr.good (Nat.zero_le _) (Nat.zero_le _);have hp:ah_ BIG (ps s 0 0 [aM_ 0] 0) 0=some (true,ps s q g ([aM_ 0]++a.code 1) 0):=h;have hlen:=aA_ a 1;rw[hp];simp only[qBs,Bool.not_true,cond_false];rw[dk_ (by simp only[qLa,qLc,List.length_nil];omega)];simp only[qBs];rw[dk_ (by simp only[qLa,qLc,List.length_nil];omega)];simp only[qBs,gY_,m6_];rw[ai_ (by omega)];simp only[List.append_assoc];rfl
  .have h:=hr.goR (by omega) (Nat.zero_le _) (Nat.zero_le _) [aM_ 0] BIG (by simp only[qLc,List.length_nil];omega) (by unfold BIG;omega);unfold cV_;rw[decide_eq_false (by omega),cond_false];have e1:aL_ (Xx.mk [] 0 0 false) (Xz.mk 8 0 [] false 0 0)=some (rp [aM_ 0] 0 0 false):=cY_ (by simp);rw[e1];simp only[qBs];cases r with
   | err e =>
    obtain⟨p,hp,ha,hb,hl⟩:=h;rw[hp];simp only[qBs];have:(p.Xi||decide (p.At_<(s.length:Int)))=true:=by
     rcases hb with hb|⟨_,hb,h41⟩
     .rw[hb];rfl
     .have:=av_ h41;rw[ha,decide_eq_true (by omega),Bool.or_true]
    rw[this,cond_true,ha];rfl
   | ok a q g =>
    have hgood:=hr.good (Nat.zero_le _) (Nat.zero_le _);have hend:=(hr.ends rfl a q g rfl).1 rfl;have hq:=List.getElem?_eq_none_iff.1 hend;have hp:aw_ BIG s (rp [aM_ 0] 0 0 false)=some (rp ([aM_ 0]++a.code 1) q g false):=h;have hlen:=aA_ a 1;rw[hp];simp only[qBs];have:((rp ([aM_ 0]++a.code 1) q g false).Xi||decide ((rp ([aM_ 0]++a.code 1) q g false).At_<(s.length:Int)))=false:=by
     rw[fo_,e8_,decide_eq_false (by omega)];rfl
    rw[this,cond_false];have e2:aL_ (rp ([aM_ 0]++a.code 1) q g false) (Xz.mk 8 0 [] false 1 0)=some (rp (([aM_ 0]++a.code 1)++[aM_ 1]) q g false):=cY_ (by simp only[qLa,qLc,List.length_nil];omega);have e3:aL_ (rp (([aM_ 0]++a.code 1)++[aM_ 1]) q g false) (Xz.mk 9 0 [] false 0 0)=some (rp ((([aM_ 0]++a.code 1)++[aM_ 1])++[iOne 9]) q g false):=cY_ (by simp only[qLa,qLc,List.length_nil];omega);rw[e2];simp only[qBs];rw[e3];simp only[qBs,rp_L,rp_N];rw[ai_ (by omega)];simp only[List.append_assoc];rfl
def compOK(s:Str):Bool:=match bl_ s with|some v=>v.2.2==0|none=>false
theorem comp_eq(s:Str):∃v,bl_ s=some v/\cV_ s=some v/\(v.2.2==0)=compOK s:=by
 rcases compile_both s with⟨_,h1,h2⟩|⟨_,r,_,h1,h2⟩
 .exact⟨_,h1,h2,by unfold compOK;rw[h1]⟩
 .exact⟨_,h1,h2,by unfold compOK;rw[h1]⟩
def dt_(o:Str):Bool:=((((o==[115,114,99])||(o==[100,115,116]))||(o==[119,100,105,114]))||(o==[116,121,112,101]))||(o==[100,97,116,97])
def dX_(o:Str):Bool:=o==[97,116,116,114]
def bK_(o:Str):Bool:=o==[112,108,117,109,98]
def hU_(v:Str):Bool:=v==[109,97,116,99,104,101,115]
def verbB(f a p:Bool)(v:Str):Bool:=bif f then(v==[105,115]||(v==[105,115,110]||(hU_ v||v==[115,101,116])))else bif a then(v==[105,115]||(v==[105,115,110]||(v==[97,100,100]||v==[100,101,108,101,116,101])))else bif p then v==[116,111]else false
def b5_(p:Xb):Bool:=verbB (dt_ p.Xm) (dX_ p.Xm) (bK_ p.Xm) p.Xr&&(!(p.Xe==[])&&(decide (p.Xe.length<=1024)&&(!(p.Xe.contains 10)&&(!(hU_ p.Xr)||compOK p.Xe))))
theorem obj_apart(o:Str):(dt_ o=true->dX_ o=false)/\(dt_ o=true->bK_ o=false)/\(dX_ o=true->bK_ o=false):=by
 refine⟨λh => ?_,λh => ?_,λh => ?_⟩
 .unfold dt_ at h;simp only[Bool.or_eq_true,beq_iff_eq]at h;rcases h with(((h|h)|h)|h)|h<;>subst h<;>rfl
 .unfold dt_ at h;simp only[Bool.or_eq_true,beq_iff_eq]at h;rcases h with(((h|h)|h)|h)|h<;>subst h<;>rfl
 .unfold dX_ at h;rw[beq_iff_eq]at h;subst h;rfl
theorem verb_ref (f a p c:Bool) (h1:f=true->a=false) (h2:f=true->p=false) (h3:a=true->p=false) (v:Str) :
  (bif(bif v==[105,115]then v==[105,115]else v==[105,115,110])then(f||a)else bif v==[115,101,116]then f else bif v==[109,97,116,99,104,101,115]then(f&&c)else bif(bif v==[97,100,100]then v==[97,100,100]else v==[100,101,108,101,116,101])then a else bif v==[116,111]then p else false)=(verbB f a p v&&(!(hU_ v)||c)):=by
 by_cases e1:v=[105,115]
 .subst e1;cases f<;>cases a<;>cases p<;>cases c<;>first|rfl|exact absurd (h1 rfl) (by decide)|exact absurd (h2 rfl) (by decide)|exact absurd (h3 rfl) (by decide)
 .by_cases e2:v=[105,115,110]
  .subst e2;cases f<;>cases a<;>cases p<;>cases c<;>first|rfl|exact absurd (h1 rfl) (by decide)|exact absurd (h2 rfl) (by decide)|exact absurd (h3 rfl) (by decide)
  .by_cases e3:v=[115,101,116]
   .subst e3;cases f<;>cases a<;>cases p<;>cases c<;>first|rfl|exact absurd (h1 rfl) (by decide)|exact absurd (h2 rfl) (by decide)|exact absurd (h3 rfl) (by decide)
   .by_cases e4:v=[109,97,116,99,104,101,115]
    .subst e4;cases f<;>cases a<;>cases p<;>cases c<;>first|rfl|exact absurd (h1 rfl) (by decide)|exact absurd (h2 rfl) (by decide)|exact absurd (h3 rfl) (by decide)
    .by_cases e5:v=[97,100,100]
     .subst e5;cases f<;>cases a<;>cases p<;>cases c<;>first|rfl|exact absurd (h1 rfl) (by decide)|exact absurd (h2 rfl) (by decide)|exact absurd (h3 rfl) (by decide)
     .by_cases e6:v=[100,101,108,101,116,101]
      .subst e6;cases f<;>cases a<;>cases p<;>cases c<;>first|rfl|exact absurd (h1 rfl) (by decide)|exact absurd (h2 rfl) (by decide)|exact absurd (h3 rfl) (by decide)
      .by_cases e7:v=[116,111]
       .subst e7;cases f<;>cases a<;>cases p<;>cases c<;>first|rfl|exact absurd (h1 rfl) (by decide)|exact absurd (h2 rfl) (by decide)|exact absurd (h3 rfl) (by decide)
       .unfold verbB hU_;rw[beq_eq_false_iff_ne.2 e1,beq_eq_false_iff_ne.2 e2,beq_eq_false_iff_ne.2 e3,beq_eq_false_iff_ne.2 e4,beq_eq_false_iff_ne.2 e5,beq_eq_false_iff_ne.2 e6,beq_eq_false_iff_ne.2 e7];cases f<;>cases a<;>cases p<;>rfl
theorem fp_{l:List Str}{x:Str}(hl:l.length<=1000):aJ_ l x=some (l.contains x):=by
 unfold aJ_ c9_;have h:=bC_ (body:=bV_ l x) l (λi y=>if(x==y)=true then some ((i:Nat):Int)else none) (az_ (by omega)) (λi hi=>by
  unfold bV_;rw[aY_ hi,cond_true,al_ hi];simp only[qBs];cases x==l[i]with
  | true=>rfl
  | false =>
   simp only[cond_false,Bool.false_eq_true,if_false,ec_];rw[ai_ (by omega)]) (by
  unfold bV_;rw[aV_];rfl)
 refine aq_ ((cc_ (x:=(-1:Int)) h (λr=>rfl) rfl).trans (congrArg some (nw_ (λy=>x==y) l))) ?_;rw[at_any]
 congr 1
 induction l with
 | nil=>rfl
 | cons y l ih =>
  rw[List.any_cons,List.contains_cons]
  congr 1
  clear h ih hl
  induction l with
  | nil=>rfl
  | cons y l ih=>rw[List.any_cons,List.contains_cons,ih]
theorem verbs_eq(o v:Str):((d5_ o).bind λy=>(aJ_ y v).bind λz=>some z)=some (verbB (dt_ o) (dX_ o) (bK_ o) v):=by
 have e:d5_ o=some (bif dt_ o then[[105,115],[105,115,110],[109,97,116,99,104,101,115],[115,101,116]]else bif dX_ o then[[105,115],[105,115,110],[97,100,100],[100,101,108,101,116,101]]else bif bK_ o then[[116,111]]else[]):=by
  unfold d5_ dt_ dX_ bK_;cases o==[115,114,99]<;>cases o==[100,115,116]<;>cases o==[119,100,105,114]<;>cases o==[116,121,112,101]<;>cases o==[100,97,116,97]<;>cases o==[97,116,116,114]<;>cases o==[112,108,117,109,98]<;>rfl
 rw[e];unfold verbB hU_;simp only[qBs];cases dt_ o with
 | true =>
  simp only[cond_true];rw[fp_ (by simp)];simp only[qBs,List.contains_cons,List.contains_nil,Bool.or_false]
 | false =>
  simp only[cond_false];cases dX_ o with
  | true =>
   simp only[cond_true];rw[fp_ (by simp)];simp only[qBs,List.contains_cons,List.contains_nil,Bool.or_false]
  | false =>
   simp only[cond_false];cases bK_ o with
   | true =>
    simp only[cond_true];rw[fp_ (by simp)];simp only[qBs,List.contains_cons,List.contains_nil,Bool.or_false]
   | false =>
    simp only[cond_false];rw[fp_ (by simp)];rfl
theorem bind_eta{α β γ:Type}{A:Option α}{B:α->Option β}{f:β->Option γ}{r:β}(h:(A.bind λy=>(B y).bind λz=>some z)=some r):(A.bind λy=>(B y).bind f)=f r:=by
 cases A with
 | none=>cases h
 | some a =>
  simp only[qBs]at h ⊢;cases hB:B a with
  | none=>rw[hB]at h;cases h
  | some b =>
   rw[hB]at h;simp only[qBs]at h ⊢;rw[qSj h]
theorem sound_eq(p:Xb):f3_ p=some (b5_ p):=by
 unfold f3_ b5_;rw[mc_,mc_];rw[bind_eta (verbs_eq p.Xm p.Xr)];cases verbB (dt_ p.Xm) (dX_ p.Xm) (bK_ p.Xm) p.Xr with
 | false=>rfl
 | true =>
  simp only[Bool.not_true,cond_false,Bool.true_and];cases h1:p.Xe==[]with
  | true=>rfl
  | false =>
   simp only[cond_false,Bool.not_false,Bool.true_and];by_cases h2:p.Xe.length<=1024
   .rw[decide_eq_false (by omega),cond_false,nU_,decide_eq_true h2,Bool.true_and];simp only[qBs];cases p.Xe.contains 10 with
    | true=>rfl
    | false =>
     unfold hU_;simp only[cond_false,Bool.not_false,Bool.true_and];cases p.Xr==[109,97,116,99,104,101,115]with
     | false=>rfl
     | true =>
      obtain⟨v,hv,_,hc⟩:=comp_eq p.Xe;rw[hv];simp only[Bool.not_true,cond_false,qBs,Bool.false_or];rw[hc]
   .rw[decide_eq_true (by omega),decide_eq_false h2];rfl
theorem pattern_eq(p:Xb):gs_ p=some (b5_ p):=by
 obtain⟨h1,h2,h3⟩:=obj_apart p.Xm;obtain⟨v,_,hv,hc⟩:=comp_eq p.Xe;have hf:f6_ p.Xm=some (dt_ p.Xm):=rfl;have hvr:=verb_ref (dt_ p.Xm) (dX_ p.Xm) (bK_ p.Xm) (compOK p.Xe) h1 h2 h3 p.Xr;unfold gs_ b5_;cases e1:p.Xe==[]with
 | true=>simp only[cond_true,qBs,Bool.not_true,Bool.false_and,Bool.and_false]
 | false =>
  simp only[cond_false];rw[pD_];simp only[qBs];by_cases e2:p.Xe.length<=1024
  .cases e3:p.Xe.contains 10 with
   | true =>
    have:e7_ p.Xe=2:=by unfold e7_;rw[if_neg (by omega),if_pos e3]
    rw[this];simp
   | false =>
    have:e7_ p.Xe=0:=by unfold e7_;rw[if_neg (by omega),e3];rfl
    rw[this,show((0:Int) != 0)=false from rfl,cond_false,hv,hf,decide_eq_true e2];simp only[qBs,Bool.not_false,Bool.true_and];rw[hc,←hvr];unfold dX_ bK_;cases p.Xr==[105,115]<;>cases p.Xr==[105,115,110]<;>cases p.Xr==[115,101,116]<;>cases p.Xr==[109,97,116,99,104,101,115]<;>cases p.Xr==[97,100,100]<;>cases p.Xr==[100,101,108,101,116,101]<;>cases p.Xr==[116,111]<;>rfl
  .have:e7_ p.Xe=4:=by unfold e7_;rw[if_pos (by omega)]
   rw[this,decide_eq_false e2];simp
theorem lN_{p:Xb}(h:b5_ p=true):p.Xm.length<=5/\p.Xr.length<=7/\p.Xe.length<=1024/\p.Xe≠[]/\p.Xe.contains 10=false/\p.Xm≠[]/\p.Xr≠[]/\(∀b∈p.Xm,97<=b.toNat)/\(∀b∈p.Xr,97<=b.toNat):=by
 unfold b5_ at h;simp only[qAn,Bool.not_eq_true',qDe]at h;obtain⟨h1,h2,h3,h4,_⟩:=h;have hv:p.Xr=[105,115]\/p.Xr=[105,115,110]\/p.Xr=[109,97,116,99,104,101,115]\/p.Xr=[115,101,116]\/p.Xr=[97,100,100]\/p.Xr=[100,101,108,101,116,101]\/p.Xr=[116,111]:=by
  unfold verbB hU_ at h1;cases hf:dt_ p.Xm with
  | true =>
   rw[hf]at h1;simp only[cond_true,Bool.or_eq_true,beq_iff_eq]at h1;rcases h1 with h|h|h|h<;>simp[h]
  | false =>
   cases ha:dX_ p.Xm with
   | true =>
    rw[hf,ha]at h1;simp only[cond_true,cond_false,Bool.or_eq_true,beq_iff_eq]at h1;rcases h1 with h|h|h|h<;>simp[h]
   | false =>
    cases hp:bK_ p.Xm with
    | true =>
     rw[hf,ha,hp]at h1;simp only[cond_true,cond_false,beq_iff_eq]at h1;simp[h1]
    | false=>rw[hf,ha,hp]at h1;cases h1
 have ho:p.Xm=[115,114,99]\/p.Xm=[100,115,116]\/p.Xm=[119,100,105,114]\/p.Xm=[116,121,112,101]\/p.Xm=[100,97,116,97]\/p.Xm=[97,116,116,114]\/p.Xm=[112,108,117,109,98]:=by
  cases hf:dt_ p.Xm with
  | true =>
   unfold dt_ at hf;simp only[Bool.or_eq_true,beq_iff_eq]at hf;rcases hf with(((h|h)|h)|h)|h<;>simp[h]
  | false =>
   cases ha:dX_ p.Xm with
   | true=>unfold dX_ at ha;rw[beq_iff_eq]at ha;simp[ha]
   | false =>
    cases hp:bK_ p.Xm with
    | true=>unfold bK_ at hp;rw[beq_iff_eq]at hp;simp[hp]
    | false=>rw[hf,ha,hp]at h1;cases h1
 have h2:p.Xe≠[]:=by simpa using h2
 refine⟨?_,?_,h3,h2,h4,?_,?_,?_,?_⟩
 .rcases ho with h|h|h|h|h|h|h<;>rw[h]<;>decide
 .rcases hv with h|h|h|h|h|h|h<;>rw[h]<;>decide
 .rcases ho with h|h|h|h|h|h|h<;>rw[h]<;>decide
 .rcases hv with h|h|h|h|h|h|h<;>rw[h]<;>decide
 .rcases ho with h|h|h|h|h|h|h<;>rw[h]<;>decide
 .rcases hv with h|h|h|h|h|h|h<;>rw[h]<;>decide
def gVal(n:Nat)(i:Nat)(p:Xb):Option Bool:=if(!(b5_ p) || !((bK_ p.Xm)==((i:Int)==(n:Int)-1)))=true then some false else none
def b0_(r:Xh):Bool:=decide (1<=r.Xg.length)&&(decide (r.Xg.length<=32)&&(aP_ (gVal r.Xg.length) 0 r.Xg).getD true)
theorem valid_eq(r:Xh):f4_ r=some (b0_ r):=by
 unfold f4_ b0_;by_cases h1:1<=r.Xg.length
 .by_cases h2:r.Xg.length<=32
  .rw[decide_eq_false (by omega),decide_eq_false (by omega),decide_eq_true h1,decide_eq_true h2,Bool.true_and,Bool.true_and,Bool.or_false,cond_false];refine cc_ (bC_ r.Xg (gVal r.Xg.length) (az_ (by omega)) (λi hi => ?_) ?_) (λr=>rfl) rfl
   .unfold hL_ gVal;rw[aY_ hi,cond_true,al_ hi];simp only[qBs];rw[sound_eq];simp only[qBs];rw[bb_ (n:=(r.Xg.length:Int)-1) ⟨by omega,by omega⟩,ai_ (by omega)];show(bif(!(b5_ r.Xg[i]) || !((bK_ (r.Xg[i]).Xm)==((i:Int)==(r.Xg.length:Int)-1)))then some (Step.done (Out.ret false))else some (Step.next ((i+1:Nat):Int)))=_;cases(!(b5_ r.Xg[i]) || !((bK_ (r.Xg[i]).Xm)==((i:Int)==(r.Xg.length:Int)-1)))<;>rfl
   .unfold hL_;rw[aV_];rfl
  .rw[decide_eq_true (by omega:(r.Xg.length:Int)>32),decide_eq_false h2,Bool.or_true,cond_true,Bool.false_and,Bool.and_false]
 .rw[decide_eq_true (by omega:(r.Xg.length:Int)<1),decide_eq_false h1];rfl
theorem refValid_eq(r:Xh):h8_ r=some (b0_ r):=by
 unfold h8_ b0_;by_cases h1:1<=r.Xg.length
 .by_cases h2:r.Xg.length<=32
  .rw[decide_eq_false (by omega),decide_eq_false (by omega),decide_eq_true h1,decide_eq_true h2,Bool.true_and,Bool.true_and,Bool.or_false,cond_false];refine cc_ (bC_ r.Xg (gVal r.Xg.length) (az_ (by omega)) (λi hi => ?_) ?_) (λr=>rfl) rfl
   .unfold hN_ gVal;rw[aY_ hi,cond_true,al_ hi];simp only[qBs];rw[pattern_eq];simp only[qBs];rw[bb_ (n:=(r.Xg.length:Int)-1) ⟨by omega,by omega⟩,ai_ (by omega)];have e:(bif !(b5_ r.Xg[i])then some true else some (!(((r.Xg[i]).Xm==[112,108,117,109,98])==((i:Int)==(r.Xg.length:Int)-1))))=some (!(b5_ r.Xg[i]) || !((bK_ (r.Xg[i]).Xm)==((i:Int)==(r.Xg.length:Int)-1))):=by
     cases b5_ r.Xg[i]<;>rfl
    rw[e];simp only[qBs];cases(!(b5_ r.Xg[i]) || !((bK_ (r.Xg[i]).Xm)==((i:Int)==(r.Xg.length:Int)-1)))<;>rfl
   .unfold hN_;rw[aV_];rfl
  .rw[decide_eq_true (by omega:(r.Xg.length:Int)>32),decide_eq_false h2,Bool.or_true,cond_true,Bool.false_and,Bool.and_false]
 .rw[decide_eq_true (by omega:(r.Xg.length:Int)<1),decide_eq_false h1];rfl
theorem j2_(r:Xh):b0_ r=true↔1<=r.Xg.length/\r.Xg.length<=32/\∀i p,r.Xg[i]? = some p->b5_ p=true/\bK_ p.Xm=decide (i+1=r.Xg.length):=by
 have hg:∀i p,gVal r.Xg.length i p=none↔b5_ p=true/\bK_ p.Xm=decide (i+1=r.Xg.length):=by
  intro i p;unfold gVal;have e:((i:Int)==(r.Xg.length:Int)-1)=decide (i+1=r.Xg.length):=by
   by_cases h:i+1=r.Xg.length
   .rw[decide_eq_true h,beq_iff_eq];omega
   .rw[decide_eq_false h,beq_eq_false_iff_ne];omega
  rw[e];cases b5_ p<;>cases bK_ p.Xm<;>cases decide (i+1=r.Xg.length)<;>simp
 unfold b0_;rw[qAn,qAn,qDe,qDe];refine and_congr_right λ_=>and_congr_right λ_ => ?_
 constructor
 .intro h i p hp;cases hs:aP_ (gVal r.Xg.length) 0 r.Xg with
  | none =>
   have:=scan_none.1 hs i p hp;rw[Nat.zero_add]at this;exact(hg i p).1 this
  | some b =>
   rw[hs]at h;obtain⟨j,q,_,h2,_⟩:=fk_ hs;unfold gVal at h2;split at h2
   .rw[←qSj h2]at h;cases h
   .cases h2
 .intro h;have:aP_ (gVal r.Xg.length) 0 r.Xg=none:=scan_none.2 λi p hp=>by
   rw[Nat.zero_add];exact(hg i p).2 (h i p hp)
  rw[this];rfl
def dY_(p:Xb):Str:=p.Xm++32::(p.Xr++32::(p.Xe++[10]))
def i6_(r:Xh):Str:=r.Xg.flatMap dY_
def dw_(l:List Xh):Str:=b8_ [10] (l.map i6_)
theorem lineS_len{p:Xb}(h:b5_ p=true):(dY_ p).length<=1040:=by
 obtain⟨h1,h2,h3,_⟩:=lN_ h;unfold dY_;simp only[qLa,qLc,List.length_nil];omega
theorem lO_:∀(l:List Xb),(∀p∈l,b5_ p=true)->(l.flatMap dY_).length<=1040*l.length
 | [],_=>Nat.le_refl _
 | p::l,h=>by
  have h1:=lineS_len (h p List.mem_cons_self);have h2:=lO_ l λq hq=>h q (List.mem_cons_of_mem _ hq)
  rw[List.flatMap_cons,qLa,qLc];omega
theorem kk_{r:Xh}(h:b0_ r=true):∀p∈r.Xg,b5_ p=true:=by
 intro p hp;obtain⟨i,hi⟩:=List.mem_iff_getElem?.1 hp;exact(((j2_ r).1 h).2.2 i p hi).1
theorem textR_len{r:Xh}(h:b0_ r=true):(i6_ r).length<=33280:=by
 have h1:=lO_ r.Xg (kk_ h);have h2:=((j2_ r).1 h).2.1;unfold i6_;omega
theorem textS_len:∀(l:List Xh),(∀r∈l,b0_ r=true)->(dw_ l).length<=33281*l.length:=by
 intro l h;unfold dw_;rw[jB_];have:((l.map i6_).flatten).length<=33280*l.length:=by
  induction l with
  | nil=>exact Nat.le_refl _
  | cons r l ih =>
   have h1:=textR_len (h r List.mem_cons_self);have h2:=ih λq hq=>h q (List.mem_cons_of_mem _ hq)
   rw[List.map_cons,List.flatten_cons,qLa,qLc];omega
 simp only[List.length_map,qLc,List.length_nil];omega
theorem pL_{l:List Xh}{i:Nat}(h:i<l.length):dw_ (l.take (i+1))=dw_ (l.take i)++((if 0<i then[10]else[])++i6_ l[i]):=by
 unfold dw_;rw[bD_ h,List.map_append,List.map_cons,List.map_nil];rcases Nat.eq_zero_or_pos i with rfl|hi
 .rfl
 .rw[if_pos hi,jX_];intro e;have:=congrArg List.length e;rw[List.length_map,List.length_take]at this;simp only[List.length_nil]at this;omega
theorem cats_line{p:Xb}(h:b5_ p=true){γ:Type}{f:Str->Option γ}:((cat p.Xm [32]).bind λa=>(cat a p.Xr).bind λb=>(cat b [32]).bind λc=>(cat c p.Xe).bind λd=>(cat d [10]).bind f)=f (dY_ p):=by
 obtain⟨h1,h2,h3,_⟩:=lN_ h;rw[bj_ (by simp only[qLc,List.length_nil];omega)];simp only[qBs];rw[bj_ (by simp only[qLa,qLc,List.length_nil];omega)];simp only[qBs];rw[bj_ (by simp only[qLa,qLc,List.length_nil];omega)];simp only[qBs];rw[bj_ (by simp only[qLa,qLc,List.length_nil];omega)];simp only[qBs];rw[bj_ (by simp only[qLa,qLc,List.length_nil];omega)];simp only[qBs]
 congr 1
 unfold dY_;simp
theorem cats_line2{p:Xb}(h:b5_ p=true){s:Str}(hs:s.length<=1000000000){γ:Type}{f:Str->Option γ}:((cat s p.Xm).bind λz=>(cat z [32]).bind λa=>(cat a p.Xr).bind λb=>(cat b [32]).bind λc=>(cat c p.Xe).bind λd=>(cat d [10]).bind f)=f (s++dY_ p):=by
 obtain⟨h1,h2,h3,_⟩:=lN_ h;rw[bj_ (by omega)];simp only[qBs];rw[bj_ (by simp only[qLa,qLc,List.length_nil];omega)];simp only[qBs];rw[bj_ (by simp only[qLa,qLc,List.length_nil];omega)];simp only[qBs];rw[bj_ (by simp only[qLa,qLc,List.length_nil];omega)];simp only[qBs];rw[bj_ (by simp only[qLa,qLc,List.length_nil];omega)];simp only[qBs];rw[bj_ (by simp only[qLa,qLc,List.length_nil];omega)];simp only[qBs]
 congr 1
 unfold dY_;simp
theorem flat_succ{l:List Xb}{i:Nat}(h:i<l.length):(l.take (i+1)).flatMap dY_=(l.take i).flatMap dY_++dY_ l[i]:=by
 rw[bD_ h,List.flatMap_append];simp
theorem text_in{r:Xh}(h:b0_ r=true){A:Str}(hA:A.length<=100000000):af_ (eJ_ r) BIG (0,aG_ A)=some (aG_ (A++i6_ r)):=by
 have hv:=(j2_ r).1 h;have hs:=kk_ h;have hl:∀i,((r.Xg.take i).flatMap dY_).length<=1040*32:=λi=>by
  have h1:=lO_ (r.Xg.take i) (λp hp=>hs p (List.mem_of_mem_take hp));have h2:(r.Xg.take i).length<=32:=by rw[List.length_take];omega
  omega
 have:=bB_ (body:=eJ_ r) (T:=λi=>((i:Int),aG_ (A++(r.Xg.take i).flatMap dY_))) (b:=aG_ (A++i6_ r)) r.Xg.length (az_ (by omega)) (λi hi=>by
  unfold eJ_;simp only[];rw[aY_ hi,cond_true,al_ hi];simp only[qBs];have hp:=hs _ (List.getElem_mem hi);have hline:=lineS_len hp;rw[cats_line hp,bv_ (by rw[ay_,ay_,qLa];have:=hl i;omega) (by rw[ay_,ay_,qLa];have:=hl i;omega)];simp only[qBs];rw[ai_ (by omega),flat_succ hi,←gL_,List.append_assoc]) (by
  unfold eJ_;simp only[];rw[aV_,List.take_length];rfl)
 have e:((((0:Nat):Int),aG_ (A++(r.Xg.take 0).flatMap dY_)):Int×List Int)=(0,aG_ A):=by simp
 rw[e]at this;exact this
theorem refText_in{l:List Xh}{i:Nat}(hi:i<l.length)(h:b0_ l[i]=true){A:Str}(hA:A.length<=100000000){s:Str}:af_ (eL_ l (s,(i:Int))) BIG (A,0)=some (A++i6_ l[i]):=by
 have hv:=(j2_ l[i]).1 h;have hs:=kk_ h;have hl:∀k,(((l[i]).Xg.take k).flatMap dY_).length<=1040*32:=λk=>by
  have h1:=lO_ ((l[i]).Xg.take k) (λp hp=>hs p (List.mem_of_mem_take hp));have h2:((l[i]).Xg.take k).length<=32:=by rw[List.length_take];omega
  omega
 have:=bB_ (body:=eL_ l (s,(i:Int))) (T:=λk=>(A++((l[i]).Xg.take k).flatMap dY_,(k:Int))) (b:=A++i6_ l[i]) (l[i]).Xg.length (az_ (by omega)) (λk hk=>by
  unfold eL_;simp only[];rw[al_ hi];simp only[qBs];rw[aY_ hk,cond_true,al_ hk];simp only[qBs];have hp:=hs _ (List.getElem_mem hk);rw[cats_line2 hp (by rw[qLa];have:=hl k;omega),ai_ (by omega),flat_succ hk,List.append_assoc]) (by
  unfold eL_;simp only[];rw[al_ hi];simp only[qBs];rw[aV_,List.take_length];rfl)
 have e:((A++((l[i]).Xg.take 0).flatMap dY_,((0:Nat):Int)):Str×Int)=(A,0):=by simp
 rw[e]at this;exact this
def textV(l:List Xh):Str×Int:=if 64<l.length then([],22)else if l.all b0_ then(dw_ l,0)else([],50)
theorem text_eq23 (l:List Xh):fF_ l=some (textV l):=by
 unfold fF_ textV;by_cases h:64<l.length
 .rw[decide_eq_true (by omega),if_pos h];rfl
 .rw [decide_eq_false (by omega),if_neg h,cond_false]
  have hL:af_ (gn_ l) BIG (0,[])=some (if l.all b0_ then .fall (aG_ (dw_ l))else .ret ([],50)):=by
   refine gK_ (J:=λi s b=>(l.take i).all b0_=true/\s=((i:Int),aG_ (dw_ (l.take i)))/\b=(if(l.drop i).all b0_ then Out.fall (aG_ (dw_ l))else Out.ret ([],50))) l.length (az_ (by omega)) (λs b hJ => ?_) (λi s b hi hJ => ?_) ⟨rfl,by rfl,by rfl⟩
   .obtain⟨_,rfl,rfl⟩:=hJ;unfold gn_;simp only[];rw[aV_,List.take_length,List.drop_length];rfl
   .obtain⟨hall,rfl,rfl⟩:=hJ;rw[List.drop_eq_getElem_cons hi,List.all_cons];have hlen:=textS_len (l.take i) (λr hr=>List.all_eq_true.1 hall r hr);have hlen2:(l.take i).length<=64:=by rw[List.length_take];omega
    unfold gn_;simp only[];rw[aY_ hi,cond_true,al_ hi];simp only[qBs];rw[valid_eq];simp only[qBs];cases hv:b0_ l[i]with
    | false=>exact .inl rfl
    | true =>
     simp only[Bool.not_true,cond_false,Bool.true_and];refine .inr ⟨_,?_,?_,rfl,trivial⟩
     .have e1:(bif decide ((i:Int)>0)then(room 1 (aG_ (dw_ (l.take i))) (aG_ [10])).bind λy=>some y else some (aG_ (dw_ (l.take i))))=some (aG_ (dw_ (l.take i)++(if 0<i then[10]else[]))):=by
       by_cases h0:0<i
       .rw[decide_eq_true (by omega),cond_true,if_pos h0,bv_ (by rw[ay_,ay_];simp only[qLc,List.length_nil];omega) (by rw[ay_,ay_];simp only[qLc,List.length_nil];omega),gL_];rfl
       .rw[decide_eq_false (by omega),cond_false,if_neg h0,List.append_nil]
      rw[e1];simp only[qBs];rw[text_in hv (by rw[qLa];split<;>simp only[qLc,List.length_nil]<;>omega)];simp only[qBs];rw[ai_ (by omega),List.append_assoc,←pL_ hi]
     .rw[bD_ hi,List.all_append,hall];simp[hv]
  rw[hL];simp only[qBs];cases l.all b0_ with
  | true =>
   simp only[if_true];rw[gb_]
  | false=>rfl
theorem refText_eq23 (l:List Xh):iZ_ l=some (textV l):=by
 unfold iZ_ textV;by_cases h:64<l.length
 .rw[decide_eq_true (by omega),if_pos h];rfl
 .rw [decide_eq_false (by omega),if_neg h,cond_false]
  have hL:af_ (gt_ l) BIG ([],0)=some (if l.all b0_ then .fall (dw_ l)else .ret ([],50)):=by
   refine gK_ (J:=λi s b=>(l.take i).all b0_=true/\s=(dw_ (l.take i),(i:Int))/\b=(if(l.drop i).all b0_ then Out.fall (dw_ l)else Out.ret ([],50))) l.length (az_ (by omega)) (λs b hJ => ?_) (λi s b hi hJ => ?_) ⟨rfl,by rfl,by rfl⟩
   .obtain⟨_,rfl,rfl⟩:=hJ;unfold gt_;simp only[];rw[aV_,List.take_length,List.drop_length];rfl
   .obtain⟨hall,rfl,rfl⟩:=hJ;rw[List.drop_eq_getElem_cons hi,List.all_cons];have hlen:=textS_len (l.take i) (λr hr=>List.all_eq_true.1 hall r hr);have hlen2:(l.take i).length<=64:=by rw[List.length_take];omega
    unfold gt_;simp only[];rw[aY_ hi,cond_true,al_ hi];simp only[qBs];rw[refValid_eq];simp only[qBs];cases hv:b0_ l[i]with
    | false=>exact .inl rfl
    | true =>
     simp only[Bool.not_true,cond_false,Bool.true_and];refine .inr ⟨_,?_,?_,rfl,trivial⟩
     .have e1:(bif decide ((i:Int)>0)then(cat (dw_ (l.take i)) [10]).bind λy=>some y else some (dw_ (l.take i)))=some (dw_ (l.take i)++(if 0<i then[10]else[])):=by
       by_cases h0:0<i
       .rw[decide_eq_true (by omega),cond_true,if_pos h0,bj_ (by simp only[qLc,List.length_nil];omega)];rfl
       .rw[decide_eq_false (by omega),cond_false,if_neg h0,List.append_nil]
      rw[e1];simp only[qBs];rw[refText_in hi hv (by rw[qLa];split<;>simp only[qLc,List.length_nil]<;>omega)];simp only[qBs];rw[ai_ (by omega),List.append_assoc,←pL_ hi]
     .rw[bD_ hi,List.all_append,hall];simp[hv]
  rw[hL];cases l.all b0_<;>rfl
structure RulesL(l:List Xh):Prop where
 n:l.length<=9223372036854775807
 ls:∀r∈l,r.Xg.length<=9223372036854775807
theorem qy_{l:List Xh}(h:RulesL l):e3_ l l=some true:=by
 unfold e3_;rw[bne_self_eq_false,cond_false];have hL:af_ (dR_ l l) BIG 0=some (.fall ()):=by
  refine bB_ (T:=λi=>(i:Int)) l.length (az_ h.n) (λi hi => ?_) ?_
  .unfold dR_;rw[aY_ hi,cond_true,al_ hi];simp only[qBs];rw[bne_self_eq_false,cond_false];have hr:=h.ls _ (List.getElem_mem hi);have hin:af_ (dQ_ l (i:Int) l) BIG 0=some (.fall ()):=by
    refine bB_ (T:=λi=>(i:Int)) (l[i]).Xg.length (az_ hr) (λk hk => ?_) ?_
    .unfold dQ_;rw[al_ hi];simp only[qBs];rw[aY_ hk,cond_true,al_ hk];simp only[qBs];rw[ai_ (by omega)];rfl
    .unfold dQ_;rw[al_ hi];simp only[qBs];rw[aV_];rfl
   rw[hin];simp only[qBs];rw[ai_ (by have:=h.n;omega)]
  .unfold dR_;rw[aV_];rfl
 rw[hL];rfl
theorem loop_ex{σ β:Type}{body:σ->Option (Step σ β)}(I:Nat->σ->Prop)(Q:β->Prop)(n:Nat)
  (hs:∀i s,i<n->I i s->(∃s',body s=some (.next s')/\I (i+1) s')\/∃b,body s=some (.done b)/\Q b)
  (he:∀s,I n s->∃b,body s=some (.done b)/\Q b):∀(f i:Nat) (s:σ),n-i<f->i<=n->I i s->∃b,af_ body f s=some b/\Q b
 | 0,_,_,h,_,_=>absurd h (Nat.not_lt_zero _)
 | f+1,i,s,hf,hi,hI=>by
  rcases Nat.lt_or_ge i n with h|h
  .rcases hs i s h hI with⟨s',e,hI'⟩|⟨b,e,hQ⟩
   .obtain⟨b,hb,hQ⟩:=loop_ex I Q n hs he f (i+1) s' (by omega) h hI';exact⟨b,b7_ e hb,hQ⟩
   .exact⟨b,bo_ e,hQ⟩
  .have hn:i=n:=Nat.le_antisymm hi h;subst hn;obtain⟨b,e,hQ⟩:=he s hI;exact⟨b,bo_ e,hQ⟩
theorem gM_{σ β:Type}{body:σ->Option (Step σ β)}(I:Nat->σ->Prop)(Q:β->Prop)(n:Nat)(hn:n<BIG)
  (hs:∀i s,i<n->I i s->(∃s',body s=some (.next s')/\I (i+1) s')\/∃b,body s=some (.done b)/\Q b)
  (he:∀s,I n s->∃b,body s=some (.done b)/\Q b) {s:σ} (h:I 0 s):∃b,af_ body BIG s=some b/\Q b :=
 loop_ex I Q n hs he BIG 0 s (by omega) (Nat.zero_le _) h
structure PortL(x:Xv):Prop where
 nm:x.Xy.length<=9223372036854775807
 q:x.Xf.length<=9223372036854775807
 ms:∀m∈x.Xf,AttrL m.Xn/\m.Xt.length<=9223372036854775807
structure PlL(p:Xj):Prop where
 rules:p.Xc.length<=9223372036854775807
 lines:∀r∈p.Xc,r.Xg.length<=9223372036854775807
 ports:p.Xq.length<=9223372036854775807
 port:∀x∈p.Xq,PortL x
structure ShortM(m:Xw):Prop where (attrs:m.Xn.length<=40) (data:m.Xt.length<=70000)
theorem short_ex{m:Xw}(h:AttrL m.Xn):∃b,h7_ m=some b/\(b=true->ShortM m):=by
 unfold h7_;cases hc:(((((decide ((m.Xu.length:Int)>1100))||(decide ((m.Xa.length:Int)>1100)))||(decide ((m.Yz.length:Int)>1100)))||(decide ((m.Xd.length:Int)>1100)))||(decide ((m.Xn.length:Int)>40)))||(decide ((m.Xt.length:Int)>70000))with
 | true=>exact⟨false,rfl,λe=>nomatch e⟩
 | false =>
  simp only[Bool.or_eq_false_iff,decide_eq_false_iff_not]at hc;obtain⟨b,hb,-⟩:=gM_ (body:=fH_ m) (λi s=>s=(i:Int)) (λ_=>True) m.Xn.length (az_ h.len) (λi s hi hs=>by
   subst hs;unfold fH_;rw[aY_ hi,cond_true,al_ hi];simp only[qBs];cases decide ((m.Xn[i].Xy.length:Int)>1100)with
   | true=>exact .inr ⟨_,rfl,trivial⟩
   | false =>
    simp only[cond_false,qBs];cases decide ((m.Xn[i].Xp.length:Int)>1100)with
    | true=>exact .inr ⟨_,rfl,trivial⟩
    | false=>exact .inl ⟨_,rfl,ai_ (by have:=h.len;omega)⟩) (λs hs=>by
   subst hs;unfold fH_;rw[aV_];exact⟨_,rfl,trivial⟩) rfl
  have hs:ShortM m:=⟨by omega,by omega⟩;simp only[cond_false];rw[show(0:Int)=((0:Nat):Int)from rfl,hb];cases b with
  | ret r=>exact⟨r,rfl,λ_=>hs⟩
  | fall _=>exact⟨true,rfl,λ_=>hs⟩
structure SmallP(p:Xj):Prop where
 ports:p.Xq.length<=20
 rules:p.Xc.length<=70
 lines:∀r∈p.Xc,r.Xg.length<=20
 queue:∀x∈p.Xq,x.Xf.length<=70
 msgs:∀x∈p.Xq,∀m∈x.Xf,ShortM m
theorem small_rule{p:Xj}{i:Nat}(hi:i<p.Xc.length)(h:p.Xc[i].Xg.length<=20):∃b,af_ (fI_ p.Xc[i] p (i:Int)) BIG 0=some b/\(b = .fall ()\/b = .ret false):=by
 refine gM_ (λk s=>s=(k:Int)) _ p.Xc[i].Xg.length (az_ (by omega)) (λk s hk hs => ?_) (λs hs => ?_) rfl
 .subst hs;unfold fI_;rw[aY_ hk,cond_true,al_ hi];simp only[qBs];rw[al_ hk];simp only[qBs];cases(((decide ((p.Xc[i].Xg[k].Xm.length:Int)>300))||(decide ((p.Xc[i].Xg[k].Xr.length:Int)>300)))||(decide ((p.Xc[i].Xg[k].Xe.length:Int)>300)))with
  | true=>exact .inr ⟨_,rfl,.inr rfl⟩
  | false=>exact .inl ⟨_,rfl,ai_ (by omega)⟩
 .subst hs;unfold fI_;rw[aV_];exact⟨_,rfl,.inl rfl⟩
def OutQ{α:Type}(Q:α->Prop)(o:Out α Bool):Prop:=o = .ret false\/∃a,o = .fall a/\Q a
theorem small_port{p:Xj}{i:Nat}(hi:i<p.Xq.length)(hL:PortL p.Xq[i]){n:Int}(hn:0<=n/\n<=200000):∃b,af_ (fK_ p.Xq[i] p (n,(i:Int))) BIG (n,0)=some b/\OutQ (λn'=>(0<=n'/\n'<=200000)/\∀m∈p.Xq[i].Xf,ShortM m) b:=by
 refine gM_ (λk s=>s.2=(k:Int)/\(0<=s.1/\s.1<=200000)/\∀m∈p.Xq[i].Xf.take k,ShortM m) _ p.Xq[i].Xf.length (az_ hL.q) (λk s hk hs => ?_) (λs hs => ?_) ⟨rfl,hn,by simp⟩
 .obtain⟨s1,s2⟩:=s;obtain⟨h2,h3,h4⟩:=hs
  dsimp only at h2 h3 h4
  subst h2;unfold fK_;simp only[];rw[aY_ hk,cond_true,al_ hi];simp only[qBs];rw[al_ hk];simp only[qBs];have hm:=hL.ms _ (List.getElem_mem hk);obtain⟨b,hb,hsh⟩:=short_ex hm.1;rw[hb];simp only[qBs];cases b with
  | false=>exact .inr ⟨_,rfl,.inl rfl⟩
  | true =>
   have hS:=hsh rfl;have hd:=hS.data;have hw:w64 (s1+(p.Xq[i].Xf[k].Xt.length:Int))=s1+(p.Xq[i].Xf[k].Xt.length:Int):=bb_ ⟨by omega,by omega⟩;rw[hw];cases hg:decide (s1+(p.Xq[i].Xf[k].Xt.length:Int)>200000)with
   | true=>exact .inr ⟨_,rfl,.inl rfl⟩
   | false =>
    have hg':=of_decide_eq_false hg;refine .inl ⟨_,rfl,ai_ (by have:=hL.q;omega),⟨by show 0<=_+_;omega,by show _+_<=_;omega⟩,λm hm => ?_⟩;rw[bD_ hk]at hm;rcases List.mem_append.1 hm with h|h
    .exact h4 m h
    .rw[List.mem_singleton.1 h];exact hS
 .obtain⟨s1,s2⟩:=s;obtain⟨h2,h3,h4⟩:=hs
  dsimp only at h2 h3 h4
  subst h2;unfold fK_;simp only[];rw[aV_];rw[List.take_length]at h4;exact⟨_,rfl,.inr ⟨_,rfl,h3,h4⟩⟩
theorem small_ex{p:Xj}(h:PlL p):∃b,d7_ p=some b/\(b=true->SmallP p):=by
 unfold d7_;cases hc:(decide ((p.Xq.length:Int)>20))||(decide ((p.Xc.length:Int)>70))with
 | true=>exact⟨false,rfl,λe=>nomatch e⟩
 | false =>
  simp only[Bool.or_eq_false_iff,decide_eq_false_iff_not]at hc;obtain⟨b1,hb1,hq1⟩:=gM_ (body:=fJ_ p) (λi s=>s=(i:Int)/\∀r∈p.Xc.take i,r.Xg.length<=20) (OutQ λ_=>∀r∈p.Xc,r.Xg.length<=20) p.Xc.length (az_ h.rules) (λi s hi hs=>by
   obtain⟨rfl,hI⟩:=hs;unfold fJ_;rw[aY_ hi,cond_true,al_ hi];simp only[qBs];cases hl:decide ((p.Xc[i].Xg.length:Int)>20)with
   | true=>exact .inr ⟨_,rfl,.inl rfl⟩
   | false =>
    have hl':=of_decide_eq_false hl;obtain⟨o,ho,hq⟩:=small_rule hi (by omega);simp only[cond_false];rw[ho];rcases hq with rfl|rfl
    .refine .inl ⟨_,rfl,ai_ (by omega),λr hr => ?_⟩;rw[bD_ hi]at hr;rcases List.mem_append.1 hr with h|h
     .exact hI r h
     .rw[List.mem_singleton.1 h];omega
    .exact .inr ⟨_,rfl,.inl rfl⟩) (λs hs=>by
   obtain⟨rfl,hI⟩:=hs;unfold fJ_;rw[aV_];rw[List.take_length]at hI;exact⟨_,rfl,.inr ⟨_,rfl,hI⟩⟩) (s:=(0:Int)) ⟨rfl,by simp⟩
  simp only[cond_false];rw[hb1];rcases hq1 with rfl|⟨_,rfl,hR⟩
  .exact⟨false,rfl,λe=>nomatch e⟩
  obtain⟨b2,hb2,hq2⟩:=gM_ (body:=fL_ p) (λi s=>s.2=(i:Int)/\(0<=s.1/\s.1<=200000)/\(∀x∈p.Xq.take i,x.Xf.length<=70)/\∀x∈p.Xq.take i,∀m∈x.Xf,ShortM m) (OutQ λ_=>(∀x∈p.Xq,x.Xf.length<=70)/\∀x∈p.Xq,∀m∈x.Xf,ShortM m) p.Xq.length (az_ h.ports) (λi s hi hs=>by
   obtain⟨s1,s2⟩:=s;obtain⟨h2,h3,h4,h5⟩:=hs
   dsimp only at h2 h3 h4 h5
   subst h2;unfold fL_;simp only[];rw[aY_ hi,cond_true,al_ hi];simp only[qBs];cases hl:decide ((p.Xq[i].Xf.length:Int)>70)with
   | true=>exact .inr ⟨_,rfl,.inl rfl⟩
   | false =>
    have hl':=of_decide_eq_false hl;simp only[cond_false,qBs];cases decide ((p.Xq[i].Xy.length:Int)>1000)with
    | true=>exact .inr ⟨_,rfl,.inl rfl⟩
    | false =>
     obtain⟨o,ho,hq⟩:=small_port hi (h.port _ (List.getElem_mem hi)) h3;simp only[cond_false];rw[ho];rcases hq with rfl|⟨n',rfl,hn',hm'⟩
     .exact .inr ⟨_,rfl,.inl rfl⟩
     .refine .inl ⟨_,rfl,ai_ (by omega),hn',λx hx => ?_,λx hx => ?_⟩
      .rw[bD_ hi]at hx;rcases List.mem_append.1 hx with h|h
       .exact h4 x h
       .rw[List.mem_singleton.1 h];omega
      .rw[bD_ hi]at hx;rcases List.mem_append.1 hx with h|h
       .exact h5 x h
       .rw[List.mem_singleton.1 h];exact hm') (λs hs=>by
   obtain⟨s1,s2⟩:=s;obtain⟨h2,h3,h4,h5⟩:=hs
   dsimp only at h2 h3 h4 h5
   subst h2;unfold fL_;simp only[];rw[aV_];rw[List.take_length]at h4 h5;exact⟨_,rfl,.inr ⟨_,rfl,h4,h5⟩⟩) (s:=((0:Int),(0:Int))) ⟨rfl,by omega,by simp,by simp⟩
  simp only[qBs];rw[hb2];rcases hq2 with rfl|⟨_,rfl,hQ⟩
  .exact⟨false,rfl,λe=>nomatch e⟩
  .exact⟨true,rfl,λ_=>⟨by omega,by omega,hR,hQ.1,hQ.2⟩⟩
def if_(y:Int):Bool:=decide (y<97)||decide (y>122)
def eD_(y:Int):Bool:=(((decide (y<97))||(decide (y>122)))&&((decide (y<48))||(decide (y>57))))&&(y != 45)&&(y != 95)
def headB:Str->Bool | []=>false|b::_ => !(if_ (b.toNat:Int))
def wordsB(s:Str):Bool:=headB s&&(decide (s.length<=32)&&s.all λb => !(eD_ (b.toNat:Int)))
def eE_(s:Str):Bool:=wordsB s&&(!(s==[114,117,108,101,115]) && !(s==[115,101,110,100]))
theorem noLet_cls{y:Int}(h:if_ y=false):eD_ y=false:=by
 unfold if_ at h;unfold eD_;rw[h];rfl
theorem isPort_eq(s:Str):ei_ s=some (eE_ s):=by
 unfold ei_ eE_ wordsB;cases s with
 | nil=>rfl
 | cons b t =>
  rw[show((b::t)==([]:Str))=false from rfl,Bool.false_or];by_cases hl:(b::t).length<=32
  .rw [decide_eq_false (show ¬(((b::t).length:Nat):Int)>32 by omega),decide_eq_true hl,Bool.true_and];have h0:an_ (b::t) 0=some (b.toNat:Int):=rfl;simp only[cond_false,h0,qBs];have hl2:=hR_ (body:=ea_ (b::t)) (b::t) (λb => !(eD_ (b.toNat:Int))) false (az_ (by omega)) (λi hi=>by
    unfold ea_;rw[aY_ hi,cond_true,cs_ hi];simp only[qBs];show(bif eD_ ((b::t)[i].toNat:Int)then _ else _)=_;cases eD_ ((b::t)[i].toNat:Int)with
    | true=>rfl
    | false =>
     simp only[cond_false,Bool.not_false,if_true];rw[ai_ (by omega)]) (by
    unfold ea_;rw[aV_];rfl)
   have hh:headB (b::t) = !(decide ((b.toNat:Int)<97)||decide ((b.toNat:Int)>122)):=rfl;rw[hh];generalize(b::t)=s at *
   cases decide ((b.toNat:Int)<97)with
   | true=>rfl
   | false =>
    cases decide ((b.toNat:Int)>122)with
    | true=>rfl
    | false =>
     simp only[cond_false,qBs,Bool.false_or,Bool.not_false,Bool.true_and];cases s==[114,117,108,101,115]with
     | true=>simp only[Bool.true_or,cond_true,Bool.not_true,Bool.false_and,Bool.and_false]
     | false =>
      cases s==[115,101,110,100]with
      | true=>simp only[Bool.or_true,cond_true,Bool.not_true,Bool.and_false]
      | false =>
       simp only[Bool.or_false,cond_false,Bool.not_false,Bool.and_true];refine aq_ hl2 ?_;cases s.all λb => !(eD_ (b.toNat:Int))<;>rfl
  .rw[decide_eq_true (show(((b::t).length:Nat):Int)>32 by omega),decide_eq_false hl];simp only[Bool.false_and,Bool.and_false,cond_true,qBs,Bool.true_or]
def gVd(i:Nat)(b:UInt8):Option Bool:=if(if_ (b.toNat:Int)&&(((i:Int)==0)||eD_ (b.toNat:Int)))=true then some false else none
theorem nz_{α β:Type}{g:Nat->α->Option β}{k:Nat}{x:α}{l:List α}(h:g k x=none):aP_ g k (x::l)=aP_ g (k+1) l:=by simp only[aP_,h]
theorem nA_{α β:Type}{g:Nat->α->Option β}{k:Nat}{x:α}{l:List α}{r:β}(h:g k x=some r):aP_ g k (x::l)=some r:=by simp only[aP_,h]
theorem scan_vd:∀(t:Str) (k:Nat),0<k->(aP_ gVd k t).getD true=t.all λb => !(eD_ (b.toNat:Int))
 | [],_,_=>rfl
 | b::t,k,hk=>by
  have h0:((k:Int)==0)=false:=beq_eq_false_iff_ne.2 (by omega);rw[List.all_cons,←scan_vd t (k+1) (by omega)];have hg:gVd k b=if eD_ (b.toNat:Int)=true then some false else none:=by
   unfold gVd;rw[h0,Bool.false_or];cases hc:eD_ (b.toNat:Int)with
   | true =>
    cases hl:if_ (b.toNat:Int)with
    | true=>rfl
    | false=>rw[noLet_cls hl]at hc;cases hc
   | false=>rw[Bool.and_false]
  cases hc:eD_ (b.toNat:Int)with
  | true=>rw[hc,if_pos rfl]at hg;rw[nA_ hg];rfl
  | false=>rw[hc,if_neg (λh=>nomatch h)]at hg;rw[nz_ hg];rfl
theorem valid05_eq(s:Str):h6_ s=some (wordsB s):=by
 unfold h6_ wordsB;cases s with
 | nil=>rfl
 | cons b t =>
  rw[decide_eq_false (show ¬(((b::t).length:Nat):Int)<1 by simp only[qLc];omega),Bool.false_or];by_cases hl:(b::t).length<=32
  .rw[decide_eq_false (show ¬(((b::t).length:Nat):Int)>32 by omega),decide_eq_true hl,Bool.true_and];have hs:=bC_ (body:=fG_ (b::t)) (b::t) gVd (az_ (by omega)) (λi hi=>by
    unfold fG_;rw[aY_ hi,cond_true,cs_ hi];simp only[qBs];unfold gVd;have e:((!((decide (((b::t)[i].toNat:Int)>=97))&&(decide (((b::t)[i].toNat:Int)<=122))))&&(((i:Int)==0)||(((!((decide (((b::t)[i].toNat:Int)>=48))&&(decide (((b::t)[i].toNat:Int)<=57))))&&(((b::t)[i].toNat:Int) != 45))&&(((b::t)[i].toNat:Int) != 95))))=(if_ ((b::t)[i].toNat:Int)&&(((i:Int)==0)||eD_ ((b::t)[i].toNat:Int))):=by
     generalize((b::t)[i].toNat:Int)=y;generalize((i:Int)==0)=z;unfold eD_ if_;rw[show decide (y>=97) = !(decide (y<97))by by_cases h:y<97<;>simp[h]<;>omega,show decide (y<=122) = !(decide (y>122))by by_cases h:y>122<;>simp[h]<;>omega,show decide (y>=48) = !(decide (y<48))by by_cases h:y<48<;>simp[h]<;>omega,show decide (y<=57) = !(decide (y>57))by by_cases h:y>57<;>simp[h]<;>omega];cases decide (y<97)<;>cases decide (y>122)<;>cases decide (y<48)<;>cases decide (y>57)<;>cases y != 45<;>cases y != 95<;>cases z<;>rfl
    rw[e];cases if_ ((b::t)[i].toNat:Int)&&(((i:Int)==0)||eD_ ((b::t)[i].toNat:Int))with
    | true=>rfl
    | false =>
     simp only[cond_false,Bool.false_eq_true,if_false,ec_];rw[ai_ (by omega)]) (by
    unfold fG_;rw[aV_];rfl)
   have h1:=cc_ (k:=λwo1=>match wo1 with
    | .ret r1=>some r1
    | .fall _=>some true) (x:=true) hs (λ_=>rfl) rfl
   simp only[cond_false];refine Eq.trans h1 ?_;rw[List.all_cons,←scan_vd t 1 (by omega)];have hh:headB (b::t) = !(if_ (b.toNat:Int)):=rfl;rw[hh];cases hn:if_ (b.toNat:Int)with
   | true =>
    rw[nA_ (show gVd 0 b=some false by unfold gVd;rw[hn];rfl)];rfl
   | false =>
    rw[nz_ (show gVd 0 b=none by unfold gVd;rw[hn];rfl),noLet_cls hn];rfl
  .rw[decide_eq_true (show(((b::t).length:Nat):Int)>32 by omega),decide_eq_false hl];simp only[Bool.false_and,Bool.and_false,cond_true]
theorem nX_(s:Str):el_ s=some (eE_ s):=by
 unfold el_ eE_;refine aq_ (valid05_eq s) ?_;rw[Bool.and_assoc]
theorem portB_ne{s:Str}(h:eE_ s=true):s≠[46,46]/\s≠[114,117,108,101,115]/\s≠[115,101,110,100]:=by
 refine⟨λe => ?_,λe => ?_,λe => ?_⟩<;>subst e<;>revert h<;>decide
def gw_(m:Xw):Bool:=decide (ct_ m=0)&&decide ((fm_ m).length<=65536)
theorem fits_eq{m:Xw}(h:AttrL m.Xn):cG_ m=some (gw_ m):=by
 unfold cG_ gw_;refine aq_ (rz_ h) ?_;by_cases h0:ct_ m=0
 .rw[if_pos h0,decide_eq_true h0,Bool.true_and];simp only[beq_self_eq_true,Bool.true_and]
  congr 1
  by_cases h1:(fm_ m).length<=65536
  .rw[decide_eq_true h1,decide_eq_true (by omega)]
  .rw[decide_eq_false h1,decide_eq_false (by omega)]
 .rw[if_neg h0,decide_eq_false h0];simp only[beq_eq_false_iff_ne.2 h0,Bool.false_and]
theorem idxM_eq{l:List Xw}{f:Xw->Option Bool}{p:Xw->Bool}(hl:l.length<=9223372036854775807)(hf:∀m∈l,f m=some (p m)):be_ l f=some (at_ p l):=by
 unfold be_;have hs:=bC_ (body:=bn_ l f) l (λi x=>if p x then some ((i:Nat):Int)else none) (az_ hl) (λi hi=>by
  unfold bn_;rw[aY_ hi,cond_true,al_ hi];simp only[qBs];rw[hf _ (List.getElem_mem hi)];simp only[qBs];cases p l[i]with
  | true=>rfl
  | false =>
   simp only[cond_false,Bool.false_eq_true,if_false,ec_];rw[ai_ (by omega)]) (by
  unfold bn_;rw[aV_];rfl)
 rw[←nw_];exact cc_ (x:=(-1:Int)) hs (λr=>rfl) rfl
theorem idxP_eq{l:List Xv}{f:Xv->Option Bool}{p:Xv->Bool}(hl:l.length<=9223372036854775807)(hf:∀m∈l,f m=some (p m)):aD_ l f=some (at_ p l):=by
 unfold aD_;have hs:=bC_ (body:=bu_ l f) l (λi x=>if p x then some ((i:Nat):Int)else none) (az_ hl) (λi hi=>by
  unfold bu_;rw[aY_ hi,cond_true,al_ hi];simp only[qBs];rw[hf _ (List.getElem_mem hi)];simp only[qBs];cases p l[i]with
  | true=>rfl
  | false =>
   simp only[cond_false,Bool.false_eq_true,if_false,ec_];rw[ai_ (by omega)]) (by
  unfold bu_;rw[aV_];rfl)
 rw[←nw_];exact cc_ (x:=(-1:Int)) hs (λr=>rfl) rfl
def badN(x:Xv):Bool:=((decide (x.Xl<0)||decide (x.Xl>9007199254740991))||decide ((x.Xf.length:Int)>64))||((x.Xl==0)&&decide ((x.Xf.length:Int)>0))
def ig_(x:Xv):Bool:=eE_ x.Xy&&(!(badN x)&&x.Xf.all gw_)
theorem rightPort_eq{x:Xv}(h:PortL x):eb_ x=some (ig_ x):=by
 unfold eb_ ig_;refine aq_ (isPort_eq _) ?_;have e:((((!(eE_ x.Xy))||(decide (x.Xl<0)))||(decide (x.Xl>9007199254740991)))||(decide ((x.Xf.length:Int)>64))||((x.Xl==0)&&(decide ((x.Xf.length:Int)>0))))=(!(eE_ x.Xy)||badN x):=by
  unfold badN;cases eE_ x.Xy<;>cases decide (x.Xl<0)<;>cases decide (x.Xl>9007199254740991)<;>cases decide ((x.Xf.length:Int)>64)<;>rfl
 rw[e];cases eE_ x.Xy with
 | false=>rfl
 | true =>
  cases badN x with
  | true=>rfl
  | false =>
   simp only[Bool.not_true,Bool.false_or,cond_false,Bool.not_false,Bool.true_and];have hi:be_ x.Xf (λ(u1:Xw)=>Option.bind (dv_ u1) λ(v1:Bool)=>some v1)=some (at_ (λm => !(gw_ m)) x.Xf):=idxM_eq h.q λm hm=>by
    unfold dv_;rw[fits_eq (h.ms m hm).1];rfl
   unfold bR_;rw[hi];simp only[qBs]
   congr 1
   have hn:=at_neg (λm => !(gw_ m)) x.Xf;have ha:x.Xf.all gw_=(x.Xf.find? λm => !(gw_ m)).isNone:=by
    rw[Bool.eq_iff_iff,List.all_eq_true,Option.isNone_iff_eq_none,List.find?_eq_none];constructor
    .intro h m hm;rw[h m hm];simp
    .intro h m hm;simpa using h m hm
   rw[ha,←hn];by_cases h0:at_ (λm => !(gw_ m)) x.Xf<0
   .rw[decide_eq_true h0,decide_eq_false (by omega)];rfl
   .rw[decide_eq_false h0,decide_eq_true (by omega)];rfl
def prevN(l:List Xv)(i:Nat):Str:=match l[i-1]? with|some y=>y.Xy|none=>[]
def lowX(l:List Xv)(i:Nat)(x:Xv):Bool:=decide (0<i) && !(Op.bytesLess (prevN l i) x.Xy)
def gR(l:List Xv)(i:Nat)(x:Xv):Option Bool:=if(!(ig_ x)||lowX l i x)=true then some false else none
def it_(p:Xj):Bool:=((textV p.Xc).2==0)&&(decide (p.Xq.length<=16)&&(aP_ (gR p.Xq) 0 p.Xq).getD true)
theorem low_eq{l:List Xv}{i:Nat}(hi:i<l.length)(hl:l.length<=100)(x:Xv):(Option.bind (bif(decide ((i:Int)>0))then
    (ag_ l (w64 ((i:Int)-1))).bind λy9 =>
    some (!(Op.bytesLess y9.Xy x.Xy))
     else some false) λ(y10:Bool)=>some y10)=some (lowX l i x):=by
 unfold lowX;rcases Nat.eq_zero_or_pos i with rfl|h
 .rfl
 .rw[decide_eq_true (show(i:Int)>0 by omega),decide_eq_true h,cond_true,w_pred h (by omega),al_ (show i-1<l.length by omega)];unfold prevN;rw[List.getElem?_eq_getElem (show i-1<l.length by omega)];rfl
theorem right_eq{p:Xj}(h:PlL p):eK_ p=some (it_ p):=by
 unfold eK_ it_;refine aq_ (text_eq23 _) ?_;cases h0:(textV p.Xc).2==0 with
 | false=>simp only[bne,h0,Bool.not_false,Bool.true_or,cond_true,Bool.false_and]
 | true =>
  simp only[bne,h0,Bool.not_true,Bool.false_or,Bool.true_and];by_cases h1:p.Xq.length<=16
  .rw [decide_eq_false (show ¬(p.Xq.length:Int)>16 by omega),decide_eq_true h1,cond_false,Bool.true_and];have hs:=bC_ (body:=ez_ p) p.Xq (gR p.Xq) (az_ h.ports) (λi hi=>by
    unfold ez_;rw[aY_ hi,cond_true,al_ hi];simp only[qBs];rw[rightPort_eq (h.port _ (List.getElem_mem hi))];simp only[qBs];unfold gR;cases ig_ p.Xq[i]with
    | false=>rfl
    | true =>
     simp only[Bool.not_true,cond_false,Bool.false_or];rw[low_eq hi (by omega)];simp only[qBs];cases lowX p.Xq i p.Xq[i]with
     | true=>rfl
     | false =>
      simp only[cond_false,Bool.false_eq_true,if_false,ec_];rw[ai_ (by omega)]) (by
    unfold ez_;rw[aV_];rfl)
   exact cc_ (x:=true) hs (λ_=>rfl) rfl
  .rw[decide_eq_true (show(p.Xq.length:Int)>16 by omega),decide_eq_false h1];rfl
theorem qz_{x:Xv}(h:PortL x):af_ (fR_ x) BIG 0=some (if x.Xf.all gw_ then .fall ()else .ret false):=by
 refine hR_ x.Xf gw_ false (az_ h.q) (λi hi => ?_) (by unfold fR_;rw[aV_];rfl);unfold fR_;rw[aY_ hi,cond_true,al_ hi];simp only[qBs];rw[os_ (h.ms _ (List.getElem_mem hi)).1];simp only[qBs];unfold gw_;by_cases h0:ct_ x.Xf[i]=0
 .rw[if_pos h0,decide_eq_true h0,Bool.true_and];simp only[bne_self_eq_false,Bool.false_or];by_cases h1:(fm_ x.Xf[i]).length<=65536
  .rw[decide_eq_true h1,decide_eq_false (show ¬((fm_ x.Xf[i]).length:Int)>65536 by omega),cond_false,if_pos rfl,ai_ (by have:=h.q;omega)]
  .rw[decide_eq_false h1,decide_eq_true (show((fm_ x.Xf[i]).length:Int)>65536 by omega)];rfl
 .rw[if_neg h0,decide_eq_false h0,show((ct_ x.Xf[i]) != 0)=true from bne_iff_ne.2 h0];rfl
theorem nY_ {p:Xj} (h:PlL p):d8_ p=some (it_ p):=by
 unfold d8_ it_;refine aq_ (refText_eq23 _) ?_;cases h0:(textV p.Xc).2==0 with
 | false=>simp only[bne,h0,Bool.not_false,Bool.true_or,cond_true,Bool.false_and]
 | true =>
  simp only[bne,h0,Bool.not_true,Bool.false_or,Bool.true_and];by_cases h1:p.Xq.length<=16
  .rw [decide_eq_false (show ¬(p.Xq.length:Int)>16 by omega),decide_eq_true h1,cond_false,Bool.true_and]
   have hs:=bC_ (body:=fS_ p) p.Xq (gR p.Xq) (az_ h.ports) (λi hi=>by
    unfold fS_;rw[aY_ hi,cond_true,al_ hi];simp only[qBs];rw[nX_];simp only[qBs];have hlo:=low_eq hi (by omega) p.Xq[i];have hq:=qz_ (h.port _ (List.getElem_mem hi));unfold gR ig_;generalize lowX p.Xq i p.Xq[i]=lo at *
    cases eE_ p.Xq[i].Xy with
    | false=>rfl
    | true =>
     simp only[Bool.not_true,cond_false];rw[hlo];simp only[qBs];have e:((((lo||(decide (p.Xq[i].Xl<0)))||(decide (p.Xq[i].Xl>9007199254740991)))||(decide ((p.Xq[i].Xf.length:Int)>64)))||((p.Xq[i].Xl==0)&&(decide ((p.Xq[i].Xf.length:Int)>0))))=(lo||badN p.Xq[i]):=by
      unfold badN;simp only[Bool.or_assoc]
     rw[e];cases lo with
     | true=>simp only[Bool.true_or,cond_true,Bool.or_true,if_true,ec_]
     | false =>
      cases badN p.Xq[i]with
      | true=>rfl
      | false =>
       simp only[Bool.or_false,cond_false,Bool.not_false,Bool.true_and];rw[hq];cases p.Xq[i].Xf.all gw_ with
       | true =>
        simp only[if_true,qBs,Bool.not_true,Bool.false_eq_true,if_false,ec_];rw[ai_ (by omega)]
       | false=>rfl) (by
    unfold fS_;rw[aV_];rfl)
   exact cc_ (x:=true) hs (λ_=>rfl) rfl
  .rw[decide_eq_true (show(p.Xq.length:Int)>16 by omega),decide_eq_false h1];rfl
structure RightP(p:Xj):Prop where
 text:(textV p.Xc).2=0
 ports:p.Xq.length<=16
 each:∀i x,p.Xq[i]? = some x->ig_ x=true/\lowX p.Xq i x=false
theorem rightV_iff(p:Xj):it_ p=true↔RightP p:=by
 have key:(aP_ (gR p.Xq) 0 p.Xq).getD true=true↔∀i x,p.Xq[i]? = some x->ig_ x=true/\lowX p.Xq i x=false:=by
  cases hs:aP_ (gR p.Xq) 0 p.Xq with
  | none =>
   rw[scan_none]at hs;refine⟨λ_ i x hx => ?_,λ_=>rfl⟩;have:=hs i x hx;rw[Nat.zero_add]at this;unfold gR at this;cases hg:ig_ x with
   | false=>rw[hg]at this;simp at this
   | true =>
    rw[hg]at this;cases hl:lowX p.Xq i x with
    | false=>exact⟨rfl,rfl⟩
    | true=>rw[hl]at this;simp at this
  | some r =>
   obtain⟨i,x,hx,hg,-⟩:=fk_ hs;rw[Nat.zero_add]at hg;unfold gR at hg;split at hg
   .rename_i hc;obtain rfl:=qSj hg;refine⟨λe=>(nomatch e),λh => ?_⟩;obtain⟨h1,h2⟩:=h i x hx;rw[h1,h2]at hc;cases hc
   .cases hg
 unfold it_;rw[qAn,qAn,qDe,beq_iff_eq,key];exact⟨λh=>⟨h.1,h.2.1,h.2.2⟩,λh=>⟨h.text,h.ports,h.each⟩⟩
theorem right_true{p:Xj}(ha:br_=some true)(h:PlL p):cH_ p=some true:=by
 unfold cH_;obtain⟨b,hb,-⟩:=small_ex h;refine aq_ hb ?_;cases b with
 | false=>simp only[Bool.not_false,cond_true,ha,qBs]
 | true =>
  simp only[Bool.not_true,cond_false];refine aq_ (right_eq h) (aq_ (nY_ h) ?_);simp only[beq_self_eq_true,cond_true,ha,qBs]
def outT{δ β:Type}(d:δ):Option β->Out δ β|some r => .ret r|none => .fall d
theorem loop_scanT{σ α β δ:Type}{body:σ->Option (Step σ (Out δ β))}(T:Nat->σ)(xs:List α)(g:Nat->α->Option β)(d:δ)(hn:xs.length<BIG)
  (hb:∀i (h:i<xs.length),body (T i)=some (match g i xs[i]with|some r => .done (.ret r)|none => .next (T (i+1))))
  (he:body (T xs.length)=some (.done (.fall d))):af_ body BIG (T 0)=some (outT d (aP_ g 0 xs)):=by
 refine gK_ (J:=λi s b=>s=T i/\b=outT d (aP_ g i (xs.drop i))) xs.length hn (λs b hJ => ?_) (λi s b hi hJ => ?_) (by simp)
 .obtain⟨rfl,rfl⟩:=hJ;rw[he];simp[aP_,outT]
 .obtain⟨rfl,rfl⟩:=hJ;rw[hb i hi,List.drop_eq_getElem_cons hi];cases hg:g i xs[i]with
  | some r=>rw[nA_ hg];exact .inl rfl
  | none=>rw[nz_ hg];exact .inr ⟨_,rfl,rfl,rfl⟩
theorem pN_{α β:Type}{g:Nat->α->Option β}{l:List α}{i:Nat}{x:α}{r:β}(hx:l[i]? = some x)(hg:g i x=some r)(hp:∀j y,j<i->l[j]? = some y->g j y=none):aP_ g 0 l=some r:=by
 cases hs:aP_ g 0 l with
 | none =>
  have:=scan_none.1 hs i x hx;rw[Nat.zero_add,hg]at this;cases this
 | some q =>
  obtain⟨k,y,hy,hgk,hpk⟩:=fk_ hs;rw[Nat.zero_add]at hgk;rcases Nat.lt_trichotomy k i with h|h|h
  .rw[hp k y h hy]at hgk;cases hgk
  .subst h;rw[hx]at hy;obtain rfl:=qSj hy;rw[hg]at hgk;exact hgk.symm
  .have:=hpk i x h hx;rw[Nat.zero_add,hg]at this;cases this
def nilP:Xj:=Xj.mk [] []
def gx_(s:Str):Xv:=Xv.mk s [] 0
def gNew(l:List Str)(i:Nat)(s:Str):Option (Xj×Int):=if eE_ s=true then(if(l.take i).contains s=true then some (nilP,7)else none)else some (nilP,6)
theorem new_loop{l:List Str}(hl:l.length<=16):af_ (ej_ l) BIG (0,[],[])=some (outT ([],l.map gx_) (aP_ (gNew l) 0 l)):=by
 have h:=loop_scanT (body:=ej_ l) (λi=>((i:Int),([]:List Xh),(l.take i).map gx_)) l (gNew l) ([],l.map gx_) (az_ (by omega)) (λi hi => ?_) ?_
 .exact h
 .unfold ej_;simp only[];rw[aY_ hi,cond_true,al_ hi];simp only[qBs];rw[isPort_eq];simp only[qBs];unfold gNew;cases eE_ l[i]with
  | false=>rfl
  | true =>
   simp only[Bool.not_true,cond_false,if_true];rw[cQ_ (Int.le_refl 0) (by omega) (by omega)];simp only[qBs,Int.toNat_natCast,Int.toNat_zero,List.drop_zero];rw[fp_ (by rw[List.length_take];omega)];simp only[qBs];cases(l.take i).contains l[i]with
   | true=>rfl
   | false =>
    simp only[cond_false,Bool.false_eq_true,if_false];rw[bv_ (by simp only[List.length_map,List.length_take,List.length_singleton];omega) (by simp only[List.length_map,List.length_take,List.length_singleton];omega)];simp only[qBs];rw[ai_ (by omega),bD_ hi,List.map_append];rfl
 .unfold ej_;simp only[];rw[aV_,List.take_length];rfl
theorem names_nodup{l:List Str}(h:∀i x,l[i]? = some x->(l.take i).contains x=false):l.Nodup:=by
 rw[List.Nodup,List.pairwise_iff_getElem];intro i j hi hj hij e;have:=h j l[j] (List.getElem?_eq_getElem hj);rw[←e]at this;have hm:l[i]∈l.take j:=by
  rw[List.mem_take_iff_getElem];exact⟨i,by omega,rfl⟩
 rw[List.contains_iff_mem.2 hm]at this;cases this
theorem nZ_(l:List Str):(l.map gx_).map (λx:Xv=>x.Xy)=l:=by
 rw[List.map_map];exact List.map_id l
def keyLt(a b:Xv):Prop:=Op.bytesLess a.Xy b.Xy=true
theorem less_asymm{a b:Str}(h:Op.bytesLess a b=true):Op.bytesLess b a=false:=by
 cases h2:Op.bytesLess b a with
 | false=>rfl
 | true=>have:=d4_ _ _ _ h h2;rw[dp_]at this;cases this
theorem lt_le{a b:Xv}(h:keyLt a b):leN (λx:Xv=>x.Xy) a b=true:=by
 unfold leN;rw[less_asymm h];rfl
theorem n0_{α:Type}(p:α->Bool):∀l:List α,∃A B,l=A++B/\(∀a∈A,p a=true)/\(B=[]\/∃b t,B=b::t/\p b=false)
 | []=>⟨[],[],rfl,by simp,.inl rfl⟩
 | x::l=>by
  cases hx:p x with
  | false=>exact⟨[],x::l,rfl,by simp,.inr ⟨x,l,rfl,hx⟩⟩
  | true =>
   obtain⟨A,B,rfl,hA,hB⟩:=n0_ p l;refine⟨x::A,B,rfl,λa ha => ?_,hB⟩;rcases List.mem_cons.1 ha with rfl|h
   .exact hx
   .exact hA a h
theorem newref_pos{A B:List Xv}{l:List Str}{i:Nat}(hi:i<l.length)(hlen:(A++B).length<=16)(hA:∀a∈A,Op.bytesLess a.Xy l[i]=true)(hB:B=[]\/∃b t,B=b::t/\Op.bytesLess b.Xy l[i]=false) :
  af_ (hd_ (A++B,(i:Int)) l) BIG 0=some ((A.length:Nat):Int):=by
 have hab:A.length<=(A++B).length:=by rw[qLa];omega
 refine bB_ (λk=>(k:Int)) A.length (az_ (by omega)) (λk hk => ?_) ?_
 .unfold hd_;have hk2:k<(A++B).length:=by omega
  simp only[];rw[aY_ hk2,cond_true,al_ hk2,al_ hi];simp only[qBs];rw[List.getElem_append_left hk,hA _ (List.getElem_mem hk),cond_true,ai_ (by omega)]
 .unfold hd_;simp only[];rcases hB with rfl|⟨b,t,rfl,hb⟩
  .rw[List.append_nil,aV_];rfl
  .have hk2:A.length<(A++b::t).length:=by rw[qLa,qLc];omega
   rw[aY_ hk2,cond_true,al_ hk2,al_ hi];simp only[qBs];rw[List.getElem_append_right (Nat.le_refl _)];simp only[Nat.sub_self,List.getElem_cons_zero];rw[hb];rfl
theorem newref_loop {l:List Str} (hl:l.length<=16):∃b,af_ (he_ l) BIG ([],0)=some b/\(match aP_ (gNew l) 0 l with
  | some r=>b = .ret r
  | none=>∃out:List Xv,b = .fall out/\out.Perm (l.map gx_)/\out.Pairwise keyLt):=by
 refine gM_ (λi s=>s.2=(i:Int)/\s.1.Perm ((l.take i).map gx_)/\s.1.Pairwise keyLt/\∀j x,j<i->l[j]? = some x->gNew l j x=none) _ l.length (az_ (by omega)) (λi s hi hs => ?_) (λs hs => ?_) ⟨rfl,by simp,List.Pairwise.nil,λj x h=>absurd h (Nat.not_lt_zero _)⟩
 .obtain⟨out,s2⟩:=s;obtain⟨h2,hp,hw,hg⟩:=hs
  dsimp only at h2 hp hw
  subst h2;have hx:l[i]? = some l[i]:=List.getElem?_eq_getElem hi;have hlen:out.length=i:=by rw[hp.length_eq,List.length_map,List.length_take];omega
  unfold he_;simp only[];rw[aY_ hi,cond_true,al_ hi];simp only[qBs];rw[nX_];simp only[qBs];cases hpb:eE_ l[i]with
  | false =>
   refine .inr ⟨_,rfl,?_⟩;rw[pN_ hx (show gNew l i l[i]=some (nilP,6)by unfold gNew;rw[hpb];rfl) hg];rfl
  | true =>
   simp only[Bool.not_true,cond_false];obtain⟨A,B,rfl,hA,hB⟩:=n0_ (λx:Xv=>Op.bytesLess x.Xy l[i]) out;have hpos:=newref_pos hi (by omega) hA hB;rw[hpos];simp only[qBs];obtain⟨hwA,hwB,hwAB⟩:=List.pairwise_append.1 hw;have hin:∀nm:Str,nm∈l.take i↔nm∈(A++B).map (λx:Xv=>x.Xy):=λnm=>by
    rw[(hp.map (λx:Xv=>x.Xy)).mem_iff,nZ_]
   have hd:Option.bind (bif(decide (((A.length:Nat):Int)<((A++B).length:Int)))then
     (ag_ (A++B) ((A.length:Nat):Int)).bind λy18 =>
     some (y18.Xy==l[i])
      else some false) (λ(y:Bool)=>some y)=some ((l.take i).contains l[i]):=by
    rcases hB with rfl|⟨b,t,rfl,hb⟩
    .rw[List.append_nil,aV_,cond_false];have:(l.take i).contains l[i]=false:=by
      rw[Bool.eq_false_iff];intro h;have hm:=(hin _).1 (List.contains_iff_mem.1 h);rw[List.append_nil,List.mem_map]at hm;obtain⟨a,ha,e⟩:=hm;have:=hA a ha;rw[e,dp_]at this;cases this
     rw[this];rfl
    .have hk2:A.length<(A++b::t).length:=by rw[qLa,qLc];omega
     rw[aY_ hk2,cond_true,al_ hk2];simp only[qBs];rw[List.getElem_append_right (Nat.le_refl _)];simp only[Nat.sub_self,List.getElem_cons_zero]
     congr 1
     rw[Bool.eq_iff_iff,beq_iff_eq,List.contains_iff_mem,hin];constructor
     .intro e;exact List.mem_map.2 ⟨b,by simp,e⟩
     .intro hm;obtain⟨a,ha,e⟩:=List.mem_map.1 hm;rcases List.mem_append.1 ha with h|h
      .have:=hA a h;rw[e,dp_]at this;cases this
      .rcases List.mem_cons.1 h with rfl|h
       .exact e
       .have h3:keyLt b a:=(List.pairwise_cons.1 hwB).1 a h;unfold keyLt at h3;rw[e]at h3;rw[h3]at hb;cases hb
   obtain⟨y,hy,e⟩:=bind_some hd;obtain rfl:=qSj e;rw[hy];simp only[qBs];cases hc:(l.take i).contains l[i]with
   | true =>
    refine .inr ⟨_,rfl,?_⟩;rw[pN_ hx (show gNew l i l[i]=some (nilP,7)by unfold gNew;rw[hpb,hc];rfl) hg];rfl
   | false =>
    simp only[cond_false];have hll:A.length+B.length=i:=by rw[←hlen,qLa]
    rw[cQ_ (Int.le_refl 0) (by omega) (by rw[qLa];omega),cQ_ (by omega) (by rw[qLa];omega) (Int.le_refl _)];simp only[qBs,Int.toNat_natCast,Int.toNat_zero,List.drop_zero];rw[List.take_left,List.take_length,List.drop_left];rw[clone_any (by omega) (by omega)];simp only[qBs];rw[bv_ (by simp only[List.length_singleton];omega) (by simp only[List.length_singleton];omega)];simp only[qBs];rw[bv_ (by simp only[qLa,List.length_singleton];omega) (by simp only[qLa,List.length_singleton];omega)];simp only[qBs];have hno:∀b∈A++B,b.Xy≠l[i]:=λb hb e=>by
     have:l[i]∈l.take i:=(hin _).2 (List.mem_map.2 ⟨b,hb,e⟩);rw[List.contains_iff_mem.2 this]at hc;cases hc
    have hBl:∀b∈B,Op.bytesLess l[i] b.Xy=true:=by
     rcases hB with rfl|⟨b,t,rfl,hb⟩
     .intro b hb;cases hb
     .have hb1:Op.bytesLess l[i] b.Xy=true:=by
       cases h:Op.bytesLess l[i] b.Xy with
       | true=>rfl
       | false=>exact absurd (h3_ _ _ hb h) (hno b (by simp))
      intro c hcm;rcases List.mem_cons.1 hcm with rfl|h
      .exact hb1
      .exact d4_ _ _ _ hb1 ((List.pairwise_cons.1 hwB).1 c h)
    refine .inl ⟨_,rfl,ai_ (by omega),?_,?_,λj x hj hxj => ?_⟩
    .show((A++[gx_ l[i]])++B).Perm _;rw[bD_ hi,List.map_append,List.append_assoc];refine(List.perm_middle (a:=gx_ l[i]) (l₁ := A) (l₂ := B)).trans ?_;refine(hp.cons _).trans ?_;exact(List.perm_append_singleton _ _).symm
    .show((A++[gx_ l[i]])++B).Pairwise keyLt;rw[List.append_assoc,List.pairwise_append];refine⟨hwA,?_,λa ha b hb => ?_⟩
     .rw[List.singleton_append,List.pairwise_cons];exact⟨λb hb=>hBl b hb,hwB⟩
     .rcases List.mem_cons.1 (show b∈gx_ l[i]::B from hb)with rfl|h
      .exact hA a ha
      .exact hwAB a ha b h
    .rcases Nat.lt_or_ge j i with h|h
     .exact hg j x h hxj
     .obtain rfl:j=i:=by omega
      rw[hx]at hxj;obtain rfl:=qSj hxj;unfold gNew;rw[hpb,hc];rfl
 .obtain⟨out,s2⟩:=s;obtain⟨h2,hp,hw,hg⟩:=hs
  dsimp only at h2 hp hw
  subst h2;unfold he_;simp only[];rw[aV_];refine⟨_,rfl,?_⟩;rw[show aP_ (gNew l) 0 l=none from scan_none.2 λi x hx=>by
   rw[Nat.zero_add];exact hg i x (List.getElem?_eq_some_iff.1 hx).1 hx]
  rw[List.take_length]at hp;exact⟨out,rfl,hp,hw⟩
theorem new_both(l:List Str):∃r,f2_ l=some r/\jR_ l=some r/\r.1.Xc=[]/\r.1.Xq.length<=16/\∀x∈r.1.Xq,x.Xf=[]:=by
 unfold f2_ jR_;by_cases hl:l.length<=16
 .rw [decide_eq_false (show ¬(l.length:Int)>16 by omega)];simp only[cond_false];rw[new_loop hl];obtain⟨b,hb,hq⟩:=newref_loop hl;rw[hb];simp only[qBs];cases hs:aP_ (gNew l) 0 l with
  | some r =>
   rw[hs]at hq
   dsimp only at hq
   subst hq;refine⟨r,rfl,rfl,?_⟩;obtain⟨i,x,-,hg,-⟩:=fk_ hs;unfold gNew at hg;have hr:r.1=nilP:=by
    split at hg
    .split at hg
     .rw[←qSj hg]
     .cases hg
    .rw[←qSj hg]
   rw[hr];exact⟨rfl,Nat.zero_le _,λx hx=>nomatch hx⟩
  | none =>
   rw[hs]at hq;obtain⟨out,rfl,hp,hw⟩:=hq
   dsimp only
   have hnd:l.Nodup:=names_nodup λi x hx=>by
    have:=scan_none.1 hs i x hx;rw[Nat.zero_add]at this;unfold gNew at this;split at this
    .split at this
     .cases this
     .rename_i h;exact Bool.eq_false_iff.2 h
    .cases this
   have hsrt:gW_ (λx:Xv=>x.Xy) (l.map gx_)=some (isortN (leN λx:Xv=>x.Xy) (l.map gx_)):=by
    unfold gW_;rw[if_pos (by rw[List.length_map];omega),if_pos (by rw[nZ_];exact hnd)]
   have he:=pm_ hsrt hp (hw.imp λh=>lt_le h);simp only[outT];rw[hsrt];simp only[qBs];rw[←he];refine⟨_,rfl,rfl,rfl,by rw[hp.length_eq,List.length_map];exact hl,λx hx => ?_⟩;obtain⟨s,-,rfl⟩:=List.mem_map.1 (hp.mem_iff.1 hx);rfl
 .rw[decide_eq_true (show(l.length:Int)>16 by omega)];exact⟨_,rfl,rfl,rfl,Nat.zero_le _,λx hx=>nomatch hx⟩
structure SameL(p:Xj):Prop where
 rules:RulesL p.Xc
 ports:p.Xq.length<=9223372036854775807
 queue:∀x∈p.Xq,x.Xf.length<=9223372036854775807
 attrs:∀x∈p.Xq,∀m∈x.Xf,m.Xn.length<=9223372036854775807
theorem same24_refl{p:Xj}(h:SameL p):iY_ p p=some true:=by
 unfold iY_;refine aq_ (qy_ h.rules) ?_;rw[bne_self_eq_false];simp only[Bool.not_true,Bool.or_false,cond_false];have hL:af_ (gp_ p p) BIG 0=some (.fall ()):=by
  refine bB_ (T:=λi=>(i:Int)) p.Xq.length (az_ h.ports) (λi hi => ?_) (by unfold gp_;rw[aV_];rfl);unfold gp_;rw[aY_ hi,cond_true,al_ hi];simp only[qBs];rw[bne_self_eq_false,bne_self_eq_false,beq_self_eq_true];simp only[Bool.not_true,Bool.or_false,cond_false];have hq:=h.queue _ (List.getElem_mem hi);have hin:af_ (go_ p.Xq[i] p.Xq[i]) BIG 0=some (.fall ()):=by
   refine bB_ (T:=λk=>(k:Int)) p.Xq[i].Xf.length (az_ hq) (λk hk => ?_) (by unfold go_;rw[aV_];rfl);unfold go_;rw[aY_ hk,cond_true,al_ hk];simp only[qBs];rw[same_refl (h.attrs _ (List.getElem_mem hi) _ (List.getElem_mem hk))];simp only[qBs,Bool.not_true,cond_false];rw[ai_ (by omega)]
  rw[hin];simp only[qBs];rw[ai_ (by have:=h.ports;omega)]
 refine aq_ hL rfl
theorem news_true{l:List Str}(ha:br_=some true):c2_ l=some true:=by
 unfold c2_;by_cases hl:l.length<=30
 .rw[decide_eq_false (show ¬(l.length:Int)>30 by omega),cond_false];obtain⟨b,hb,hq⟩:=gM_ (body:=da_ l) (λi s=>s=(i:Int)) (λb=>b = .fall ()\/b = .ret true) l.length (az_ (by omega)) (λi s hi hs=>by
   subst hs;unfold da_;rw[aY_ hi,cond_true,al_ hi];simp only[qBs];cases decide ((l[i].length:Int)>1000)with
   | true=>simp only[cond_true,ha,qBs];exact .inr ⟨_,rfl,.inr rfl⟩
   | false=>exact .inl ⟨_,rfl,ai_ (by omega)⟩) (λs hs=>by
   subst hs;unfold da_;rw[aV_];exact⟨_,rfl,.inl rfl⟩) (s:=(0:Int)) rfl
  rw[hb];rcases hq with rfl|rfl
  .simp only[qBs];obtain⟨r,h1,h2,h3,h4,h5⟩:=new_both l;rw[h1,h2];simp only[qBs];rw[same24_refl ⟨by rw[h3];exact⟨Nat.zero_le _,λr hr=>nomatch hr⟩,by omega,λx hx=>by rw[h5 x hx];exact Nat.zero_le _,λx hx m hm=>by rw[h5 x hx]at hm;cases hm⟩];simp only[qBs,beq_self_eq_true,Bool.and_self,cond_true,ha]
  .rfl
 .rw[decide_eq_true (show(l.length:Int)>30 by omega),cond_true,ha];rfl
theorem scan_idxF{α β:Type}(p:α->Bool)(f:Nat->β):∀(k:Nat) (l:List α),aP_ (λi x=>if p x then some (f i)else none) k l=(l.findIdx? p).map λi=>f (k+i)
 | _,[]=>rfl
 | k,x::l=>by
  rw[List.findIdx?_cons];cases hp:p x with
  | true=>rw[nA_ (r:=f k) (by rw[hp];rfl)];rfl
  | false =>
   rw[nz_ (by rw[hp];rfl),scan_idxF p f (k+1) l];simp only[Bool.false_eq_true,if_false];cases l.findIdx? p with
   | none=>rfl
   | some i=>simp only[Option.map_some];congr 2;omega
def dl_(p:Xj)(id:Int):Bool:=decide (id>=1)&&decide (id<((4+p.Xq.length:Nat):Int))
theorem kP_{p:Xj}(h:p.Xq.length<=1000):w64 (4+(p.Xq.length:Int))=((4+p.Xq.length:Nat):Int):=by
 rw[bb_ ⟨by omega,by omega⟩];omega
theorem gZ_{p:Xj}(h:p.Xq.length<=1000)(id:Int):bW_ p id=some (dl_ p id):=by
 unfold bW_ dl_;rw[kP_ h]
theorem hn_{p:Xj}(h:p.Xq.length<=1000)(id:Int):eq_ p id=some (dl_ p id):=by
 unfold eq_ dl_;rw[kP_ h]
def ho_(s:Str)(x:Xv):Bool:=x.Xy==s
theorem walkP_eq{p:Xj}(h:p.Xq.length<=1000)(s:Str):(aD_ p.Xq (λ(u1:Xv)=>Option.bind (hM_ u1 s) λ(v1:Bool)=>some v1))=some (at_ (ho_ s) p.Xq) :=
 idxP_eq (by omega) λm _=>rfl
theorem refWalk_loop{p:Xj}(h:p.Xq.length<=1000)(s:Str):af_ (eM_ p s) BIG 0=some (outO ((p.Xq.findIdx? (ho_ s)).map λi=>((((4+i:Nat):Int),(0:Int))))):=by
 have hs:=bC_ (body:=eM_ p s) p.Xq (λi x=>if ho_ s x then some ((((4+i:Nat):Int),(0:Int)))else none) (az_ (by omega)) (λi hi=>by
  unfold eM_;rw[aY_ hi,cond_true,al_ hi];simp only[qBs];unfold ho_;cases p.Xq[i].Xy==s with
  | true =>
   simp only[cond_true,if_true,ec_];rw[bb_ ⟨by omega,by omega⟩]
   congr 5
  | false =>
   simp only[cond_false,Bool.false_eq_true,if_false,ec_];rw[ai_ (by omega)]) (by
  unfold eM_;rw[aV_];rfl)
 rw[hs,scan_idxF]
 congr 3
 funext i
 rw[Nat.zero_add]
theorem walk_both{p:Xj}(h:p.Xq.length<=1000)(id:Int)(s:Str):∃r,cr_ p id s=some r/\i2_ p id s=some r:=by
 unfold cr_ i2_;rw[gZ_ h,hn_ h];simp only[qBs];cases dl_ p id with
 | false=>exact⟨_,rfl,rfl⟩
 | true =>
  simp only[Bool.not_true,cond_false];cases id != 1 with
  | true=>exact⟨_,rfl,rfl⟩
  | false =>
   simp only[cond_false];cases s==[46,46]with
   | true=>exact⟨_,rfl,rfl⟩
   | false =>
    simp only[cond_false];cases s==[114,117,108,101,115]with
    | true=>exact⟨_,rfl,rfl⟩
    | false =>
     simp only[cond_false];cases s==[115,101,110,100]with
     | true=>exact⟨_,rfl,rfl⟩
     | false =>
      simp only[cond_false];rw[walkP_eq h,refWalk_loop h];simp only[qBs];unfold at_;cases hf:p.Xq.findIdx? (ho_ s)with
      | none=>exact⟨_,rfl,rfl⟩
      | some i =>
       have hi:i<p.Xq.length:=(List.findIdx?_eq_some_iff_getElem.1 hf).1
       dsimp only
       rw[decide_eq_false (show ¬(i:Int)<0 by omega),cond_false,bb_ ⟨by omega,by omega⟩];refine⟨_,rfl,?_⟩;simp only[Option.map_some,outO]
       congr 2
theorem desc_some{p:Xj}(h:p.Xq.length<=1000){id:Int}(he:dl_ p id=true):∃d,bg_ p id=some d/\dV_ p id=some (d,0):=by
 unfold bg_ dV_;rw[hn_ h,he];simp only[qBs,Bool.not_true,cond_false];unfold dl_ at he;rw[qAn,qDe,qDe]at he;cases h1:id==1 with
 | true=>exact⟨_,rfl,rfl⟩
 | false =>
  cases h2:id==2 with
  | true=>exact⟨_,rfl,rfl⟩
  | false =>
   cases h3:id==3 with
   | true=>exact⟨_,rfl,rfl⟩
   | false =>
    rw[beq_eq_false_iff_ne]at h1 h2 h3;obtain⟨k,rfl⟩:∃k:Nat,id=((4+k:Nat):Int):=⟨(id-4).toNat,by omega⟩;have hk:k<p.Xq.length:=by omega
    rw[show w64 (((4+k:Nat):Int)-4)=((k:Nat):Int)by rw[bb_ ⟨by omega,by omega⟩];omega,al_ hk];exact⟨_,rfl,rfl⟩
theorem stat_both{p:Xj}(h:p.Xq.length<=1000)(id:Int):∃r,fh_ p id=some r/\dV_ p id=some r:=by
 cases he:dl_ p id with
 | false =>
  unfold fh_ dV_;rw[gZ_ h,hn_ h,he];exact⟨_,rfl,rfl⟩
 | true =>
  obtain⟨d,h1,h2⟩:=desc_some h he;refine⟨(d,0),?_,h2⟩;unfold fh_;rw[gZ_ h,he,h1];rfl
def ih_(p:Xj)(k:Nat):Xs:=(bg_ p (k:Int)).getD default
theorem lQ_{p:Xj}{k:Nat}(h1:1<=k)(h2:k<4+p.Xq.length):dl_ p (k:Int)=true:=by
 unfold dl_;rw[decide_eq_true (show(k:Int)>=1 by omega),decide_eq_true (show(k:Int)<((4+p.Xq.length:Nat):Int)by omega)];rfl
theorem ox_{p:Xj}(h:p.Xq.length<=1000){k:Nat}(h1:1<=k)(h2:k<4+p.Xq.length):bg_ p (k:Int)=some (ih_ p k)/\dV_ p (k:Int)=some (ih_ p k,0):=by
 obtain⟨d,e1,e2⟩:=desc_some h (lQ_ h1 h2);unfold ih_;rw[e1,e2];exact⟨rfl,rfl⟩
def dd_(p:Xj)(n:Nat):List Xs:=(List.range' 2 n).map (ih_ p)
theorem et_(p:Xj)(n:Nat):(dd_ p n).length=n:=by unfold dd_;rw[List.length_map,List.length_range']
theorem pO_(p:Xj)(n:Nat):dd_ p (n+1)=dd_ p n++[ih_ p (n+2)]:=by
 unfold dd_;rw[List.range'_1_concat,List.map_append,Nat.add_comm 2 n];rfl
theorem listV_get{p:Xj}{n i:Nat}(_:i<n)(h2:i<(dd_ p n).length):(dd_ p n)[i]'h2=ih_ p (2+i):=by simp[dd_]
theorem list_loop{p:Xj}(h:p.Xq.length<=1000):af_ (dU_ p) BIG (0,[])=some (dd_ p (2+p.Xq.length)):=by
 have hl:=bB_ (body:=dU_ p) (λi=>((i:Int),dd_ p (i-2))) (4+p.Xq.length) (az_ (by omega)) (b:=dd_ p (2+p.Xq.length)) (λi hi=>by
  unfold dU_;simp only[];rw[kP_ h,decide_eq_true (show(i:Int)<((4+p.Xq.length:Nat):Int)by omega),cond_true];by_cases h1:1<i
  .rw[decide_eq_true (show(i:Int)>1 by omega),cond_true,(ox_ h (by omega) hi).1];simp only[qBs];rw[bv_ (by rw[et_,List.length_singleton];omega) (by rw[et_,List.length_singleton];omega)];simp only[qBs];rw[ai_ (by omega),show i+1-2=(i-2)+1 by omega,pO_,show i-2+2=i by omega]
  .rw[decide_eq_false (show ¬(i:Int)>1 by omega),cond_false];simp only[qBs];rw[ai_ (by omega),show i+1-2=i-2 by omega]) (by
  unfold dU_;simp only[];rw[kP_ h,aV_,show 4+p.Xq.length-2=2+p.Xq.length by omega];rfl)
 exact hl
theorem refList_loop{p:Xj}(h:p.Xq.length<=1000):af_ (eN_ p) BIG (2,[])=some (dd_ p (2+p.Xq.length)):=by
 have hl:=bB_ (body:=eN_ p) (λi=>(((i+2:Nat):Int),dd_ p i)) (2+p.Xq.length) (az_ (by omega)) (b:=dd_ p (2+p.Xq.length)) (λi hi=>by
  unfold eN_;simp only[];rw[kP_ h,decide_eq_true (show((i+2:Nat):Int)<((4+p.Xq.length:Nat):Int)by omega),cond_true,(ox_ h (by omega) (by omega)).2];simp only[qBs];rw[bv_ (by rw[et_,List.length_singleton];omega) (by rw[et_,List.length_singleton];omega)];simp only[qBs];rw[ai_ (by omega),pO_,show i+2+1=i+1+2 by omega]) (by
  unfold eN_;simp only[];rw[kP_ h,show 2+p.Xq.length+2=4+p.Xq.length by omega,aV_];rfl)
 exact hl
theorem list_root{p:Xj}(h:p.Xq.length<=1000):dr_ p 1=some (dd_ p (2+p.Xq.length),0):=by
 unfold dr_;rw[gZ_ h,show dl_ p 1=true from lQ_ (k:=1) (by omega) (by omega)];simp only[qBs,Bool.not_true,cond_false];exact aq_ (list_loop h) rfl
theorem list_both{p:Xj}(h:p.Xq.length<=1000)(id:Int):∃r,dr_ p id=some r/\i3_ p id=some r/\r.1.length<=2000:=by
 unfold dr_ i3_;rw[gZ_ h,hn_ h];simp only[qBs];cases dl_ p id with
 | false=>exact⟨_,rfl,rfl,Nat.zero_le _⟩
 | true =>
  simp only[Bool.not_true,cond_false];cases id != 1 with
  | true=>exact⟨_,rfl,rfl,Nat.zero_le _⟩
  | false =>
   simp only[cond_false];rw[list_loop h,refList_loop h];exact⟨_,rfl,rfl,by rw[et_];omega⟩
theorem dir_loop{l:List Xs}{e:Int}(h:l.length<=2000):af_ (ci_ (l,e)) BIG (0,l,l)=some (.fall ()):=by
 have hl:=bB_ (body:=ci_ (l,e)) (λi=>((i:Int),l,l)) l.length (az_ (by omega)) (b := .fall ()) (λi hi=>by
  unfold ci_;simp only[];rw[aY_ hi,cond_true,al_ hi];simp only[qBs,decide_true,Bool.not_true,cond_false];rw[ai_ (by omega)]) (by
  unfold ci_;simp only[];rw[aV_];rfl)
 exact hl
theorem guard_ex{p:Xj}(h:PlL p){c:Bool}:∃b g,d7_ p=some b/\(Option.bind (bif(!b||c)then some true else
  (d8_ p).bind λy2=>some (!y2)) λ(y:Bool)=>some y)=some g/\(g=false->SmallP p/\RightP p/\c=false):=by
 obtain⟨b,hb,hs⟩:=small_ex h;cases b with
 | false=>exact⟨false,true,hb,rfl,λe=>nomatch e⟩
 | true =>
  cases c with
  | true=>exact⟨true,true,hb,rfl,λe=>nomatch e⟩
  | false =>
   refine⟨true,!(it_ p),hb,?_,λe=>⟨hs rfl,(rightV_iff p).1 (by cases hr:it_ p with|true=>rfl|false=>rw[hr]at e;cases e),rfl⟩⟩;rw[nY_ h];rfl
theorem tells_true{p:Xj}{id:Int}{s:Str}(ha:br_=some true)(h:PlL p):cJ_ p id s=some true:=by
 unfold cJ_;obtain⟨b,g,hb,hg,hs⟩:=guard_ex h (c:=decide ((s.length:Int)>1000));refine aq_ hb ?_;obtain⟨y,hy,e⟩:=bind_some hg;obtain rfl:=qSj e;refine aq_ hy ?_;cases y with
 | true=>rw[ha];rfl
 | false =>
  obtain⟨hS,hR,-⟩:=hs rfl;have hp:p.Xq.length<=1000:=by have:=hS.ports;omega
  simp only[cond_false];obtain⟨r1,a1,b1⟩:=walk_both hp id s;obtain⟨r2,a2,b2⟩:=stat_both hp id;obtain⟨r3,a3,b3,hl⟩:=list_both hp id;rw[a1,b1,a2,b2,a3,b3];simp only[qBs];rw[bne_self_eq_false,cond_false];refine aq_ (dir_loop hl) ?_;simp only[beq_self_eq_true,decide_true,Bool.and_self,cond_true,ha,qBs]
theorem pP_{p:Xj}(h:RightP p)(k:Nat)(hk:k+1<p.Xq.length):Op.bytesLess (p.Xq[k]'(by omega)).Xy (p.Xq[k+1]'hk).Xy=true:=by
 have h1:=(h.each (k+1) _ (List.getElem?_eq_getElem hk)).2;unfold lowX prevN at h1;rw[show k+1-1=k by omega,List.getElem?_eq_getElem (show k<p.Xq.length by omega),decide_eq_true (Nat.succ_pos k),Bool.true_and,Bool.not_eq_false']at h1;exact h1
theorem na_{p:Xj}(h:RightP p):∀(d j:Nat) (hj:j+d+1<p.Xq.length),Op.bytesLess (p.Xq[j]'(by omega)).Xy (p.Xq[j+d+1]'hj).Xy=true
 | 0,j,hj=>pP_ h j hj
 | d+1,j,hj=>d4_ _ _ _ (na_ h d j (by omega)) (pP_ h (j+d+1) hj)
theorem name_at{p:Xj}(h:RightP p){i:Nat}(hi:i<p.Xq.length):p.Xq.findIdx? (ho_ p.Xq[i].Xy)=some i:=by
 rw[List.findIdx?_eq_some_iff_getElem];refine⟨hi,beq_self_eq_true _,λj hj => ?_⟩;unfold ho_;rw[beq_iff_eq];intro e;obtain⟨d,rfl⟩:∃d,i=j+d+1:=⟨i-j-1,by omega⟩;have:=na_ h d j hi;rw[e,dp_]at this;cases this
theorem goodX_name{x:Xv}(h:ig_ x=true):eE_ x.Xy=true:=by
 unfold ig_ at h;rw[qAn]at h;exact h.1
theorem walk_desc{p:Xj}(h:p.Xq.length<=1000)(hR:RightP p){k:Nat}(h1:2<=k)(h2:k<4+p.Xq.length):cr_ p 1 (ih_ p k).Xy=some ((k:Int),0)/\(ih_ p k).Yv.Yh=(k:Int):=by
 have hw:∀s:Str,cr_ p 1 s=(bif(s==[46,46])then some (1,0)else bif(s==[114,117,108,101,115])then some (2,0)else bif(s==[115,101,110,100])then some (3,0)else
   bif decide (at_ (ho_ s) p.Xq<0)then some (0,8)else some (w64 (4+at_ (ho_ s) p.Xq),0)):=λs=>by
  unfold cr_;rw[gZ_ h,show dl_ p 1=true from lQ_ (k:=1) (by omega) (by omega),walkP_eq h];rfl
 rw[hw];have hd:bg_ p (k:Int)=some (ih_ p k):=(ox_ h (by omega) h2).1;rcases Nat.lt_or_ge k 4 with h4|h4
 .rcases(show k=2\/k=3 by omega)with rfl|rfl
  .have e:=qSj ((show bg_ p ((2:Nat):Int)=_ from rfl).symm.trans hd);rw[←e];exact⟨rfl,rfl⟩
  .have e:=qSj ((show bg_ p ((3:Nat):Int)=_ from rfl).symm.trans hd);rw[←e];exact⟨rfl,rfl⟩
 .obtain⟨i,rfl⟩:∃i,k=4+i:=⟨k-4,by omega⟩;have hi:i<p.Xq.length:=by omega
  unfold bg_ at hd;rw[show(((4+i:Nat):Int)==1)=false from beq_eq_false_iff_ne.2 (by omega),show(((4+i:Nat):Int)==2)=false from beq_eq_false_iff_ne.2 (by omega),show(((4+i:Nat):Int)==3)=false from beq_eq_false_iff_ne.2 (by omega),show w64 (((4+i:Nat):Int)-4)=((i:Nat):Int)by rw[bb_ ⟨by omega,by omega⟩];omega,al_ hi]at hd;have e:=qSj hd;rw[←e]
  dsimp only
  have hx:=hR.each i _ (List.getElem?_eq_getElem hi);have hn:=portB_ne (goodX_name hx.1);rw[beq_eq_false_iff_ne.2 hn.1,beq_eq_false_iff_ne.2 hn.2.1,beq_eq_false_iff_ne.2 hn.2.2];unfold at_;rw[name_at hR hi]
  dsimp only
  rw[decide_eq_false (show ¬(i:Int)<0 by omega),bb_ ⟨by omega,by omega⟩];simp only[cond_false];refine⟨?_,trivial⟩
  congr 2
theorem files_true{p:Xj}(ha:br_=some true)(h:PlL p):cI_ p=some true:=by
 unfold cI_;obtain⟨b,g,hb,hg,hs⟩:=guard_ex h (c:=false);refine aq_ hb ?_;rw[Bool.or_false]at hg;obtain⟨y,hy,e⟩:=bind_some hg;obtain rfl:=qSj e;refine aq_ hy ?_;cases y with
 | true=>rw[ha];rfl
 | false =>
  obtain⟨hS,hR,-⟩:=hs rfl;have hp:p.Xq.length<=1000:=by have:=hS.ports;omega
  simp only[cond_false];refine aq_ (list_root hp) ?_
  dsimp only
  rw[bne_self_eq_false,Bool.false_or,et_,show w64 (2+(p.Xq.length:Int))=((2+p.Xq.length:Nat):Int)by rw[bb_ ⟨by omega,by omega⟩];omega,bne_self_eq_false,cond_false];have hl:=bB_ (body:=cP_ (dd_ p (2+p.Xq.length),0) p) (λi=>((i:Int),dd_ p (2+p.Xq.length))) (2+p.Xq.length) (az_ (by omega)) (b := .fall ()) (λi hi=>by
   unfold cP_;have hi2:i<(dd_ p (2+p.Xq.length)).length:=by rw[et_];exact hi
   simp only[];rw[aY_ hi2,cond_true,al_ hi2];simp only[qBs];have he:(dd_ p (2+p.Xq.length))[i]=ih_ p (2+i):=by
    exact listV_get hi hi2
   rw[he];obtain⟨h1,h2⟩:=walk_desc hp hR (k:=2+i) (by omega) (by omega);rw[h1,h2];simp only[qBs];rw[bne_self_eq_false,bne_self_eq_false];simp only[cond_false];rw[ai_ (by omega)]) (by
   unfold cP_;simp only[];rw[et_,aV_];rfl)
  refine aq_ hl ?_
  dsimp only
  rw[ha];rfl
noncomputable section
end
theorem lR_:br_=some true:=by kernel_rfl
theorem str_fit{n:Nat}{s:Str}(h:FitC te n .str s):s.length<=9223372036854775807:=by
 cases n<;>exact h
theorem plumb_fit{n:Nat}{m:Xw}(h:FitL (FitC te (n+1)) (te.flat (.st 3)) (te.fl (.st 3) m)):AttrL m.Xn/\m.Xt.length<=9223372036854775807:=by
 have h1:m.Xn.length<=9223372036854775807/\∀a∈m.Xn,FitL (FitC te n) (te.flat (.st 2)) (te.fl (.st 2) a):=h.2.2.2.2.1;exact⟨⟨h1.1,λa ha=>str_fit (h1.2 a ha).1,λa ha=>str_fit (h1.2 a ha).2.1⟩,h.2.2.2.2.2.1⟩
theorem kl_{p:Xj}(h:Fit te (.st 5) p):PlL p:=by
 have h1:p.Xc.length<=9223372036854775807/\∀r∈p.Xc,FitL (FitC te 3) (te.flat (.st 1)) (te.fl (.st 1) r):=(h 4).1;have h2:p.Xq.length<=9223372036854775807/\∀x∈p.Xq,FitL (FitC te 3) (te.flat (.st 4)) (te.fl (.st 4) x):=(h 4).2.1;refine⟨h1.1,λr hr => ?_,h2.1,λx hx => ?_⟩
 .have h3:r.Xg.length<=9223372036854775807/\∀q∈r.Xg,FitL (FitC te 2) (te.flat (.st 0)) (te.fl (.st 0) q):=(h1.2 r hr).1;exact h3.1
 .have h4:=h2.2 x hx;have h5:x.Xf.length<=9223372036854775807/\∀m∈x.Xf,FitL (FitC te 2) (te.flat (.st 3)) (te.fl (.st 3) m):=h4.2.1;exact⟨h4.1,h5.1,λm hm=>plumb_fit (h5.2 m hm)⟩
theorem nE_(x0:List Str)(_:Fit te (.sl .str) x0):c2_ x0=some true:=news_true lR_
theorem nb_(x0:Xj)(h0:Fit te (.st 5) x0):cH_ x0=some true:=right_true lR_ (kl_ h0)
theorem nc_(x0:Xj)(h0:Fit te (.st 5) x0):cI_ x0=some true:=files_true lR_ (kl_ h0)
theorem nd_(x0:Xj)(x1:Int)(x2:Str)(h0:Fit te (.st 5) x0)(_:Fit te (.int .i64) x1)(_:Fit te .str x2):cJ_ x0 x1 x2=some true:=tells_true lR_ (kl_ h0)
end Go.Proofs.YtfbcbakhdkppoaaGreatDoor
