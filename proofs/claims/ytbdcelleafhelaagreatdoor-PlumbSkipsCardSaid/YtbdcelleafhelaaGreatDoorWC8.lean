/-
 What the statements of this seat hang on,part 8: Bw Bx By Bz Aw Ca.
-/
import Derived.Test.YtbdcelleafhelaaGreatDoorWC7
import Derived.KernelRfl
namespace Go.Proofs.YtbdcelleafhelaaGreatDoor
open Go.Rt Go.RowKit
def cut36(s:Str):Str×Str:=if s.contains 36 then(s.take (ak_ [36] s),s.drop (ak_ [36] s+1))else(s,[])
theorem cut36_eq{s:Str}(hs:s.length<=1000000000):strings_Cut s [36]=some ((cut36 s).1,(cut36 s).2,s.contains 36):=by
 unfold strings_Cut dA_ stringslite_Index cut36;simp only[qBs];rw[idxB_ge];cases hc:s.contains 36 with
 | false=>rfl
 | true =>
  obtain⟨k1,k2,k3,k4⟩:=mO_ hc;rw[k3,cond_true,bm_ (Int.le_refl 0) (by omega) (by omega)];simp only[qBs,Int.toNat_natCast,Int.toNat_zero,List.drop_zero];rw[bE_ (n:=((ak_ [36] s:Nat):Int)+(([36]:Str).length:Int)) ⟨by simp only[qLc,List.length_nil];omega,by simp only[qLc,List.length_nil];omega⟩,bm_ (by simp only[qLc,List.length_nil];omega) (by simp only[qLc,List.length_nil];omega) (Int.le_refl _)];simp only[qBs,Int.toNat_natCast,List.take_length];have e1:(((ak_ [36] s:Nat):Int)+(([36]:Str).length:Int)).toNat=ak_ [36] s+1:=by simp only[qLc,List.length_nil];omega
  rw[e1];rfl
def grpS(text:Str)(caps:List Int)(k:Nat):Str:=match caps[2*k]?,caps[2*k+1]? with|some u,some v=>if u<0 then[]else(text.take v.toNat).drop u.toNat|_,_=>[]
theorem group_eq{m:Xx}{text:Str}{caps:List Int}{port:Str}(h:CapsR text caps){k:Nat}(hk:k<=9):ea_ (plumb_state.mk m text caps port) (k:Int)=some (grpS text caps k,plumb_state.mk m text caps port):=by
 have w1:w64 (2*(k:Int))=((2*k:Nat):Int):=by rw[bE_ ⟨by omega,by omega⟩];omega
 have w2:w64 (((2*k:Nat):Int)+1)=((2*k+1:Nat):Int):=ag_ (by omega);unfold ea_ grpS;simp only[];rw[w1,w2];rcases Nat.lt_or_ge (2*k+1) caps.length with hlt|hge
 .have hu:=List.getElem?_eq_getElem (l:=caps) (show 2*k<caps.length by omega);have hv:=List.getElem?_eq_getElem (l:=caps) hlt;have hc:=h k _ _ hu hv;rw[decide_eq_false (by omega),cond_false,bf_,bf_,hu,hv];generalize caps[2*k]'(by omega)=u at *
  generalize caps[2*k+1]'(by omega)=v at *
  simp only[qBs];rcases hc with hc|⟨hc1,hc2,hc3⟩
  .rw[decide_eq_true hc,if_pos hc];rfl
  .rw[decide_eq_false (by omega),cond_false,if_neg (by omega)];simp only[qBs];rw[decide_eq_false (by omega),cond_false,bm_ hc1 hc2 hc3];rfl
 .rw[decide_eq_true (by omega),List.getElem?_eq_none hge];cases caps[2*k]?<;>rfl
def eH_(m:Xx)(o:Str):Str:=if(o==[115,114,99])=true then m.Xd else if(o==[100,115,116])=true then m.Xr else if(o==[119,100,105,114])=true then m.Xt else if(o==[116,121,112,101])=true then m.Xf else m.Xm
theorem value_eq(m:Xx)(o:Str):ca_ m o=some (eH_ m o):=by
 unfold ca_ eH_;cases o==[115,114,99]<;>cases o==[100,115,116]<;>cases o==[119,100,105,114]<;>cases o==[116,121,112,101]<;>rfl
def names5:List Str:=[[115,114,99],[100,115,116],[119,100,105,114],[116,121,112,101],[100,97,116,97]]
def dp_(r o:Str):Bool:=r.take o.length==o
def eI_(m:Xx)(r:Str):Option (Str×Nat):=(names5.find? (dp_ r)).map λo=>(eH_ m o,o.length)
theorem names_len{o:Str}(h:o∈names5):3<=o.length/\o.length<=4:=by
 unfold names5 at h;simp only[List.mem_cons,List.not_mem_nil,or_false]at h;rcases h with h|h|h|h|h<;>subst h<;>decide
theorem hasP(s p:Str):strings_HasPrefix s p=some (dp_ s p):=by
 unfold strings_HasPrefix;rw[hasPre];rfl
theorem named_eq{m:Xx}{text:Str}{caps:List Int}{port r:Str}:df_ (plumb_state.mk m text caps port) r=some (match eI_ m r with
  | some (v,n)=>(v,(n:Int),plumb_state.mk m text caps port)
  | none=>([36],0,plumb_state.mk m text caps port)):=by
 unfold df_;have h:=k4_ (body:=ey_ r (plumb_state.mk m text caps port)) names5 names5 (λ_ o=>if dp_ r o=true then some (eH_ m o,((o.length:Nat):Int),plumb_state.mk m text caps port)else none) (by unfold BIG names5;decide) (λi hi=>by
  have hi5:i<5:=hi;unfold ey_;simp only[];refine i8_ (decide_eq_true (show(i:Int)<((5:Nat):Int)by omega)) ?_;rw[aC_ hi];simp only[qBs];rw[hasP];simp only[qBs];unfold eH_;cases dp_ r names5[i]with
  | true =>
   simp only[cond_true,if_true];cases names5[i]==[115,114,99]<;>cases names5[i]==[100,115,116]<;>cases names5[i]==[119,100,105,114]<;>cases names5[i]==[116,121,112,101]<;>rfl
  | false =>
   simp only[cond_false,Bool.false_eq_true,if_false];rw[ag_ (by omega)]) (by rfl)
 refine(bX_ (x:=(([36],0,plumb_state.mk m text caps port):Str×Int×plumb_state)) h (λr=>rfl) rfl).trans ?_;rw[fg_ (dp_ r) (λo=>(eH_ m o,((o.length:Nat):Int),plumb_state.mk m text caps port))];unfold eI_;cases names5.find? (dp_ r)<;>rfl
def digB(d:UInt8):Bool:=decide (48<=d.toNat)&&decide (d.toNat<=57)
def bT_(m:Xx)(text:Str)(caps:List Int)(r:Str):Str×Nat:=match r with
 | []=>([36],0)
 | d::_=>if d=36 then([36],1)else if digB d=true then(grpS text caps (d.toNat-48),1)else match eI_ m r with
  | some q=>q
  | none=>([36],0)
def expF(m:Xx)(text:Str)(caps:List Int):Nat->Str->Str | 0,_=>[]|_+1,[]=>[]|n+1,b::r=>if b=36 then(bT_ m text caps r).1++expF m text caps n (r.drop (bT_ m text caps r).2)else b::expF m text caps n r
theorem mm_(m:Xx)(text:Str)(caps:List Int):∀(n k:Nat) (s:Str),s.length<n->s.length<k->expF m text caps n s=expF m text caps k s
 | n+1,k+1,[],_,_=>rfl
 | n+1,k+1,b::r,h1,h2=>by
  simp only[qLc]at h1 h2;unfold expF;split
  .rw[mm_ m text caps n k _ (by rw[List.length_drop];omega) (by rw[List.length_drop];omega)]
  .rw[mm_ m text caps n k r (by omega) (by omega)]
def cA_(m:Xx)(text:Str)(caps:List Int)(s:Str):Str:=expF m text caps (s.length+1) s
theorem jd_(m:Xx)(text:Str)(caps:List Int):cA_ m text caps []=[]:=rfl
theorem lg_(m:Xx)(text:Str)(caps:List Int){b:UInt8}(h:b≠36)(r:Str):cA_ m text caps (b::r)=b::cA_ m text caps r:=by
 have e:cA_ m text caps (b::r)=if b=36 then(bT_ m text caps r).1++expF m text caps (r.length+1) (r.drop (bT_ m text caps r).2)else b::expF m text caps (r.length+1) r:=rfl
 rw[e,if_neg h];rfl
theorem jY_(m:Xx)(text:Str)(caps:List Int)(r:Str):cA_ m text caps (36::r)=(bT_ m text caps r).1++cA_ m text caps (r.drop (bT_ m text caps r).2):=by
 have e:cA_ m text caps (36::r)=if(36:UInt8)=36 then(bT_ m text caps r).1++expF m text caps (r.length+1) (r.drop (bT_ m text caps r).2)else 36::expF m text caps (r.length+1) r:=rfl
 rw[e,if_pos rfl]
 congr 1
 exact mm_ m text caps _ _ _ (by rw[List.length_drop];omega) (by omega)
theorem nk_(m:Xx)(text:Str)(caps:List Int):∀(a t:Str),(∀b∈a,b≠36)->cA_ m text caps (a++t)=a++cA_ m text caps t
 | [],_,_=>rfl
 | b::a,t,h=>by
  rw[List.cons_append,lg_ m text caps (h b List.mem_cons_self),nk_ m text caps a t λx hx=>h x (List.mem_cons_of_mem _ hx)];rfl
structure FieldB(M:Nat)(m:Xx)(text:Str):Prop where (src:m.Xd.length<=M) (dst:m.Xr.length<=M) (dir:m.Xt.length<=M) (typ:m.Xf.length<=M) (dat:m.Xm.length<=M) (txt:text.length<=M) (one:1<=M)
theorem value_len{M:Nat}{m:Xx}{text:Str}(h:FieldB M m text)(o:Str):(eH_ m o).length<=M:=by
 unfold eH_;split
 .exact h.src
 .split
  .exact h.dst
  .split
   .exact h.dir
   .split
    .exact h.typ
    .exact h.dat
theorem var_len{M:Nat}{m:Xx}{text:Str}{caps:List Int}(h:FieldB M m text)(r:Str):(bT_ m text caps r).1.length<=M/\(bT_ m text caps r).2<=4:=by
 have h1:=h.one;have hg:∀k,(grpS text caps k).length<=M:=λk=>by
  have:=h.txt;unfold grpS;cases caps[2*k]? with
  | none=>exact Nat.zero_le _
  | some u =>
   cases caps[2*k+1]? with
   | none=>exact Nat.zero_le _
   | some v =>
    simp only[];split
    .exact Nat.zero_le _
    .rw[List.length_drop,List.length_take];omega
 unfold bT_;cases r with
 | nil=>exact⟨h1,(Nat.zero_le 4:0<=4)⟩
 | cons d r =>
  simp only[];split
  .exact⟨h1,by omega⟩
  .split
   .exact⟨hg _,by omega⟩
   .unfold eI_;cases hf:names5.find? (dp_ (d::r))with
    | none=>exact⟨h1,by show 0<=4;omega⟩
    | some o=>exact⟨value_len h o,(names_len (List.mem_of_find?_eq_some hf)).2⟩
theorem lh_{M:Nat}{m:Xx}{text:Str}{caps:List Int}(h:FieldB M m text):∀(n:Nat) (s:Str),s.length<=n->(cA_ m text caps s).length<=s.length*M
 | _,[],_=>Nat.zero_le _
 | 0,b::r,hn=>by simp only[qLc]at hn;omega
 | n+1,b::r,hn=>by
  simp only[qLc]at hn;have h1:=h.one;by_cases hb:b=36
  .subst hb;obtain⟨v1,v2⟩:=var_len (caps:=caps) h r;have ih:=lh_ (caps:=caps) h n (r.drop (bT_ m text caps r).2) (by rw[List.length_drop];omega);rw[jY_,qLa,qLc];have:(r.drop (bT_ m text caps r).2).length*M<=r.length*M:=Nat.mul_le_mul_right _ (by rw[List.length_drop];omega);rw[Nat.succ_mul];omega
  .have ih:=lh_ (caps:=caps) h n r (by omega);rw[lg_ m text caps hb,qLc,qLc,Nat.succ_mul];omega
theorem digit_w{d:UInt8}(h:digB d=true):w64 (IntKind.u8.wrap ((d.toNat:Int)-48))=((d.toNat-48:Nat):Int)/\d.toNat-48<=9:=by
 unfold digB at h;simp only[qAn,qDe]at h;refine⟨?_,by omega⟩;rw[wu8,bE_ ⟨by omega,by omega⟩];omega
theorem no36{a:Str}(h:a.contains 36=false):∀b∈a,b≠36:=λb hb e=>by
 subst e;rw[List.contains_iff_mem.2 hb]at h;cases h
theorem expand_go {m:Xx} {text:Str} {caps:List Int} {port:Str} (hc:CapsR text caps):∀(n:Nat) (s:Str) (acc:Str) (f:Nat),s.length<=n->n<f->s.length<=100000000->acc.length+(cA_ m text caps s).length<=1000000000 ->
  ae_ cl_ f (s,plumb_state.mk m text caps port,aJ_ acc)=some (aJ_ (acc++cA_ m text caps s),plumb_state.mk m text caps port):=by
 intro n
 induction n with
 | zero =>
  intro s acc f hn hf hs hb;obtain⟨f,rfl⟩:∃g,f=g+1:=⟨f-1,by omega⟩;have:s=[]:=List.length_eq_zero_iff.1 (by omega);subst this;rw[jd_,List.append_nil];exact ai_ rfl
 | succ n ih =>
  intro s acc f hn hf hs hb;obtain⟨f,rfl⟩:∃g,f=g+1:=⟨f-1,by omega⟩;by_cases hne:s=[]
  .subst hne;rw[jd_,List.append_nil];exact ai_ rfl
  .have hroom:∀a b:Str,a.length+b.length<=1000000000->room 1 (aJ_ a) (aJ_ b)=some (aJ_ (a++b)):=λa b hab=>by
    rw[bl_ (by rw[gs_,gs_];omega) (by rw[gs_,gs_];omega),strI_app]
   cases hc36:s.contains 36 with
   | false =>
    have he:cA_ m text caps s=s:=by
     have:=nk_ m text caps s [] (no36 hc36);rw[List.append_nil,jd_,List.append_nil]at this;exact this
    have e1:cut36 s=(s,[]):=by unfold cut36;rw[hc36];rfl
    rw[he]at hb ⊢;refine ai_ ?_;unfold cl_;simp only[];rw[show(!(s==[]))=true from by simpa using hne,cond_true,cut36_eq (by omega),e1,hc36];simp only[qBs];rw[hroom _ _ (by omega)];rfl
   | true =>
    obtain⟨k1,k2,k3,k4⟩:=mO_ hc36;have e1:cut36 s=(s.take (ak_ [36] s),s.drop (ak_ [36] s+1)):=by unfold cut36;rw[hc36];rfl
    generalize hA:s.take (ak_ [36] s)=A at *
    generalize hR:s.drop (ak_ [36] s+1)=R at *
    have hlen:s.length=A.length+(R.length+1):=by rw[k1];simp
    have he:cA_ m text caps s=A++((bT_ m text caps R).1++cA_ m text caps (R.drop (bT_ m text caps R).2)):=by
     rw[k1,nk_ m text caps A _ (no36 k2),jY_]
    rw[he,qLa,qLa]at hb
    have hstep:cl_ (s,plumb_state.mk m text caps port,aJ_ acc)=some (.next (R.drop (bT_ m text caps R).2,plumb_state.mk m text caps port,aJ_ (acc++A++(bT_ m text caps R).1))):=by
     unfold cl_;simp only[];rw[show(!(s==[]))=true from by simpa using hne,cond_true,cut36_eq (by omega),e1,hc36];simp only[qBs];rw[hroom _ _ (by omega)];simp only[qBs,Bool.not_true,cond_false];have hv:=hb;cases R with
     | nil =>
      have ev:bT_ m text caps []=([36],0):=rfl;have en:eI_ m []=none:=rfl;rw[hasP,named_eq,en];rw[ev]at hb ⊢;simp only[qLc,List.length_nil]at hb;have r1:room 1 (aJ_ (acc++A)) (aJ_ [36])=some (aJ_ (acc++A++[36])):=hroom _ _ (by rw[qLa];simp only[qLc,List.length_nil];omega);simp only[qBs];rw[r1];rfl
     | cons d R =>
      rw[hasP];have ep:dp_ (d::R) [36]=(d==36):=by unfold dp_;simp
      rw[ep];simp only[qBs];simp only[qLc]at hlen;by_cases hd:d=36
      .subst hd;have ev:bT_ m text caps (36::R)=([36],1):=rfl;rw[ev]at hb ⊢;simp only[qLc,List.length_nil]at hb;rw[beq_self_eq_true,cond_true,hroom _ _ (by rw[qLa];simp only[qLc,List.length_nil];omega)];simp only[qBs];rw[bm_ (by omega) (by simp only[qLc];omega) (Int.le_refl _)];simp
      .rw [beq_eq_false_iff_ne.2 hd,cond_false,show(!((d::R)==[]))=true from rfl,cond_true];have hb0:an_ (d::R) 0=some (d.toNat:Int):=bF_ (i:=0) rfl;rw[hb0];simp only[qBs];have edig:(bif decide ((d.toNat:Int)>=48)then some (decide ((d.toNat:Int)<=57))else some false)=some (digB d):=by
        unfold digB;by_cases h1:48<=d.toNat
        .rw[decide_eq_true (by omega),cond_true,decide_eq_true h1,Bool.true_and];by_cases h2:d.toNat<=57
         .rw[decide_eq_true (by omega),decide_eq_true h2]
         .rw[decide_eq_false (by omega),decide_eq_false h2]
        .rw[decide_eq_false (by omega),decide_eq_false h1];rfl
       rw[edig];simp only[qBs];cases hdig:digB d with
       | true =>
        obtain⟨w1,w2⟩:=digit_w hdig;have ev:bT_ m text caps (d::R)=(grpS text caps (d.toNat-48),1):=by
         unfold bT_;simp only[];rw[if_neg hd,if_pos hdig]
        rw[ev]at hb ⊢;simp only[]at hb;rw[cond_true,w1,group_eq hc w2];simp only[qBs];rw[hroom _ _ (by rw[qLa];omega)];simp only[qBs];rw[bm_ (by omega) (by simp only[qLc];omega) (Int.le_refl _)];simp
       | false =>
        have ev:bT_ m text caps (d::R)=(match eI_ m (d::R)with
         | some q=>q
         | none=>([36],0)):=by
         unfold bT_;simp only[];rw[if_neg hd,hdig];rfl
        rw[cond_false,named_eq];cases hn:eI_ m (d::R)with
        | none =>
         rw[hn]at ev;simp only[]at ev;rw[ev]at hb ⊢;simp only[qLc,List.length_nil]at hb;simp only[qBs];rw[hroom _ _ (by rw[qLa];simp only[qLc,List.length_nil];omega)];simp only[qBs];rw[bm_ (by omega) (by simp only[qLc];omega) (Int.le_refl _)];simp
        | some q =>
         obtain⟨v,l⟩:=q;rw[hn]at ev;simp only[]at ev;rw[ev]at hb ⊢;simp only[]at hb;have hll:l<=(d::R).length:=by
          unfold eI_ at hn;cases hf:names5.find? (dp_ (d::R))with
          | none=>rw[hf]at hn;cases hn
          | some o =>
           rw[hf]at hn;have h2:=List.find?_some hf;have hn:=qSj hn;injection hn with _ hn;unfold dp_ at h2;have h3:=congrArg List.length (beq_iff_eq.1 h2);rw[List.length_take]at h3;omega
         simp only[qBs];rw[hroom _ _ (by rw[qLa];omega)];simp only[qBs];rw[bm_ (by omega) (by omega) (Int.le_refl _)];simp
    have ih':=ih (R.drop (bT_ m text caps R).2) (acc++A++(bT_ m text caps R).1) f (by rw[List.length_drop];omega) (by omega) (by rw[List.length_drop];omega) (by rw[qLa,qLa];omega);rw[ap_ hstep ih',he];simp only[List.append_assoc]
theorem expand_eq{m:Xx}{text:Str}{caps:List Int}{port s:Str}{M:Nat}(hc:CapsR text caps)(hM:FieldB M m text)(hs:s.length*M<=1000000000)(hs2:s.length<=100000000):bu_ (plumb_state.mk m text caps port) s=some (cA_ m text caps s,plumb_state.mk m text caps port):=by
 have hlen:=lh_ (caps:=caps) hM s.length s (Nat.le_refl _);have h:=expand_go (m:=m) (port:=port) hc s.length s [] BIG (Nat.le_refl _) (by unfold BIG;omega) hs2 (by simp only[List.length_nil];omega);rw[List.nil_append]at h;unfold bu_;refine as_ (a:=(aJ_ (cA_ m text caps s),plumb_state.mk m text caps port)) h ?_;rw[hQ_]
theorem loop_scanD{α β γ:Type}{body:γ×Int->Option (Step (γ×Int) (Out Unit β))}(c:γ)(xs:List α)(g:Nat->α->Option β)(hn:xs.length<BIG)
  (hb:∀i (h:i<xs.length),body (c,(i:Int))=some (match g i xs[i]with|some r => .done (.ret r)|none => .next (c,((i+1:Nat):Int))))
  (he:body (c,(xs.length:Int))=some (.done (.fall ()))):ae_ body BIG (c,0)=some (outO (bh_ g 0 xs)):=by
 refine i9_ (J:=λi s b=>s=(c,(i:Int))/\b=outO (bh_ g i (xs.drop i))) xs.length hn (λs b hJ => ?_) (λi s b hi hJ => ?_) (by simp)
 .obtain⟨rfl,rfl⟩:=hJ;rw[he];simp[bh_,outO]
 .obtain⟨rfl,rfl⟩:=hJ;rw[hb i hi,List.drop_eq_getElem_cons hi];simp only[bh_];cases hg:g i xs[i]with
  | some r=>exact .inl rfl
  | none=>exact .inr ⟨_,rfl,rfl,rfl⟩
def rvarS(m:Xx)(text:Str)(caps:List Int)(r:Str):Str×Nat:=match r with
 | []=>([],0)
 | d::_=>if d=36 then([36],2)else if digB d=true then(grpS text caps (d.toNat-48),2)else match eI_ m r with
  | some q=>(q.1,q.2+1)
  | none=>([],0)
theorem variable_eq{m:Xx}{text:Str}{caps:List Int}(hc:CapsR text caps){s:Str}(hs:s.length<=100000000){i:Nat}(hi:i<s.length):dw_ s (i:Int) m (Yz.mk text caps)=some ((rvarS m text caps (s.drop (i+1))).1,((rvarS m text caps (s.drop (i+1))).2:Int)):=by
 have hw:w64 ((i:Int)+1)=((i+1:Nat):Int):=ag_ (by omega);unfold dw_;rw[hw];rcases Nat.lt_or_ge (i+1) s.length with hlt|hge
 .rw [decide_eq_false (by omega),cond_false,List.drop_eq_getElem_cons hlt,aT_ hlt];simp only[qBs];have hR:=List.drop_eq_getElem_cons hlt;generalize hd:s[i+1]=d at *
  unfold rvarS;simp only[];have k1:((d.toNat:Int)==36)=(d==36):=aW_ d 36;rw[k1];by_cases h36:d=36
  .subst h36;rfl
  .rw [beq_eq_false_iff_ne.2 h36,if_neg h36,cond_false];have edig:(decide ((d.toNat:Int)>=48)&&decide ((d.toNat:Int)<=57))=digB d:=by
    unfold digB
    congr 1
    .by_cases h1:48<=d.toNat
     .rw[decide_eq_true (by omega),decide_eq_true h1]
     .rw[decide_eq_false (by omega),decide_eq_false h1]
    .by_cases h1:d.toNat<=57
     .rw[decide_eq_true (by omega),decide_eq_true h1]
     .rw[decide_eq_false (by omega),decide_eq_false h1]
   rw[edig];cases hdig:digB d with
   | true =>
    obtain⟨w1,w2⟩:=digit_w hdig;rw[w1];generalize d.toNat-48=k at w2;have e1:w64 (2*(k:Int))=((2*k:Nat):Int):=by rw[bE_ ⟨by omega,by omega⟩];omega
    have e2:w64 (((2*k:Nat):Int)+1)=((2*k+1:Nat):Int):=ag_ (by omega);rw[e1,e2,if_pos rfl,cond_true];unfold grpS;rcases Nat.lt_or_ge (2*k+1) caps.length with hl|hg
    .have hu:=List.getElem?_eq_getElem (l:=caps) (show 2*k<caps.length by omega);have hv:=List.getElem?_eq_getElem (l:=caps) hl;have hcc:=hc k _ _ hu hv;rw[decide_eq_true (by omega),cond_true,bf_,bf_,hu,hv];generalize caps[2*k]'(by omega)=u at *
     generalize caps[2*k+1]'(by omega)=v at *
     simp only[qBs];rcases hcc with hcc|⟨c1,c2,c3⟩
     .rw[decide_eq_false (by omega),if_pos hcc];rfl
     .rw[decide_eq_true (by omega),cond_true,if_neg (by omega)];simp only[qBs];rw[decide_eq_true (by omega),cond_true,bm_ c1 c2 c3];rfl
    .rw[decide_eq_false (by omega),List.getElem?_eq_none hg];cases caps[2*k]?<;>rfl
   | false =>
    rw[cond_false];have hL:=loop_scanD (body:=eb_ s (i:Int) m) names5 names5 (λ_ o=>if dp_ (s.drop (i+1)) o=true then some (eH_ m o,((o.length+1:Nat):Int))else none) (by unfold BIG names5;decide) (λk hk=>by
     have hn:=names_len (List.getElem_mem hk);have hk5:k<5:=hk;unfold eb_;simp only[];rw[aR_ hk,cond_true,aC_ hk];simp only[qBs];generalize names5[k]=o at *
     rw[hw,bE_ (n:=(s.length:Int)-(i:Int)) ⟨by omega,by omega⟩,bE_ (n:=(s.length:Int)-(i:Int)-1) ⟨by omega,by omega⟩,bE_ (n:=((i+1:Nat):Int)+(o.length:Int)) ⟨by omega,by omega⟩];have ew:w64 ((o.length:Int)+1)=((o.length+1:Nat):Int):=ag_ (by omega);have ek:w64 ((k:Int)+1)=((k+1:Nat):Int):=ag_ (by omega);rw[ew,ek];have epre:(bif decide ((s.length:Int)-(i:Int)-1>=(o.length:Int))then(bc_ s ((i+1:Nat):Int) (((i+1:Nat):Int)+(o.length:Int))).bind λy16=>some (y16==o)else some false)=some (dp_ (s.drop (i+1)) o):=by
      unfold dp_;by_cases hle:o.length<=s.length-(i+1)
      .rw[decide_eq_true (by omega),cond_true,bm_ (by omega) (by omega) (by omega)];simp only[qBs];have e1:(((i+1:Nat):Int)+(o.length:Int)).toNat=i+1+o.length:=by omega
       rw[e1,show((i+1:Nat):Int).toNat=i+1 from rfl,List.drop_take,show i+1+o.length-(i+1)=o.length by omega]
      .rw[decide_eq_false (by omega),cond_false]
       congr 1
       symm;rw[beq_eq_false_iff_ne];intro e;have:=congrArg List.length e;rw[List.length_take,List.length_drop]at this;omega
     rw[epre];simp only[qBs];cases dp_ (s.drop (i+1)) o with
     | true =>
      simp only[cond_true,if_true];rw[value_eq];rfl
     | false=>rfl) (by rfl)
    have hL:ae_ (eb_ s (i:Int) m) BIG ([[115,114,99],[100,115,116],[119,100,105,114],[116,121,112,101],[100,97,116,97]],0)=_:=hL;refine(bX_ (x:=(([],0):Str×Int)) hL (λr=>rfl) rfl).trans ?_;rw[fg_ (dp_ (s.drop (i+1))) (λo=>(eH_ m o,((o.length+1:Nat):Int))),←hR];unfold eI_;cases names5.find? (dp_ (s.drop (i+1)))<;>rfl
 .rw[decide_eq_true (by omega),cond_true,List.drop_eq_nil_of_le (by omega)];rfl
theorem refExpand_go {m:Xx} {text:Str} {caps:List Int} (hc:CapsR text caps) {s:Str} (hs:s.length<=100000000):∀(n i:Nat) (acc:Str) (f:Nat),s.length-i<=n->n<f->i<=s.length->acc.length+(cA_ m text caps (s.drop i)).length<=1000000000 ->
  ae_ (cx_ s m (Yz.mk text caps)) f (acc,(i:Int))=some (acc++cA_ m text caps (s.drop i)):=by
 intro n
 induction n with
 | zero =>
  intro i acc f hn hf hi hb;obtain⟨f,rfl⟩:∃g,f=g+1:=⟨f-1,by omega⟩;rw[List.drop_eq_nil_of_le (by omega),jd_,List.append_nil];refine ai_ ?_;unfold cx_;simp only[];rw[decide_eq_false (by omega)];rfl
 | succ n ih =>
  intro i acc f hn hf hi hb;obtain⟨f,rfl⟩:∃g,f=g+1:=⟨f-1,by omega⟩;rcases Nat.lt_or_ge i s.length with hlt|hge
  .have hw:w64 ((i:Int)+1)=((i+1:Nat):Int):=ag_ (by omega);have hsub:bc_ s (i:Int) ((i+1:Nat):Int)=some [s[i]]:=by
    rw[bm_ (by omega) (by omega) (by omega)]
    congr 1
    rw[show((i:Nat):Int).toNat=i from rfl,show((i+1:Nat):Int).toNat=i+1 from rfl,List.drop_take,show i+1-i=1 by omega,List.drop_eq_getElem_cons hlt];rfl
   have hdr:=List.drop_eq_getElem_cons hlt
   -- one byte stands for itself
   have self:∀(v:Str) (t:Str),(cA_ m text caps (s.drop i)=v++cA_ m text caps (s.drop (i+1)))->[s[i]]=v->(Option.bind (
     (an_ s (i:Int)).bind λy5 =>
     (bif(y5==36)then
      (dw_ s (i:Int) m (Yz.mk text caps)).bind λy6 =>
      some (y6.1,y6.2)
     else
      some ([],0))
     ) λ(o3:Str×Int)=>some o3)=some (t,0)->ae_ (cx_ s m (Yz.mk text caps)) (f+1) (acc,(i:Int))=some (acc++cA_ m text caps (s.drop i)):=by
    intro v t he hv h0;rw[hd_]at h0;subst hv;rw[he,qLa]at hb;simp only[qLc,List.length_nil]at hb;refine ap_ (s':=(acc++[s[i]],((i+1:Nat):Int))) ?_ ?_
    .unfold cx_;simp only[];rw[decide_eq_true (by omega),cond_true,h0];simp only[qBs];rw[beq_self_eq_true,cond_true,hw,hsub];simp only[qBs];rw[cat_eq (by simp only[qLc,List.length_nil];omega),hw];rfl
    .rw[ih (i+1) (acc++[s[i]]) f (by omega) (by omega) (by omega) (by simp only[qLa,qLc,List.length_nil];omega),he,List.append_assoc]
   have k1:((s[i].toNat:Int)==36)=(s[i]==36):=aW_ _ 36;by_cases hb36:s[i]=36
   .have hvar:=variable_eq (m:=m) hc hs hlt;have he:cA_ m text caps (s.drop i)=(bT_ m text caps (s.drop (i+1))).1++cA_ m text caps ((s.drop (i+1)).drop (bT_ m text caps (s.drop (i+1))).2):=by
     rw[hdr,hb36,jY_]
    have h3:(Option.bind (
     (an_ s (i:Int)).bind λy5 =>
     (bif(y5==36)then
      (dw_ s (i:Int) m (Yz.mk text caps)).bind λy6 =>
      some (y6.1,y6.2)
     else
      some ([],0))
     ) λ(o3:Str×Int)=>some o3)=some ((rvarS m text caps (s.drop (i+1))).1,((rvarS m text caps (s.drop (i+1))).2:Int)):=by
     rw[aT_ hlt];simp only[qBs];rw[k1,beq_iff_eq.2 hb36,cond_true,hvar];rfl
    -- either nothing is named here, or both take the same
    have hcases:((rvarS m text caps (s.drop (i+1))).2=0/\bT_ m text caps (s.drop (i+1))=([36],0))\/((rvarS m text caps (s.drop (i+1)))=((bT_ m text caps (s.drop (i+1))).1,(bT_ m text caps (s.drop (i+1))).2+1)/\(bT_ m text caps (s.drop (i+1))).2<=s.length-(i+1)):=by
     generalize hr:s.drop (i+1)=r;have hrl:r.length=s.length-(i+1):=by rw[←hr,List.length_drop]
     unfold rvarS bT_;cases r with
     | nil=>exact .inl ⟨rfl,rfl⟩
     | cons d r =>
      simp only[];simp only[qLc]at hrl;by_cases hd:d=36
      .rw[if_pos hd,if_pos hd];exact .inr ⟨rfl,by show 1<=_;omega⟩
      .rw [if_neg hd,if_neg hd];cases hdg:digB d with
       | true=>exact .inr ⟨rfl,by show 1<=_;omega⟩
       | false =>
        simp only[Bool.false_eq_true,if_false];cases hn:eI_ m (d::r)with
        | none=>exact .inl ⟨rfl,rfl⟩
        | some q =>
         refine .inr ⟨rfl,?_⟩;unfold eI_ at hn;cases hf:names5.find? (dp_ (d::r))with
         | none=>rw[hf]at hn;cases hn
         | some o =>
          rw[hf]at hn;have h2:=List.find?_some hf;have hn:=qSj hn;subst hn;unfold dp_ at h2;have h4:=congrArg List.length (beq_iff_eq.1 h2);rw[List.length_take,qLc]at h4;show o.length<=_;omega
    rcases hcases with⟨c1,c2⟩|⟨c1,c2⟩
    .rw[c1]at h3;rw[c2]at he;exact self [36] _ he (by rw[hb36]) h3
    .rw[hd_]at h3;rw[c1]at h3;rw[he,qLa]at hb;refine ap_ (s':=(acc++(bT_ m text caps (s.drop (i+1))).1,((i+1+(bT_ m text caps (s.drop (i+1))).2:Nat):Int))) ?_ ?_
     .unfold cx_;simp only[];rw[decide_eq_true (by omega),cond_true,h3];simp only[qBs];rw[beq_eq_false_iff_ne.2 (by omega),cond_false];simp only[qBs];rw[cat_eq (by omega)];simp only[qBs];rw[bE_ ⟨by omega,by omega⟩,show(i:Int)+(((bT_ m text caps (s.drop (i+1))).2+1:Nat):Int)=((i+1+(bT_ m text caps (s.drop (i+1))).2:Nat):Int)by omega]
     .rw[ih (i+1+(bT_ m text caps (s.drop (i+1))).2) _ f (by omega) (by omega) (by omega) (by rw[List.drop_drop]at hb;rw[qLa];omega),he,List.append_assoc,List.drop_drop]
   .have he:cA_ m text caps (s.drop i)=[s[i]]++cA_ m text caps (s.drop (i+1)):=by
     rw[hdr,lg_ m text caps hb36];rfl
    refine self [s[i]] [] he rfl ?_;rw[aT_ hlt];simp only[qBs];rw[k1,beq_eq_false_iff_ne.2 hb36];rfl
  .rw[List.drop_eq_nil_of_le (by omega),jd_,List.append_nil];refine ai_ ?_;unfold cx_;simp only[];rw[decide_eq_false (by omega)];rfl
theorem refExpand_eq{m:Xx}{text:Str}{caps:List Int}{s:Str}{M:Nat}(hc:CapsR text caps)(hM:FieldB M m text)(hs:s.length*M<=1000000000)(hs2:s.length<=100000000):en_ s m (Yz.mk text caps)=some (cA_ m text caps s):=by
 have hlen:=lh_ (caps:=caps) hM s.length s (Nat.le_refl _);have h:=refExpand_go (m:=m) hc hs2 s.length 0 [] BIG (by omega) (by unfold BIG;omega) (Nat.zero_le _) (by simp only[List.length_nil,List.drop_zero];omega);rw[List.nil_append,List.drop_zero]at h;unfold en_;exact as_ h rfl
noncomputable def blk(f:Str)(setf:Str->Xx)(st:plumb_state)(p:Xp)(arg:Str):Option (Bool×plumb_state) :=
 (bif(p.Xg==[105,115])then
  some (((f==arg),st))
 else
  (bif(p.Xg==[105,115,110])then
   some (((!(f==arg)),st))
  else
   (bif(p.Xg==[115,101,116])then
    some ((true,(plumb_state.mk (setf arg) st.text_ st.caps_ st.port_)))
   else
    (aE_ p.Xl).bind λy3 =>
    (bif(y3.2.2 != 0)then
     some ((false,st))
    else
     (b0_ y3.1 f).bind λy4 =>
     Option.bind (
      (bif y4.2 then
       some (st.m_.Xd,st.m_.Xr,st.m_.Xt,st.m_.Xf,st.m_.Xv,st.m_.Xm,f,y4.1,st.port_)
      else
       some (st.m_.Xd,st.m_.Xr,st.m_.Xt,st.m_.Xf,st.m_.Xv,st.m_.Xm,st.text_,st.caps_,st.port_))
      ) λ(o1:Str×Str×Str×Str×(List Xq)×Str×Str×(List Int)×Str) =>
     some ((y4.2,(plumb_state.mk (Xx.mk o1.1 o1.2.1 o1.2.2.1 o1.2.2.2.1 o1.2.2.2.2.1 o1.2.2.2.2.2.1) o1.2.2.2.2.2.2.1 o1.2.2.2.2.2.2.2.1 o1.2.2.2.2.2.2.2.2)))))))
def setS(m:Xx)(o v:Str):Xx:=if(o==[115,114,99])=true then Xx.mk v m.Xr m.Xt m.Xf m.Xv m.Xm else if(o==[100,115,116])=true then Xx.mk m.Xd v m.Xt m.Xf m.Xv m.Xm else if(o==[119,100,105,114])=true then Xx.mk m.Xd m.Xr v m.Xf m.Xv m.Xm else if(o==[116,121,112,101])=true then Xx.mk m.Xd m.Xr m.Xt v m.Xv m.Xm else Xx.mk m.Xd m.Xr m.Xt m.Xf m.Xv v
def iK_(p:Xp)(arg:Str):Bool:=(!(p.Xg==[109,97,116,99,104,101,115]))&&(decide ((arg.length:Int)>65536))
theorem late_len{p:Xp}{arg:Str}(h:iK_ p arg=false)(hm:(p.Xg==[109,97,116,99,104,101,115])=false):arg.length<=65536:=by
 unfold iK_ at h;rw[hm,Bool.not_false,Bool.true_and]at h;have:=of_decide_eq_false h;omega
theorem mP_{o:Str}(h:bM_ o=true):o=[115,114,99]\/o=[100,115,116]\/o=[119,100,105,114]\/o=[116,121,112,101]\/o=[100,97,116,97]:=by
 unfold bM_ at h;simp only[Bool.or_eq_true,beq_iff_eq]at h;rcases h with(((h|h)|h)|h)|h<;>simp[h]
theorem line_field(st:plumb_state){p:Xp}(h:bM_ p.Xy=true):bn_ st p=(bu_ st p.Xl).bind λy1=>bif iK_ p y1.1 then some (false,y1.2)else blk (eH_ y1.2.m_ p.Xy) (setS y1.2.m_ p.Xy) y1.2 p y1.1:=by
 obtain⟨o,v,a⟩:=p;have h:bM_ o=true:=h;rcases mP_ h with h|h|h|h|h<;>subst h<;>rfl
theorem line_plumb(st:plumb_state){p:Xp}(h:bx_ p.Xy=true):bn_ st p=(bu_ st p.Xl).bind λy1=>bif iK_ p y1.1 then some (false,y1.2)else some (true,plumb_state.mk y1.2.m_ y1.2.text_ y1.2.caps_ y1.1):=by
 obtain⟨o,v,a⟩:=p;have h:(o==[112,108,117,109,98])=true:=h;rw[beq_iff_eq]at h;subst h;rfl
theorem line_attr(st:plumb_state){p:Xp}(h:cX_ p.Xy=true):bn_ st p=(bu_ st p.Xl).bind λy1=>bif iK_ p y1.1 then some (false,y1.2)else(cB_ y1.2 p.Xg y1.1).bind λy2=>some (y2.1,y2.2):=by
 obtain⟨o,v,a⟩:=p;have h:(o==[97,116,116,114])=true:=h;rw[beq_iff_eq]at h;subst h;rfl
noncomputable def rline(p:Xp)(port:Str)(m:Xx)(S:Str)(At:List Int)(arg:Str):Option (Str×Bool×Xx×Str×(List Int)) :=
 (bif((!(p.Xg==[109,97,116,99,104,101,115]))&&(decide ((arg.length:Int)>65536)))then
  some (port,false,m,S,At)
 else
  (bif(p.Xy==[112,108,117,109,98])then
   some (arg,true,m,S,At)
  else
   (bif(p.Xy==[97,116,116,114])then
    (fV_ m p.Xg arg).bind λy14 =>
    some (port,y14.2,y14.1,S,At)
   else
    (bif(p.Xg==[115,101,116])then
     (hZ_ m p.Xy arg).bind λy15 =>
     some (port,true,y15,S,At)
    else
     (bif(p.Xg==[109,97,116,99,104,101,115])then
      (bL_ p.Xl).bind λy16 =>
      (ca_ m p.Xy).bind λy17 =>
      (d7_ y16.1 y17).bind λy18 =>
      (bif y18.2 then
       some (port,y18.2,m,y17,y18.1)
      else
       some (port,y18.2,m,S,At))
     else
      (ca_ m p.Xy).bind λy19 =>
      some (port,((y19==arg)==(p.Xg==[105,115])),m,S,At))))))
theorem refLine_eq{r:Xw}{port:Str}{i:Nat}{m:Xx}{S:Str}{At:List Int}{p:Xp}(hp:r.Xh[i]? = some p)(hr:r.Xh.length<=1000){arg:Str}(he:en_ p.Xl m (Yz.mk S At)=some arg):cL_ r (port,(i:Int),m,S,At)=(rline p port m S At arg).bind λo2=>(bif(!o2.2.1)then some (.done (.ret (((Xx.mk [] [] [] [] [] []),[],false))))else some (.next (o2.1,((i+1:Nat):Int),o2.2.2.1,o2.2.2.2.1,o2.2.2.2.2))):=by
 have hlt:i<r.Xh.length:=by
  rcases Nat.lt_or_ge i r.Xh.length with h|h
  .exact h
  .rw[List.getElem?_eq_none h]at hp;cases hp
 unfold cL_;simp only[];rw[aR_ hlt,cond_true,bf_,hp];simp only[qBs];rw[he,ag_ (by omega)];rfl
structure StI(k:Nat)(m:Xx)(text:Str)(caps:List Int):Prop where (f:FieldB 70000 m text) (a:AttrB (40+32*k) m.Xv) (c:CapsR text caps) (l:caps.length<=20)
theorem set_field{k:Nat}{m:Xx}{text:Str}{caps:List Int}(h:StI k m text caps){o v:Str}(hv:v.length<=70000):StI k (setS m o v) text caps:=by
 have hf:=h.f;unfold setS;split
 .exact⟨⟨hv,hf.dst,hf.dir,hf.typ,hf.dat,hf.txt,hf.one⟩,h.a,h.c,h.l⟩
 .split
  .exact⟨⟨hf.src,hv,hf.dir,hf.typ,hf.dat,hf.txt,hf.one⟩,h.a,h.c,h.l⟩
  .split
   .exact⟨⟨hf.src,hf.dst,hv,hf.typ,hf.dat,hf.txt,hf.one⟩,h.a,h.c,h.l⟩
   .split
    .exact⟨⟨hf.src,hf.dst,hf.dir,hv,hf.dat,hf.txt,hf.one⟩,h.a,h.c,h.l⟩
    .exact⟨⟨hf.src,hf.dst,hf.dir,hf.typ,hv,hf.txt,hf.one⟩,h.a,h.c,h.l⟩
theorem StI.up{k:Nat}{m:Xx}{text:Str}{caps:List Int}(h:StI k m text caps):StI (k+1) m text caps:=⟨h.f,h.a.mono (by omega),h.c,h.l⟩
theorem refSetF_eq(m:Xx)(v:Str){o:Str}(h:bM_ o=true):hZ_ m o v=some (setS m o v):=by
 rcases mP_ h with h|h|h|h|h<;>subst h<;>rfl
def LineOK(k:Nat)(A:Option (Bool×plumb_state))(B:Option (Str×Bool×Xx×Str×(List Int))):Prop:=∃ok m text caps port,(∃q,A=some (ok,q)/\(ok=true->q=plumb_state.mk m text caps port))/\(∃o2,B=some o2/\o2.2.1=ok/\(ok=true->o2=(port,true,m,text,caps)))/\(ok=true->StI k m text caps)
theorem sound_field{p:Xp}(h:cb_ p=true)(hf:bM_ p.Xy=true):(p.Xg=[105,115]\/p.Xg=[105,115,110]\/p.Xg=[115,101,116])\/(p.Xg=[109,97,116,99,104,101,115]/\h4_ p.Xl=true):=by
 unfold cb_ at h;rw[hf]at h;unfold hR_ gL_ at h;simp only[cond_true,qAn,Bool.or_eq_true,beq_iff_eq,Bool.not_eq_true',beq_eq_false_iff_ne]at h;obtain⟨h1,_,_,_,h5⟩:=h;rcases h1 with h1|h1|h1|h1
 .exact .inl (.inl h1)
 .exact .inl (.inr (.inl h1))
 .refine .inr ⟨h1,?_⟩;rcases h5 with h5|h5
  .exact absurd h1 h5
  .exact h5
 .exact .inl (.inr (.inr h1))
theorem line_both{k:Nat}(hk:k<=32){m:Xx}{text:Str}{caps:List Int}{port:Str}{p:Xp}(hs:cb_ p=true)(hI:StI k m text caps):∃arg,en_ p.Xl m (Yz.mk text caps)=some arg/\LineOK (k+1) (bn_ (plumb_state.mk m text caps port) p) (rline p port m text caps arg):=by
 obtain⟨l1,l2,l3,l4,l5,l6,l7,l8,l9⟩:=sound_lens hs;have hpe:=expand_eq (port:=port) (s:=p.Xl) hI.c hI.f (by omega) (by omega);have hre:=refExpand_eq (s:=p.Xl) hI.c hI.f (by omega) (by omega);refine⟨cA_ m text caps p.Xl,hre,?_⟩;generalize hA:cA_ m text caps p.Xl=arg at *
 have late:iK_ p arg=true->LineOK (k+1) (some (false,plumb_state.mk m text caps port)) (rline p port m text caps arg):=by
  intro hl;refine⟨false,m,text,caps,port,⟨_,rfl,λe=>by cases e⟩,⟨(port,false,m,text,caps),?_,rfl,λe=>by cases e⟩,λe=>by cases e⟩;unfold rline;exact i8_ hl rfl
 have htri:bM_ p.Xy=true\/cX_ p.Xy=true\/bx_ p.Xy=true:=by
  unfold cb_ hR_ at hs;cases hf:bM_ p.Xy with
  | true=>exact .inl rfl
  | false =>
   cases ha:cX_ p.Xy with
   | true=>exact .inr (.inl rfl)
   | false =>
    cases hp:bx_ p.Xy with
    | true=>exact .inr (.inr rfl)
    | false=>rw[hf,ha,hp]at hs;cases hs
 rcases htri with hf|ha|hp
 .rw [line_field _ hf,hpe];simp only[qBs];cases hl:iK_ p arg with
  | true=>exact late hl
  | false =>
   simp only[cond_false];obtain⟨_,hnp,_⟩:=h5_ p.Xy;have hna:=(h5_ p.Xy).1 hf;have hnp:=hnp hf;have er:rline p port m text caps arg=(bif(p.Xg==[115,101,116])then
     (hZ_ m p.Xy arg).bind λy15 =>
     some (port,true,y15,text,caps)
    else
     (bif(p.Xg==[109,97,116,99,104,101,115])then
      (bL_ p.Xl).bind λy16 =>
      (ca_ m p.Xy).bind λy17 =>
      (d7_ y16.1 y17).bind λy18 =>
      (bif y18.2 then
       some (port,y18.2,m,y17,y18.1)
      else
       some (port,y18.2,m,text,caps))
     else
      (ca_ m p.Xy).bind λy19 =>
      some (port,((y19==arg)==(p.Xg==[105,115])),m,text,caps))):=by
    unfold rline;exact fW_ hl (fW_ hnp (fW_ hna rfl))
   rw[er];unfold blk;have hval:=value_len hI.f p.Xy;generalize hV:eH_ m p.Xy=V at *
   have hrv:ca_ m p.Xy=some V:=by rw[value_eq,hV]
   rcases sound_field hs hf with(h|h|h)|⟨h,hcomp⟩
   .rw[h];refine⟨(V==arg),m,text,caps,port,⟨_,rfl,λ_=>rfl⟩,⟨(port,(V==arg),m,text,caps),?_,rfl,λe=>by rw[e]⟩,λ_=>hI.up⟩;rw[hrv];show some (port,((V==arg)==true),m,text,caps)=_;cases V==arg<;>rfl
   .rw[h];refine⟨!(V==arg),m,text,caps,port,⟨_,rfl,λ_=>rfl⟩,⟨(port,!(V==arg),m,text,caps),?_,rfl,λe=>by rw[e]⟩,λ_=>hI.up⟩;rw[hrv];show some (port,((V==arg)==false),m,text,caps)=_;cases V==arg<;>rfl
   .have hal:arg.length<=70000:=by
     have:=late_len hl (by rw[h];rfl);omega
    rw[h,refSetF_eq m arg hf];exact⟨true,setS m p.Xy arg,text,caps,port,⟨_,rfl,λ_=>rfl⟩,⟨_,rfl,rfl,λ_=>rfl⟩,λ_=>(set_field hI hal).up⟩
   .rw [h];have hcr:∃a g q,RP p.Xl .rx 0 0 0 (.ok a q g)/\p.Xl.length<=256/\aE_ p.Xl=some (prog a g,0,0)/\bL_ p.Xl=some (prog a g,0,0):=by
     rcases mh_ p.Xl with⟨_,h1,h2⟩|⟨h0,r,hr,h1,h2⟩
     .unfold h4_ at hcomp;rw[h1]at hcomp;exact absurd hcomp (by decide)
     .cases r with
      | err e =>
       unfold h4_ at hcomp;rw[h1]at hcomp;exact absurd hcomp (by show ¬((49:Int)==0)=true;decide)
      | ok a q g=>exact⟨a,g,q,hr,h0,h1,h2⟩
    obtain⟨a,g,q,hr,h256,hc1,hc2⟩:=hcr;obtain⟨Lb,hP,_⟩:=prog_ok h256 hr;obtain⟨c,ok,w1,w2,w3,w4⟩:=whole_both hP (s:=V) (by omega);have w1:b0_ (prog a g) V=some (c,ok):=w1;have w2:d7_ (prog a g) V=some (c,ok):=w2;rw[hc1,hc2,hrv];cases ok with
    | true =>
     refine⟨true,m,V,c,port,⟨plumb_state.mk m V c port,?_,λ_=>rfl⟩,⟨(port,true,m,V,c),?_,rfl,λ_=>rfl⟩,λ_=>⟨⟨hI.f.src,hI.f.dst,hI.f.dir,hI.f.typ,hI.f.dat,hval,hI.f.one⟩,hI.a.mono (by omega),w3,w4⟩⟩
     .rw[show(([109,97,116,99,104,101,115]:Str)==[105,115])=false from rfl,show(([109,97,116,99,104,101,115]:Str)==[105,115,110])=false from rfl,show(([109,97,116,99,104,101,115]:Str)==[115,101,116])=false from rfl,cond_false,cond_false,cond_false];exact as_ rfl (fW_ rfl (as_ w1 rfl))
     .refine fW_ rfl (i8_ rfl ?_);simp only[qBs];rw[w2];rfl
    | false =>
     refine⟨false,m,text,caps,port,⟨plumb_state.mk m text caps port,?_,λe=>by cases e⟩,⟨(port,false,m,text,caps),?_,rfl,λe=>by cases e⟩,λe=>by cases e⟩
     .rw[show(([109,97,116,99,104,101,115]:Str)==[105,115])=false from rfl,show(([109,97,116,99,104,101,115]:Str)==[105,115,110])=false from rfl,show(([109,97,116,99,104,101,115]:Str)==[115,101,116])=false from rfl,cond_false,cond_false,cond_false];exact as_ rfl (fW_ rfl (as_ w1 rfl))
     .refine fW_ rfl (i8_ rfl ?_);simp only[qBs];rw[w2];rfl
 .rw[line_attr _ ha,hpe];simp only[qBs];cases hl:iK_ p arg with
  | true=>exact late hl
  | false =>
   simp only[cond_false];have hnf:bM_ p.Xy=false:=by
    cases hf:bM_ p.Xy with
    | false=>rfl
    | true=>rw[(h5_ p.Xy).1 hf]at ha;cases ha
   have hnp:=(h5_ p.Xy).2.2 ha;have hnm:(p.Xg==[109,97,116,99,104,101,115])=false:=by
    unfold cb_ hR_ at hs;rw[hnf,ha]at hs;simp only[cond_false,cond_true,qAn,Bool.or_eq_true,beq_iff_eq]at hs;rcases hs.1 with h|h|h|h<;>rw[h]<;>rfl
   have hal:arg.length<=100000:=by
    have:=late_len hl hnm;omega
   obtain⟨ok,A,h1,⟨m2,h2,h3⟩,h4⟩:=attrs_both (m:=m) (text:=text) (caps:=caps) (port:=port) (verb:=p.Xg) (arg:=arg) (k:=40+32*k) (by omega) hI.a hal;rw[h1];refine⟨ok,hT_ m A,text,caps,port,⟨_,rfl,λ_=>rfl⟩,⟨(port,ok,m2,text,caps),?_,rfl,λe => ?_⟩,λ_=>⟨⟨hI.f.src,hI.f.dst,hI.f.dir,hI.f.typ,hI.f.dat,hI.f.txt,hI.f.one⟩,h4.mono (by omega),hI.c,hI.l⟩⟩
   .unfold rline;refine fW_ hl (fW_ hnp (i8_ ha ?_));rw[h2];rfl
   .rw[h3 e,e]
 .rw[line_plumb _ hp,hpe];simp only[qBs];cases hl:iK_ p arg with
  | true=>exact late hl
  | false =>
   refine⟨true,m,text,caps,arg,⟨_,rfl,λ_=>rfl⟩,⟨(arg,true,m,text,caps),?_,rfl,λ_=>rfl⟩,λ_=>hI.up⟩;unfold rline;exact fW_ hl (i8_ hp rfl)
def zeroM:Xx:=Xx.mk [] [] [] [] [] []
abbrev PA:=Int×Str×Str×Str×Str×(List Xq)×Str×Str×(List Int)×Str
def pst(i:Nat)(m:Xx)(text:Str)(caps:List Int)(port:Str):PA:=((i:Int),m.Xd,m.Xr,m.Xt,m.Xf,m.Xv,m.Xm,text,caps,port)
theorem lineStep{r:Xw}{i:Nat}{m:Xx}{text:Str}{caps:List Int}{port:Str}{p:Xp}(hp:r.Xh[i]? = some p)(hr:r.Xh.length<=1000){ok:Bool}{q:plumb_state}(h:bn_ (plumb_state.mk m text caps port) p=some (ok,q)):b3_ r (pst i m text caps port)=some (bif !ok then .done (.ret (zeroM,[],false))else .next (((i+1:Nat):Int),q.m_.Xd,q.m_.Xr,q.m_.Xt,q.m_.Xf,q.m_.Xv,q.m_.Xm,q.text_,q.caps_,q.port_)):=by
 have hlt:i<r.Xh.length:=by
  rcases Nat.lt_or_ge i r.Xh.length with h|h
  .exact h
  .rw[List.getElem?_eq_none h]at hp;cases hp
 unfold b3_ pst;simp only[];rw[aR_ hlt,cond_true,bf_,hp];simp only[qBs];have h:bn_ (plumb_state.mk (Xx.mk m.Xd m.Xr m.Xt m.Xf m.Xv m.Xm) text caps port) p=some (ok,q):=h;rw[h,ag_ (by omega)];cases ok<;>rfl
theorem apply_go{r:Xw}(hv:h6_ r=true):∀(n i f1 f2:Nat) (m:Xx) (text:Str) (caps:List Int) (port:Str),r.Xh.length-i<=n->n<f1->n<f2->i<=r.Xh.length->StI i m text caps ->
  (ae_ (b3_ r) f1 (pst i m text caps port)=some (.ret (zeroM,[],false))/\ae_ (cL_ r) f2 (port,(i:Int),m,text,caps)=some (.ret (zeroM,[],false))) \/
  ∃k m' text' caps' port',k<=32/\ae_ (b3_ r) f1 (pst i m text caps port)=some (.fall (plumb_state.mk m' text' caps' port'))/\ae_ (cL_ r) f2 (port,(i:Int),m,text,caps)=some (.fall (port',m'))/\StI k m' text' caps':=by
 have hvi:=(mi_ r).1 hv;have hend:∀(f1 f2:Nat) (m:Xx) (text:Str) (caps:List Int) (port:Str),ae_ (b3_ r) (f1+1) (pst r.Xh.length m text caps port)=some (.fall (plumb_state.mk m text caps port))/\ae_ (cL_ r) (f2+1) (port,(r.Xh.length:Int),m,text,caps)=some (.fall (port,m)):=by
  intro f1 f2 m text caps port;refine⟨ai_ ?_,ai_ ?_⟩
  .unfold b3_ pst;simp only[];rw[bj_];rfl
  .unfold cL_;simp only[];rw[bj_];rfl
 intro n
 induction n with
 | zero =>
  intro i f1 f2 m text caps port hn hf1 hf2 hi hI;obtain⟨f1,rfl⟩:∃g,f1=g+1:=⟨f1-1,by omega⟩;obtain⟨f2,rfl⟩:∃g,f2=g+1:=⟨f2-1,by omega⟩;have:i=r.Xh.length:=by omega
  subst this;exact .inr ⟨_,m,text,caps,port,hvi.2.1,(hend f1 f2 m text caps port).1,(hend f1 f2 m text caps port).2,hI⟩
 | succ n ih =>
  intro i f1 f2 m text caps port hn hf1 hf2 hi hI;obtain⟨f1,rfl⟩:∃g,f1=g+1:=⟨f1-1,by omega⟩;obtain⟨f2,rfl⟩:∃g,f2=g+1:=⟨f2-1,by omega⟩;rcases Nat.lt_or_ge i r.Xh.length with hlt|hge
  .have hp:=List.getElem?_eq_getElem hlt;have hs:=(hvi.2.2 i _ hp).1;obtain⟨arg,he,ok,m2,text2,caps2,port2,⟨q,h1,h2⟩,⟨o2,h3,h4,h5⟩,h6⟩:=line_both (port:=port) (by omega) hs hI;have hst1:=lineStep hp (by omega) h1;have hst2:=refLine_eq hp (by omega) (port:=port) he;rw[h3]at hst2;simp only[qBs]at hst2;rw[h4]at hst2;cases ok with
   | false=>exact .inl ⟨ai_ hst1,ai_ hst2⟩
   | true =>
    rw[h2 rfl]at hst1;rw[h5 rfl]at hst2;rcases ih (i+1) f1 f2 m2 text2 caps2 port2 (by omega) (by omega) (by omega) (by omega) (h6 rfl)with⟨k1,k2⟩|⟨k,m',text',caps',port',k0,k1,k2,k3⟩
    .exact .inl ⟨ap_ hst1 k1,ap_ hst2 k2⟩
    .exact .inr ⟨k,m',text',caps',port',k0,ap_ hst1 k1,ap_ hst2 k2,k3⟩
  .have:i=r.Xh.length:=by omega
   subst this;exact .inr ⟨_,m,text,caps,port,hvi.2.1,(hend f1 f2 m text caps port).1,(hend f1 f2 m text caps port).2,hI⟩
theorem apply_both(r:Xw){m:Xx}(h:AttrL m.Xv):∃v,b9_ r m=some v/\eP_ r m=some v/\(v.2.2=true->bP_ v.1=some 0)/\v.1.Xv.length<=9223372036854775807:=by
 have hz:zeroM.Xv.length<=9223372036854775807:=Nat.zero_le _;unfold b9_ eP_;rw[valid_eq,refValid_eq];simp only[qBs];cases hv:h6_ r with
 | false=>exact⟨(zeroM,[],false),rfl,rfl,λe=>(by cases e),hz⟩
 | true =>
  simp only[Bool.not_true,cond_false];rw[ll_ h,jb_ h];simp only[qBs];by_cases hc:hb_ m=0
  .rw [hc,bne_self_eq_false,cond_false];obtain⟨c1,c2,c3,c4⟩:=checkM_zero hc;have hok:=attrOK_of c2;have ec:aH_ m.Xv=some m.Xv:=bl_ (by have:=hok.len;simp only[List.length_nil];omega) (by have:=hok.len;simp only[List.length_nil];omega);rw[ec];simp only[qBs];have hI:StI 0 m [] []:=by
    refine⟨⟨?_,?_,?_,?_,by omega,Nat.zero_le _,by omega⟩,⟨by have:=hok.len;omega,λa ha=>⟨?_,?_⟩⟩,λk u v hu=>(by cases hu),Nat.zero_le _⟩
    .have:=(c1 m.Xd (by simp)).1;omega
    .have:=(c1 m.Xr (by simp)).1;omega
    .have:=(c1 m.Xt (by simp)).1;omega
    .have:=(c1 m.Xf (by simp)).1;omega
    .have:=nameB_len (hok.nm a ha);omega
    .have:=hok.vl a ha;omega
   rcases apply_go hv r.Xh.length 0 BIG BIG m [] [] [] (by omega) (by have:=((mi_ r).1 hv).2.1;unfold BIG;omega) (by have:=((mi_ r).1 hv).2.1;unfold BIG;omega) (Nat.zero_le _) hI with⟨k1,k2⟩|⟨k,m',text',caps',port',k0,k1,k2,k3⟩
   .refine⟨(zeroM,[],false),?_,?_,λe=>(by cases e),hz⟩
    .exact as_ k1 rfl
    .exact as_ k2 rfl
   .have hA:=k3.a.attrL (by omega);have hn:=k3.a.n;have p1:=ll_ hA;have p2:=jb_ hA;cases hcm:(hb_ m' != 0)with
    | true =>
     refine⟨(zeroM,[],false),?_,?_,λe=>(by cases e),hz⟩
     .refine as_ k1 ?_;simp only[];rw[p1];simp only[qBs];rw[hcm];rfl
     .refine as_ k2 ?_;simp only[];rw[p2];simp only[qBs];rw[hcm];rfl
    | false =>
     refine⟨(m',port',true),?_,?_,λ_ => ?_,by show m'.Xv.length<=_;omega⟩
     .refine as_ k1 ?_;simp only[];rw[p1];simp only[qBs];rw[hcm];rfl
     .refine as_ k2 ?_;simp only[];rw[p2];simp only[qBs];rw[hcm];rfl
     .show bP_ m'=some 0;rw[p1];have:hb_ m'=0:=by simpa using hcm
      rw[this]
  .rw[bne_iff_ne.2 hc,cond_true];exact⟨(zeroM,[],false),rfl,rfl,λe=>(by cases e),hz⟩
noncomputable def aK_(r:Xw)(m:Xx):Xx×Str×Bool:=(b9_ r m).getD (zeroM,[],false)
theorem h7_(r:Xw){m:Xx}(h:AttrL m.Xv):b9_ r m=some (aK_ r m)/\eP_ r m=some (aK_ r m)/\((aK_ r m).2.2=true->bP_ (aK_ r m).1=some 0)/\(aK_ r m).1.Xv.length<=9223372036854775807:=by
 obtain⟨v,h1,h2,h3,h4⟩:=apply_both r h;have e:aK_ r m=v:=by unfold aK_;rw[h1];rfl
 rw[e];exact⟨h1,h2,h3,h4⟩
noncomputable def he_(l:List Xw)(m:Xx):Xx×Str×Bool:=((l.find? λr=>(aK_ r m).2.2).map λr=>((aK_ r m).1,(aK_ r m).2.1,true)).getD (zeroM,[],false)
theorem nl_{l:List Xw}{m:Xx}(hl:l.length<=9223372036854775807)(h:AttrL m.Xv):eQ_ l m=some (he_ l m):=by
 unfold eQ_;have hL:=bp_ (body:=fE_ l m) l (λ_ r=>if(aK_ r m).2.2=true then some ((aK_ r m).1,(aK_ r m).2.1,true)else none) (aS_ hl) (λi hi=>by
  unfold fE_;rw[aR_ hi,cond_true,aC_ hi];simp only[qBs];rw[(h7_ l[i] h).1,ag_ (by omega)];simp only[qBs];cases(aK_ l[i] m).2.2<;>rfl) (by
  unfold fE_;rw[bj_];rfl)
 refine(bX_ (x:=(zeroM,[],false)) hL (λr=>rfl) rfl).trans ?_;rw[fg_ (λr=>(aK_ r m).2.2) (λr=>((aK_ r m).1,(aK_ r m).2.1,true))];rfl
theorem refRoute_eq{l:List Xw}{m:Xx}(hl:l.length<=9223372036854775807)(h:AttrL m.Xv):hO_ l m=some (he_ l m):=by
 unfold hO_;have hL:=bp_ (body:=fF_ l m) l (λ_ r=>if(aK_ r m).2.2=true then some ((aK_ r m).1,(aK_ r m).2.1,true)else none) (aS_ hl) (λi hi=>by
  unfold fF_;rw[aR_ hi,cond_true,aC_ hi];simp only[qBs];rw[(h7_ l[i] h).2.1,ag_ (by omega)];simp only[qBs];cases(aK_ l[i] m).2.2<;>rfl) (by
  unfold fF_;rw[bj_];rfl)
 refine(bX_ (x:=(zeroM,[],false)) hL (λr=>rfl) rfl).trans ?_;rw[fg_ (λr=>(aK_ r m).2.2) (λr=>((aK_ r m).1,(aK_ r m).2.1,true))];rfl
theorem oy_{l:List Xw}{m:Xx}(h:AttrL m.Xv):(he_ l m).1.Xv.length<=9223372036854775807:=by
 unfold he_;cases l.find? (λr=>(aK_ r m).2.2)with
 | none=>exact Nat.zero_le _
 | some r=>exact(h7_ r h).2.2.2
def gTiny(_:Nat)(p:Xp):Option Bool:=if decide ((p.Xl.length:Int)>40)=true then some false else none
theorem tiny_in{l:List Xw}(h:RulesL l){i:Nat}(hi:i<l.length):ae_ (f9_ l[i] l (i:Int)) BIG 0=some (outO (bh_ gTiny 0 (l[i]).Xh)):=by
 have hr:=h.ls _ (List.getElem_mem hi);refine bp_ (l[i]).Xh gTiny (aS_ hr) (λk hk => ?_) ?_
 .unfold f9_ gTiny;rw[aR_ hk,cond_true,aC_ hi];simp only[qBs];rw[aC_ hk];simp only[qBs];cases decide (((l[i]).Xh[k].Xl.length:Int)>40)with
  | true=>rfl
  | false =>
   simp only[cond_false,Bool.false_eq_true,if_false,ec_];rw[ag_ (by omega)]
 .unfold f9_;rw[bj_];rfl
theorem tiny_eq{l:List Xw}{m:Xx}(h:RulesL l)(hm:m.Xv.length<=9223372036854775807):∃b,g5_ l m=some b/\(b=true->l.length<=70):=by
 obtain⟨b1,h1,h1'⟩:=few_eq h;obtain⟨b2,h2,_⟩:=small_eq hm;unfold g5_;rw[h1];simp only[qBs];have e3:∃b3,(bif(!b1)then some true else(fP_ m).bind λy2=>some (!y2))=some b3/\(b3=false->b1=true):=by
  cases b1 with
  | false=>exact⟨true,rfl,λe=>(by cases e)⟩
  | true=>exact⟨!b2,by rw[h2];rfl,λ_=>rfl⟩
 obtain⟨b3,e3,e3'⟩:=e3;rw[e3];simp only[qBs];cases hb:(b3||decide ((w64 ((w64 ((w64 ((w64 ((m.Xd.length:Int)+(m.Xr.length:Int)))+(m.Xt.length:Int)))+(m.Xf.length:Int)))+(m.Xm.length:Int)))>60))with
 | true=>exact⟨false,rfl,λe=>(by cases e)⟩
 | false =>
  have hb3:b3=false:=(Bool.or_eq_false_iff.1 hb).1;have hl:=h1' (e3' hb3);have hL:=bp_ (body:=ga_ l) l (λi r=>bh_ gTiny 0 r.Xh) (aS_ h.n) (λi hi=>by
   unfold ga_;rw[aR_ hi,cond_true,aC_ hi];simp only[qBs];rw[tiny_in h hi,ag_ (by omega)];cases bh_ gTiny 0 (l[i]).Xh<;>rfl) (by
   unfold ga_;rw[bj_];rfl)
  simp only[cond_false];rw[hL];cases bh_ (λi r=>bh_ gTiny 0 r.Xh) 0 l with
  | none=>exact⟨_,rfl,λ_=>hl⟩
  | some b=>exact⟨b,rfl,λ_=>hl⟩
theorem applies_true{l:List Xw}{m:Xx}(ha:cq_=some true)(h:RulesL l)(hm:AttrL m.Xv):cV_ l m=some true:=by
 obtain⟨b,hb,_⟩:=tiny_eq h hm.len (m:=m);unfold cV_;rw[hb];simp only[qBs];cases b with
 | false =>
  rw[Bool.not_false,cond_true,ha];rfl
 | true =>
  rw[Bool.not_true,cond_false];have hL:ae_ (c4_ l m) BIG 0=some (.fall ()):=by
   refine ff_ (T:=λi=>(i:Int)) l.length (aS_ h.n) (λi hi => ?_) ?_
   .obtain⟨a1,a2,a3,a4⟩:=h7_ l[i] hm;unfold c4_;rw[aR_ hi,cond_true,aC_ hi];simp only[qBs];rw[a1,a2];simp only[qBs];rw[ma_ a4,ag_ (by have:=h.n;omega)];simp only[qBs,beq_self_eq_true,Bool.not_true,Bool.or_self,cond_false];cases hok:(aK_ l[i] m).2.2 with
    | false=>rfl
    | true =>
     rw[a3 hok];rfl
   .unfold c4_;rw[bj_];rfl
  rw[hL];simp only[qBs];rw[nl_ h.n hm,refRoute_eq h.n hm];simp only[qBs];rw[ma_ (oy_ hm)];simp only[qBs,beq_self_eq_true,Bool.and_self,cond_true];rw[ha];rfl
theorem mQ_{α:Type}(p:α->Bool):∀l:List α,(l.filter p).find? p=l.find? p
 | []=>rfl
 | x::l=>by
  rw[List.find?_cons];cases h:p x with
  | true=>rw[List.filter_cons_of_pos h,List.find?_cons_of_pos h]
  | false=>rw[List.filter_cons_of_neg (by simp[h]),mQ_ p l]
theorem skips_true{l:List Xw}{m:Xx}(ha:cq_=some true)(h:RulesL l)(hm:AttrL m.Xv):dC_ l m=some true:=by
 obtain⟨b,hb,hb2⟩:=tiny_eq h hm.len (m:=m);unfold dC_;rw[hb];simp only[qBs];cases b with
 | false =>
  rw[Bool.not_false,cond_true,ha];rfl
 | true =>
  have hl:=hb2 rfl;rw[Bool.not_true,cond_false];have hL:=ff_ (body:=cH_ l m) (T:=λi=>((i:Int),(l.take i).filter λr=>(aK_ r m).2.2)) (b:=l.filter λr=>(aK_ r m).2.2) l.length (aS_ h.n) (λi hi=>by
   have hle:=kq_ (λr=>(aK_ r m).2.2) l i;unfold cH_;simp only[];rw[aR_ hi,cond_true,aC_ hi,ds_ hi,fZ_,ag_ (by omega)];simp only[qBs];rw[(h7_ l[i] hm).1];simp only[qBs];cases(aK_ l[i] m).2.2 with
   | false=>rfl
   | true =>
    simp only[cond_true,if_true];rw[bl_ (by simp only[qLc,List.length_nil];omega) (by simp only[qLc,List.length_nil];omega)];rfl) (by
   unfold cH_;simp only[];rw[bj_,List.take_length];rfl)
  have hL:ae_ (cH_ l m) BIG (0,[])=some (l.filter λr=>(aK_ r m).2.2):=hL;have hfl:(l.filter λr=>(aK_ r m).2.2).length<=9223372036854775807:=by
   have:=List.length_filter_le (λr=>(aK_ r m).2.2) l;omega
  have hrv:he_ (l.filter λr=>(aK_ r m).2.2) m=he_ l m:=by
   unfold he_;rw[mQ_ (λr=>(aK_ r m).2.2) l]
  have hpos:((he_ l m).2.2==decide (((l.filter λr=>(aK_ r m).2.2).length:Int)>0))=true:=by
   unfold he_;cases hf:l.find? (λr=>(aK_ r m).2.2)with
   | none =>
    have:l.filter (λr=>(aK_ r m).2.2)=[]:=by
     rw[List.filter_eq_nil_iff];exact λa h=>List.find?_eq_none.1 hf a h
    rw[this];rfl
   | some r =>
    have h1:=List.mem_of_find?_eq_some hf;have h2:(aK_ r m).2.2=true:=List.find?_some (p:=λr=>(aK_ r m).2.2) hf;have h3:r∈l.filter (λr=>(aK_ r m).2.2):=List.mem_filter.2 ⟨h1,h2⟩;have h4:=List.length_pos_of_mem h3;rw[decide_eq_true (by omega)];rfl
  rw[hL];simp only[qBs];rw[nl_ h.n hm,nl_ hfl hm,hrv];simp only[qBs];rw[ma_ (oy_ hm)];simp only[qBs,beq_self_eq_true,Bool.and_self,Bool.true_and];rw[hpos,cond_true,ha];rfl
noncomputable section
instance dq0:DecidableEq (List Int×List regex_thread):=instDecidableEqProd
instance dq1:DecidableEq (Int×List Int×List regex_thread):=instDecidableEqProd
instance dq2:DecidableEq (Str×Int×List Int×List regex_thread):=instDecidableEqProd
instance dq3:DecidableEq (Int×Str×Int×List Int×List regex_thread):=instDecidableEqProd
instance dq4:DecidableEq (List Xz×Int×Str×Int×List Int×List regex_thread):=instDecidableEqProd
instance dq5:DecidableEq (Int×List Xz×Int×Str×Int×List Int×List regex_thread):=instDecidableEqProd
instance dq6:DecidableEq (List Int×Int×List Xz×Int×Str×Int×List Int×List regex_thread):=instDecidableEqProd
def nilBC{α R:Type}[DecidableEq R](xs:List α)(k:Bool->Option R):Option R:=match xs with | []=>bothC (k true) (k false)|_::_=>k false
theorem e_nilB{α R:Type}[DecidableEq R] : @nilB α R=nilBC:=by
 funext xs k
 cases xs with
 | nil=>show both _ _=bothC _ _;rw[e_both]
 | cons x l=>rfl
def gh_ (x0:Xp):Option Bool :=
 Option.bind (
  (bothC (
   (bothC (
    (cp_ x0.Xy).bind λy7 =>
    (aA_ y7 x0.Xg).bind λy8 =>
    (bif(!y8)then
     some true
    else
     (bif(x0.Xl==[])then
      some true
     else
      (bif(decide ((x0.Xl.length:Int)>1024))then
       some true
      else
       (strings_Contains x0.Xl [10]).bind λy9 =>
       some y9)))) (
    (cp_ x0.Xy).bind λy4 =>
    (aA_ y4 x0.Xg).bind λy5 =>
    (bif(!y5)then
     some true
    else
     (bif(x0.Xl==[])then
      some true
     else
      (bif(decide ((x0.Xl.length:Int)>1024))then
       some true
      else
       (strings_Contains x0.Xl [10]).bind λy6 =>
       some y6)))))) (
   (cp_ x0.Xy).bind λy1 =>
   (aA_ y1 x0.Xg).bind λy2 =>
   (bif(!y2)then
    some true
   else
    (bif(x0.Xl==[])then
     some true
    else
     (bif(decide ((x0.Xl.length:Int)>1024))then
      some true
     else
      (strings_Contains x0.Xl [10]).bind λy3 =>
      some y3)))))
  ) λ(o1:Bool) =>
 (bif o1 then
  some (false)
 else
  (bif(!(x0.Xg==[109,97,116,99,104,101,115]))then
   some (true)
  else
   (aE_ x0.Xl).bind λy10 =>
   some ((y10.2.2==0))))
theorem lm_:d6_=gh_:=by
 funext x0
 simp only[d6_,gh_,e_both]<;>rfl
def gt_ (y1:(List Str)) (s2:Int×(List Xw)×(List Xp)):Option (Step (Int×(List Xw)×(List Xp)) (Out ((List Xw)×(List Xp)) ((List Xw)×Int×Int))) :=
 (bif (decide (s2.1<(y1.length:Int)))then
  Option.bind (
   (ah_ y1 s2.1).bind λy11 =>
   (strings_HasPrefix y11 [35]).bind λy12 =>
   (bif y12 then
    some (.fall (s2.2.1,s2.2.2))
   else
    (bif(y11==[])then
     (bif(decide ((s2.2.2.length:Int)>0))then
      (d5_ (Xw.mk s2.2.2)).bind λy13 =>
      (bif(!y13)then
       some (.ret (([],(w64 (s2.1+1)),50)))
      else
       (room 24 s2.2.1 [(Xw.mk s2.2.2)]).bind λy14 =>
       some (.fall (y14,[])))
     else
      some (.fall (s2.2.1,s2.2.2)))
    else
     (bif(((s2.2.2.length:Int)==0)&&(decide ((s2.2.1.length:Int)>=64)))then
      some (.ret (([],(w64 (s2.1+1)),22)))
     else
      (ic_ y11).bind λy15 =>
      (gh_ y15).bind λy16 =>
      Option.bind (bif(!y16)then some true else 
       (d5_ (Xw.mk s2.2.2)).bind λy17 =>
       some y17
       ) λ(y18:Bool) =>
      (bif(y18||(decide ((s2.2.2.length:Int)>=32)))then
       some (.ret (([],(w64 (s2.1+1)),50)))
      else
       (room 48 s2.2.2 [y15]).bind λy19 =>
       some (.fall (s2.2.1,y19))))))
   ) λ(wo2:Out ((List Xw)×(List Xp)) ((List Xw)×Int×Int))=>match wo2 with
  | .ret r2=>some (.done (.ret r2))
  | .fall o2 =>
   some (.next ((w64 (s2.1+1)),o2.1,o2.2))
 else
  some (.done (.fall (s2.2.1,s2.2.2))))
theorem nm_:hu_=gt_:=by
 funext y1 s2
 simp only[hu_,gt_,lm_]<;>rfl
def ih_ (x0:Str):Option ((List Xw)×Int×Int) :=
 (jP_ x0).bind λy1 =>
 Option.bind (ae_ (gt_ y1) BIG (0,[],[])) λ(wo3:Out ((List Xw)×(List Xp)) ((List Xw)×Int×Int))=>match wo3 with
 | .ret r3=>some r3
 | .fall o3 =>
  Option.bind (
   (bif(decide ((o3.2.length:Int)>0))then
    (d5_ (Xw.mk o3.2)).bind λy20 =>
    (bif(!y20)then
     some (.ret (([],(w64 ((y1.length:Int)+1)),50)))
    else
     (room 24 o3.1 [(Xw.mk o3.2)]).bind λy21 =>
     some (.fall y21))
   else
    some (.fall o3.1))
   ) λ(wo4:Out (List Xw) ((List Xw)×Int×Int))=>match wo4 with
  | .ret r4=>some r4
  | .fall o4 =>
   some ((o4,0,0))
theorem p8_:hJ_=ih_:=by
 funext x0
 simp only[hJ_,ih_,nm_]<;>rfl
def gu_(x0:Xw)(s2:Int):Option (Step Int (Out Unit Bool)) :=
 (bif(decide (s2<(x0.Xh.length:Int)))then
  (ah_ x0.Xh s2).bind λy3 =>
  (gh_ y3).bind λy4 =>
  (bif((!y4)||(!((y3.Xy==[112,108,117,109,98])==(s2==(w64 ((x0.Xh.length:Int)-1))))))then
   some (.done (.ret (false)))
  else
   some (.next (w64 (s2+1))))
 else
  some (.done (.fall ())))
theorem nn_:ej_=gu_:=by
 funext x0 s2
 simp only[ej_,gu_,lm_]<;>rfl
def ii_(x0:Xw):Option Bool :=
 (bif((decide ((x0.Xh.length:Int)<1))||(decide ((x0.Xh.length:Int)>32)))then
  some (false)
 else
  (ae_ (gu_ x0) BIG 0).bind λwo1=>match wo1 with
  | .ret r1=>some r1
  | .fall _ =>
   some (true))
theorem p9_:eN_=ii_:=by
 funext x0
 simp only[eN_,ii_,nn_]<;>rfl
def hA_ (x3:Bool) (x1:Str) (x0:Xk) (s6:(List Int)×Int×(List Xz)×Int×Str×Int×(List Int)×(List regex_thread)):Option (Step ((List Int)×Int×(List Xz)×Int×Str×Int×(List Int)×(List regex_thread)) (Out Unit ((List Int)×Int))) :=
 Option.bind (
  (ae_ (cw_ s6) BIG (0,s6.2.2.2.2.2.2.2)).bind λwo6=>match wo6 with
  | .ret r2 =>
   (nilBC r2.1 λ(n2:Bool) =>
   (bif((!n2)&&((!x3)||(s6.2.2.2.2.2.1==(x1.length:Int))))then
    some (r2.1,s6.2.2.2.2.2.1,s6.2.2.1,s6.2.2.2.1,s6.2.2.2.2.1,s6.2.2.2.2.2.1,s6.2.2.2.2.2.2.1,r2.2)
   else
    some (s6.1,s6.2.1,s6.2.2.1,s6.2.2.2.1,s6.2.2.2.2.1,s6.2.2.2.2.2.1,s6.2.2.2.2.2.2.1,r2.2)))
  | .fall o6 =>
   (bif(false&&((!x3)||(s6.2.2.2.2.2.1==(x1.length:Int))))then
    some ([],s6.2.2.2.2.2.1,s6.2.2.1,s6.2.2.2.1,s6.2.2.2.2.1,s6.2.2.2.2.2.1,s6.2.2.2.2.2.2.1,o6)
   else
    some (s6.1,s6.2.1,s6.2.2.1,s6.2.2.2.1,s6.2.2.2.2.1,s6.2.2.2.2.2.1,s6.2.2.2.2.2.2.1,o6))
  ) λ(o7:(List Int)×Int×(List Xz)×Int×Str×Int×(List Int)×(List regex_thread)) =>
 (bif((decide (o7.2.2.2.2.2.1>=(x1.length:Int)))||((o7.2.2.2.2.2.2.2.length:Int)==0))then
  some (.done (.ret ((o7.1,o7.2.1))))
 else
  (an_ x1 o7.2.2.2.2.2.1).bind λy22 =>
  (cY_ 8 (0:Int) (o7.2.2.1.length:Int)).bind λy23 =>
  Option.bind (ae_ (cT_ o7 x0 y22) BIG (0,o7.2.2.1,o7.2.2.2.1,o7.2.2.2.2.1,(w64 (o7.2.2.2.2.2.1+1)),y23,[],o7.2.2.2.2.2.2.2)) λ(o10:(List Xz)×Int×Str×Int×(List Int)×(List regex_thread)) =>
  some (.next (o7.1,o7.2.1,o10.1,o10.2.1,o10.2.2.1,o10.2.2.2.1,o10.2.2.2.2.1,o10.2.2.2.2.2)))
theorem pg_:cU_=hA_:=by
 funext x3 x1 x0 s6
 simp only[cU_,hA_,e_nilB]<;>rfl
def jZ_(x0:Xk)(x1:Str)(x2:Int)(x3:Bool):Option ((List Int)×Int) :=
 (cY_ 8 (0:Int) (x0.Yx.length:Int)).bind λy1 =>
 (dm_ [(-1)] (w64 (2*x0.Yj))).bind λy2 =>
 Option.bind (al_ BIG (regex_machine.mk x0 x1 x2 y1 []) 0 y2) λ(y3:regex_machine) =>
 Option.bind (ae_ (hA_ x3 x1 x0) BIG ([],(-1),y3.r_.Yx,y3.r_.Yj,y3.s_,y3.pos_,y3.visited_,y3.list_)) λ(wo11:Out Unit ((List Int)×Int))=>match wo11 with
 | .ret r11=>some r11
 | .fall _ =>
  none
theorem e_regex_run:fc_=jZ_:=by
 funext x0 x1 x2 x3
 simp only[fc_,jZ_,pg_]<;>rfl
def dd_(x0:Xk)(x1:Str):Option ((List Int)×Bool):=(jZ_ x0 x1 0 true).bind λy1=>(aU_ y1.1).bind λy2=>some ((y2,(decide (y1.2>=0))))
theorem qa_:b0_=dd_:=by
 funext x0 x1
 simp only[b0_,dd_,e_regex_run]<;>rfl
def fj_ (x0 : plumb_state) (x1:Xp):Option (Bool×plumb_state) :=
 (bu_ x0 x1.Xl).bind λy1 =>
 (bif((!(x1.Xg==[109,97,116,99,104,101,115]))&&(decide ((y1.1.length:Int)>65536)))then
  some ((false,y1.2))
 else
  (bif(x1.Xy==[112,108,117,109,98])then
   some ((true,(plumb_state.mk y1.2.m_ y1.2.text_ y1.2.caps_ y1.1)))
  else
   (bif(x1.Xy==[97,116,116,114])then
    (cB_ y1.2 x1.Xg y1.1).bind λy2 =>
    some ((y2.1,y2.2))
   else
    (bif (x1.Xy==[115,114,99])then
     (bif(x1.Xg==[105,115])then
      some (((y1.2.m_.Xd==y1.1),y1.2))
     else
      (bif(x1.Xg==[105,115,110])then
       some (((!(y1.2.m_.Xd==y1.1)),y1.2))
      else
       (bif(x1.Xg==[115,101,116])then
        some ((true,(plumb_state.mk (Xx.mk y1.1 y1.2.m_.Xr y1.2.m_.Xt y1.2.m_.Xf y1.2.m_.Xv y1.2.m_.Xm) y1.2.text_ y1.2.caps_ y1.2.port_)))
       else
        (aE_ x1.Xl).bind λy3 =>
        (bif(y3.2.2 != 0)then
         some ((false,y1.2))
        else
         (dd_ y3.1 y1.2.m_.Xd).bind λy4 =>
         Option.bind (
          (bif y4.2 then
           some (y1.2.m_.Xd,y1.2.m_.Xr,y1.2.m_.Xt,y1.2.m_.Xf,y1.2.m_.Xv,y1.2.m_.Xm,y1.2.m_.Xd,y4.1,y1.2.port_)
          else
           some (y1.2.m_.Xd,y1.2.m_.Xr,y1.2.m_.Xt,y1.2.m_.Xf,y1.2.m_.Xv,y1.2.m_.Xm,y1.2.text_,y1.2.caps_,y1.2.port_))
          ) λ(o1:Str×Str×Str×Str×(List Xq)×Str×Str×(List Int)×Str) =>
         some ((y4.2,(plumb_state.mk (Xx.mk o1.1 o1.2.1 o1.2.2.1 o1.2.2.2.1 o1.2.2.2.2.1 o1.2.2.2.2.2.1) o1.2.2.2.2.2.2.1 o1.2.2.2.2.2.2.2.1 o1.2.2.2.2.2.2.2.2)))))))
    else
     (bif (x1.Xy==[100,115,116])then
      (bif(x1.Xg==[105,115])then
       some (((y1.2.m_.Xr==y1.1),y1.2))
      else
       (bif(x1.Xg==[105,115,110])then
        some (((!(y1.2.m_.Xr==y1.1)),y1.2))
       else
        (bif(x1.Xg==[115,101,116])then
         some ((true,(plumb_state.mk (Xx.mk y1.2.m_.Xd y1.1 y1.2.m_.Xt y1.2.m_.Xf y1.2.m_.Xv y1.2.m_.Xm) y1.2.text_ y1.2.caps_ y1.2.port_)))
        else
         (aE_ x1.Xl).bind λy5 =>
         (bif(y5.2.2 != 0)then
          some ((false,y1.2))
         else
          (dd_ y5.1 y1.2.m_.Xr).bind λy6 =>
          Option.bind (
           (bif y6.2 then
            some (y1.2.m_.Xd,y1.2.m_.Xr,y1.2.m_.Xt,y1.2.m_.Xf,y1.2.m_.Xv,y1.2.m_.Xm,y1.2.m_.Xr,y6.1,y1.2.port_)
           else
            some (y1.2.m_.Xd,y1.2.m_.Xr,y1.2.m_.Xt,y1.2.m_.Xf,y1.2.m_.Xv,y1.2.m_.Xm,y1.2.text_,y1.2.caps_,y1.2.port_))
           ) λ(o2:Str×Str×Str×Str×(List Xq)×Str×Str×(List Int)×Str) =>
          some ((y6.2,(plumb_state.mk (Xx.mk o2.1 o2.2.1 o2.2.2.1 o2.2.2.2.1 o2.2.2.2.2.1 o2.2.2.2.2.2.1) o2.2.2.2.2.2.2.1 o2.2.2.2.2.2.2.2.1 o2.2.2.2.2.2.2.2.2)))))))
     else
      (bif (x1.Xy==[119,100,105,114])then
       (bif(x1.Xg==[105,115])then
        some (((y1.2.m_.Xt==y1.1),y1.2))
       else
        (bif(x1.Xg==[105,115,110])then
         some (((!(y1.2.m_.Xt==y1.1)),y1.2))
        else
         (bif(x1.Xg==[115,101,116])then
          some ((true,(plumb_state.mk (Xx.mk y1.2.m_.Xd y1.2.m_.Xr y1.1 y1.2.m_.Xf y1.2.m_.Xv y1.2.m_.Xm) y1.2.text_ y1.2.caps_ y1.2.port_)))
         else
          (aE_ x1.Xl).bind λy7 =>
          (bif(y7.2.2 != 0)then
           some ((false,y1.2))
          else
           (dd_ y7.1 y1.2.m_.Xt).bind λy8 =>
           Option.bind (
            (bif y8.2 then
             some (y1.2.m_.Xd,y1.2.m_.Xr,y1.2.m_.Xt,y1.2.m_.Xf,y1.2.m_.Xv,y1.2.m_.Xm,y1.2.m_.Xt,y8.1,y1.2.port_)
            else
             some (y1.2.m_.Xd,y1.2.m_.Xr,y1.2.m_.Xt,y1.2.m_.Xf,y1.2.m_.Xv,y1.2.m_.Xm,y1.2.text_,y1.2.caps_,y1.2.port_))
            ) λ(o3:Str×Str×Str×Str×(List Xq)×Str×Str×(List Int)×Str) =>
           some ((y8.2,(plumb_state.mk (Xx.mk o3.1 o3.2.1 o3.2.2.1 o3.2.2.2.1 o3.2.2.2.2.1 o3.2.2.2.2.2.1) o3.2.2.2.2.2.2.1 o3.2.2.2.2.2.2.2.1 o3.2.2.2.2.2.2.2.2)))))))
      else
       (bif (x1.Xy==[116,121,112,101])then
        (bif(x1.Xg==[105,115])then
         some (((y1.2.m_.Xf==y1.1),y1.2))
        else
         (bif(x1.Xg==[105,115,110])then
          some (((!(y1.2.m_.Xf==y1.1)),y1.2))
         else
          (bif(x1.Xg==[115,101,116])then
           some ((true,(plumb_state.mk (Xx.mk y1.2.m_.Xd y1.2.m_.Xr y1.2.m_.Xt y1.1 y1.2.m_.Xv y1.2.m_.Xm) y1.2.text_ y1.2.caps_ y1.2.port_)))
          else
           (aE_ x1.Xl).bind λy9 =>
           (bif(y9.2.2 != 0)then
            some ((false,y1.2))
           else
            (dd_ y9.1 y1.2.m_.Xf).bind λy10 =>
            Option.bind (
             (bif y10.2 then
              some (y1.2.m_.Xd,y1.2.m_.Xr,y1.2.m_.Xt,y1.2.m_.Xf,y1.2.m_.Xv,y1.2.m_.Xm,y1.2.m_.Xf,y10.1,y1.2.port_)
             else
              some (y1.2.m_.Xd,y1.2.m_.Xr,y1.2.m_.Xt,y1.2.m_.Xf,y1.2.m_.Xv,y1.2.m_.Xm,y1.2.text_,y1.2.caps_,y1.2.port_))
             ) λ(o4:Str×Str×Str×Str×(List Xq)×Str×Str×(List Int)×Str) =>
            some ((y10.2,(plumb_state.mk (Xx.mk o4.1 o4.2.1 o4.2.2.1 o4.2.2.2.1 o4.2.2.2.2.1 o4.2.2.2.2.2.1) o4.2.2.2.2.2.2.1 o4.2.2.2.2.2.2.2.1 o4.2.2.2.2.2.2.2.2)))))))
       else
        (bif(x1.Xg==[105,115])then
         some (((y1.2.m_.Xm==y1.1),y1.2))
        else
         (bif(x1.Xg==[105,115,110])then
          some (((!(y1.2.m_.Xm==y1.1)),y1.2))
         else
          (bif(x1.Xg==[115,101,116])then
           some ((true,(plumb_state.mk (Xx.mk y1.2.m_.Xd y1.2.m_.Xr y1.2.m_.Xt y1.2.m_.Xf y1.2.m_.Xv y1.1) y1.2.text_ y1.2.caps_ y1.2.port_)))
          else
           (aE_ x1.Xl).bind λy11 =>
           (bif(y11.2.2 != 0)then
            some ((false,y1.2))
           else
            (dd_ y11.1 y1.2.m_.Xm).bind λy12 =>
            Option.bind (
             (bif y12.2 then
              some (y1.2.m_.Xd,y1.2.m_.Xr,y1.2.m_.Xt,y1.2.m_.Xf,y1.2.m_.Xv,y1.2.m_.Xm,y1.2.m_.Xm,y12.1,y1.2.port_)
             else
              some (y1.2.m_.Xd,y1.2.m_.Xr,y1.2.m_.Xt,y1.2.m_.Xf,y1.2.m_.Xv,y1.2.m_.Xm,y1.2.text_,y1.2.caps_,y1.2.port_))
             ) λ(o5:Str×Str×Str×Str×(List Xq)×Str×Str×(List Int)×Str) =>
            some ((y12.2,(plumb_state.mk (Xx.mk o5.1 o5.2.1 o5.2.2.1 o5.2.2.2.1 o5.2.2.2.2.1 o5.2.2.2.2.2.1) o5.2.2.2.2.2.2.1 o5.2.2.2.2.2.2.2.1 o5.2.2.2.2.2.2.2.2))))))))))))))
theorem mn_:bn_=fj_:=by
 funext x0 x1
 simp only[bn_,fj_,qa_]<;>rfl
def gv_(x0:Xw)(s2:Int×Str×Str×Str×Str×(List Xq)×Str×Str×(List Int)×Str):Option (Step (Int×Str×Str×Str×Str×(List Xq)×Str×Str×(List Int)×Str) (Out plumb_state (Xx×Str×Bool))) :=
 (bif(decide (s2.1<(x0.Xh.length:Int)))then
  (ah_ x0.Xh s2.1).bind λy7 =>
  (fj_ (plumb_state.mk (Xx.mk s2.2.1 s2.2.2.1 s2.2.2.2.1 s2.2.2.2.2.1 s2.2.2.2.2.2.1 s2.2.2.2.2.2.2.1) s2.2.2.2.2.2.2.2.1 s2.2.2.2.2.2.2.2.2.1 s2.2.2.2.2.2.2.2.2.2) y7).bind λy8 =>
  (bif(!y8.1)then
   some (.done (.ret (((Xx.mk [] [] [] [] [] []),[],false))))
  else
   some (.next ((w64 (s2.1+1)),y8.2.m_.Xd,y8.2.m_.Xr,y8.2.m_.Xt,y8.2.m_.Xf,y8.2.m_.Xv,y8.2.m_.Xm,y8.2.text_,y8.2.caps_,y8.2.port_)))
 else
  some (.done (.fall (plumb_state.mk (Xx.mk s2.2.1 s2.2.2.1 s2.2.2.2.1 s2.2.2.2.2.1 s2.2.2.2.2.2.1 s2.2.2.2.2.2.2.1) s2.2.2.2.2.2.2.2.1 s2.2.2.2.2.2.2.2.2.1 s2.2.2.2.2.2.2.2.2.2))))
theorem no_:b3_=gv_:=by
 funext x0 s2
 simp only[b3_,gv_,mn_]<;>rfl
def ij_ (x0:Xw) (x1:Xx):Option (Xx×Str×Bool) :=
 (ii_ x0).bind λy1 =>
 Option.bind (bif(!y1)then some true else 
  (bP_ x1).bind λy2 =>
  some (y2 != 0)
  ) λ(y3:Bool) =>
 (bif y3 then
  some (((Xx.mk [] [] [] [] [] []),[],false))
 else
  (aH_ x1.Xv).bind λy4 =>
  Option.bind (ae_ (gv_ x0) BIG (0,x1.Xd,x1.Xr,x1.Xt,x1.Xf,y4,x1.Xm,[],[],[])) λ(wo1:Out plumb_state (Xx×Str×Bool))=>match wo1 with
  | .ret r1=>some r1
  | .fall o1 =>
   (bP_ o1.m_).bind λy9 =>
   (bif(y9 != 0)then
    some (((Xx.mk [] [] [] [] [] []),[],false))
   else
    some ((o1.m_,o1.port_,true))))
theorem qb_:b9_=ij_:=by
 funext x0 x1
 simp only[b9_,ij_,p9_,no_]<;>rfl
def ln_  : Option Bool:=id_ jN_ jO_ ih_ ij_
theorem qc_:cq_=ln_:=by
 simp only[cq_,ln_,p8_,qb_]<;>rfl
theorem alive_eq:cq_=some true:=by
 rw[qc_]
 kernel_rfl
end
theorem oz_{l:List Xw}(h:Fit te (.sl (.st 3)) l):RulesL l:=by
 have h1:l.length<=9223372036854775807/\∀r∈l,FitL (FitC te 1) (te.flat (.st 3)) (te.fl (.st 3) r):=(h 2).1;refine⟨h1.1,λr hr => ?_⟩;have h2:r.Xh.length<=9223372036854775807/\∀p∈r.Xh,FitL (FitC te 0) (te.flat (.st 2)) (te.fl (.st 2) p):=(h1.2 r hr).1;exact h2.1
theorem attr_fitA{x:Xx}(h:Fit te (.st 1) x):AttrL x.Xv:=by
 have h1:x.Xv.length<=9223372036854775807/\∀a∈x.Xv,FitL (FitC te 0) (te.flat (.st 0)) (te.fl (.st 0) a):=(h 1).2.2.2.2.1;exact⟨h1.1,λa ha=>(h1.2 a ha).1,λa ha=>(h1.2 a ha).2.1⟩
theorem mo_(x0:List Xw)(x1:Xx)(h0:Fit te (.sl (.st 3)) x0)(h1:Fit te (.st 1) x1):cV_ x0 x1=some true:=applies_true alive_eq (oz_ h0) (attr_fitA h1)
theorem np_(x0:List Xw)(x1:Xx)(h0:Fit te (.sl (.st 3)) x0)(h1:Fit te (.st 1) x1):dC_ x0 x1=some true:=skips_true alive_eq (oz_ h0) (attr_fitA h1)
end Go.Proofs.YtbdcelleafhelaaGreatDoor
