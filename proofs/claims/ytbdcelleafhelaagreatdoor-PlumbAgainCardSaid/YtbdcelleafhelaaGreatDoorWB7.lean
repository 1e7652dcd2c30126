/-
 What the statements of this seat hang on,part 7: Bk Bl Bm Bn Aw Bt.
-/
import Derived.Test.YtbdcelleafhelaaGreatDoorWB6
import Derived.KernelRfl
namespace Go.Proofs.YtbdcelleafhelaaGreatDoor
open Go.Rt Go.RowKit
def ck_(p:Xj):Str:=p.Xy++32::(p.Xh++32::(p.Xf++[10]))
def gk_(r:Xx):Str:=r.Xk.flatMap ck_
def bC_(l:List Xx):Str:=g4_ [10] (l.map gk_)
theorem lineS_len{p:Xj}(h:ar_ p=true):(ck_ p).length<=1040:=by
 obtain⟨h1,h2,h3,_⟩:=eF_ h;unfold ck_;simp only[qLa,qLc,List.length_nil];omega
theorem jr_:∀(l:List Xj),(∀p∈l,ar_ p=true)->(l.flatMap ck_).length<=1040*l.length
 | [],_=>Nat.le_refl _
 | p::l,h=>by
  have h1:=lineS_len (h p List.mem_cons_self);have h2:=jr_ l λq hq=>h q (List.mem_cons_of_mem _ hq)
  rw[List.flatMap_cons,qLa,qLc];omega
theorem eU_{r:Xx}(h:aR_ r=true):∀p∈r.Xk,ar_ p=true:=by
 intro p hp;obtain⟨i,hi⟩:=List.mem_iff_getElem?.1 hp;exact(((eu_ r).1 h).2.2 i p hi).1
theorem textR_len{r:Xx}(h:aR_ r=true):(gk_ r).length<=33280:=by
 have h1:=jr_ r.Xk (eU_ h);have h2:=((eu_ r).1 h).2.1;unfold gk_;omega
theorem kv_:∀(l:List Xx),(∀r∈l,aR_ r=true)->(bC_ l).length<=33281*l.length:=by
 intro l h;unfold bC_;rw[join_len];have:((l.map gk_).flatten).length<=33280*l.length:=by
  induction l with
  | nil=>exact Nat.le_refl _
  | cons r l ih =>
   have h1:=textR_len (h r List.mem_cons_self);have h2:=ih λq hq=>h q (List.mem_cons_of_mem _ hq)
   rw[List.map_cons,List.flatten_cons,qLa,qLc];omega
 simp only[List.length_map,qLc,List.length_nil];omega
theorem mC_{l:List Xx}{i:Nat}(h:i<l.length):bC_ (l.take (i+1))=bC_ (l.take i)++((if 0<i then[10]else[])++gk_ l[i]):=by
 unfold bC_;rw[hL_ h,List.map_append,List.map_cons,List.map_nil];rcases Nat.eq_zero_or_pos i with rfl|hi
 .rfl
 .rw[if_pos hi,join_snoc];intro e;have:=congrArg List.length e;rw[List.length_map,List.length_take]at this;simp only[List.length_nil]at this;omega
theorem cats_line{p:Xj}(h:ar_ p=true){γ:Type}{f:Str->Option γ}:((cat p.Xy [32]).bind λa=>(cat a p.Xh).bind λb=>(cat b [32]).bind λc=>(cat c p.Xf).bind λd=>(cat d [10]).bind f)=f (ck_ p):=by
 obtain⟨h1,h2,h3,_⟩:=eF_ h;rw[dJ_ (by simp only[qLc,List.length_nil];omega)];simp only[qBs];rw[dJ_ (by simp only[qLa,qLc,List.length_nil];omega)];simp only[qBs];rw[dJ_ (by simp only[qLa,qLc,List.length_nil];omega)];simp only[qBs];rw[dJ_ (by simp only[qLa,qLc,List.length_nil];omega)];simp only[qBs];rw[dJ_ (by simp only[qLa,qLc,List.length_nil];omega)];simp only[qBs]
 congr 1
 unfold ck_;simp
theorem cats_line2{p:Xj}(h:ar_ p=true){s:Str}(hs:s.length<=1000000000){γ:Type}{f:Str->Option γ}:((cat s p.Xy).bind λz=>(cat z [32]).bind λa=>(cat a p.Xh).bind λb=>(cat b [32]).bind λc=>(cat c p.Xf).bind λd=>(cat d [10]).bind f)=f (s++ck_ p):=by
 obtain⟨h1,h2,h3,_⟩:=eF_ h;rw[dJ_ (by omega)];simp only[qBs];rw[dJ_ (by simp only[qLa,qLc,List.length_nil];omega)];simp only[qBs];rw[dJ_ (by simp only[qLa,qLc,List.length_nil];omega)];simp only[qBs];rw[dJ_ (by simp only[qLa,qLc,List.length_nil];omega)];simp only[qBs];rw[dJ_ (by simp only[qLa,qLc,List.length_nil];omega)];simp only[qBs];rw[dJ_ (by simp only[qLa,qLc,List.length_nil];omega)];simp only[qBs]
 congr 1
 unfold ck_;simp
theorem flat_succ{l:List Xj}{i:Nat}(h:i<l.length):(l.take (i+1)).flatMap ck_=(l.take i).flatMap ck_++ck_ l[i]:=by
 rw[hL_ h,List.flatMap_append];simp
theorem text_in{r:Xx}(h:aR_ r=true){A:Str}(hA:A.length<=100000000):ah_ (d0_ r) BIG (0,aG_ A)=some (aG_ (A++gk_ r)):=by
 have hv:=(eu_ r).1 h;have hs:=eU_ h;have hl:∀i,((r.Xk.take i).flatMap ck_).length<=1040*32:=λi=>by
  have h1:=jr_ (r.Xk.take i) (λp hp=>hs p (List.mem_of_mem_take hp));have h2:(r.Xk.take i).length<=32:=by rw[List.length_take];omega
  omega
 have:=hJ_ (body:=d0_ r) (T:=λi=>((i:Int),aG_ (A++(r.Xk.take i).flatMap ck_))) (b:=aG_ (A++gk_ r)) r.Xk.length (cp_ (by omega)) (λi hi=>by
  unfold d0_;simp only[];rw[lt_t hi,cond_true,bH_ hi];simp only[qBs];have hp:=hs _ (List.getElem_mem hi);have hline:=lineS_len hp;rw[cats_line hp,bS_ (by rw[c1_,c1_,qLa];have:=hl i;omega) (by rw[c1_,c1_,qLa];have:=hl i;omega)];simp only[qBs];rw[am_ (by omega),flat_succ hi,←strI_app,List.append_assoc]) (by
  unfold d0_;simp only[];rw[lt_f,List.take_length];rfl)
 have e:((((0:Nat):Int),aG_ (A++(r.Xk.take 0).flatMap ck_)):Int×List Int)=(0,aG_ A):=by simp
 rw[e]at this;exact this
theorem refText_in{l:List Xx}{i:Nat}(hi:i<l.length)(h:aR_ l[i]=true){A:Str}(hA:A.length<=100000000){s:Str}:ah_ (d1_ l (s,(i:Int))) BIG (A,0)=some (A++gk_ l[i]):=by
 have hv:=(eu_ l[i]).1 h;have hs:=eU_ h;have hl:∀k,(((l[i]).Xk.take k).flatMap ck_).length<=1040*32:=λk=>by
  have h1:=jr_ ((l[i]).Xk.take k) (λp hp=>hs p (List.mem_of_mem_take hp));have h2:((l[i]).Xk.take k).length<=32:=by rw[List.length_take];omega
  omega
 have:=hJ_ (body:=d1_ l (s,(i:Int))) (T:=λk=>(A++((l[i]).Xk.take k).flatMap ck_,(k:Int))) (b:=A++gk_ l[i]) (l[i]).Xk.length (cp_ (by omega)) (λk hk=>by
  unfold d1_;simp only[];rw[bH_ hi];simp only[qBs];rw[lt_t hk,cond_true,bH_ hk];simp only[qBs];have hp:=hs _ (List.getElem_mem hk);rw[cats_line2 hp (by rw[qLa];have:=hl k;omega),am_ (by omega),flat_succ hk,List.append_assoc]) (by
  unfold d1_;simp only[];rw[bH_ hi];simp only[qBs];rw[lt_f,List.take_length];rfl)
 have e:((A++((l[i]).Xk.take 0).flatMap ck_,((0:Nat):Int)):Str×Int)=(A,0):=by simp
 rw[e]at this;exact this
def gl_(l:List Xx):Str×Int:=if 64<l.length then([],22)else if l.all aR_ then(bC_ l,0)else([],50)
theorem kw_ (l:List Xx):di_ l=some (gl_ l):=by
 unfold di_ gl_;by_cases h:64<l.length
 .rw[decide_eq_true (by omega),if_pos h];rfl
 .rw [decide_eq_false (by omega),if_neg h,cond_false]
  have hL:ah_ (e3_ l) BIG (0,[])=some (if l.all aR_ then .fall (aG_ (bC_ l))else .ret ([],50)):=by
   refine ht_ (J:=λi s b=>(l.take i).all aR_=true/\s=((i:Int),aG_ (bC_ (l.take i)))/\b=(if(l.drop i).all aR_ then Out.fall (aG_ (bC_ l))else Out.ret ([],50))) l.length (cp_ (by omega)) (λs b hJ => ?_) (λi s b hi hJ => ?_) ⟨rfl,by rfl,by rfl⟩
   .obtain⟨_,rfl,rfl⟩:=hJ;unfold e3_;simp only[];rw[lt_f,List.take_length,List.drop_length];rfl
   .obtain⟨hall,rfl,rfl⟩:=hJ;rw[List.drop_eq_getElem_cons hi,List.all_cons];have hlen:=kv_ (l.take i) (λr hr=>List.all_eq_true.1 hall r hr);have hlen2:(l.take i).length<=64:=by rw[List.length_take];omega
    unfold e3_;simp only[];rw[lt_t hi,cond_true,bH_ hi];simp only[qBs];rw[valid_eq];simp only[qBs];cases hv:aR_ l[i]with
    | false=>exact .inl rfl
    | true =>
     simp only[Bool.not_true,cond_false,Bool.true_and];refine .inr ⟨_,?_,?_,rfl,trivial⟩
     .have e1:(bif decide ((i:Int)>0)then(room 1 (aG_ (bC_ (l.take i))) (aG_ [10])).bind λy=>some y else some (aG_ (bC_ (l.take i))))=some (aG_ (bC_ (l.take i)++(if 0<i then[10]else[]))):=by
       by_cases h0:0<i
       .rw[decide_eq_true (by omega),cond_true,if_pos h0,bS_ (by rw[c1_,c1_];simp only[qLc,List.length_nil];omega) (by rw[c1_,c1_];simp only[qLc,List.length_nil];omega),strI_app];rfl
       .rw[decide_eq_false (by omega),cond_false,if_neg h0,List.append_nil]
      rw[e1];simp only[qBs];rw[text_in hv (by rw[qLa];split<;>simp only[qLc,List.length_nil]<;>omega)];simp only[qBs];rw[am_ (by omega),List.append_assoc,←mC_ hi]
     .rw[hL_ hi,List.all_append,hall];simp[hv]
  rw[hL];simp only[qBs];cases l.all aR_ with
  | true =>
   simp only[if_true];rw[h4_]
  | false=>rfl
theorem refText_eq23 (l:List Xx):g2_ l=some (gl_ l):=by
 unfold g2_ gl_;by_cases h:64<l.length
 .rw[decide_eq_true (by omega),if_pos h];rfl
 .rw [decide_eq_false (by omega),if_neg h,cond_false]
  have hL:ah_ (e4_ l) BIG ([],0)=some (if l.all aR_ then .fall (bC_ l)else .ret ([],50)):=by
   refine ht_ (J:=λi s b=>(l.take i).all aR_=true/\s=(bC_ (l.take i),(i:Int))/\b=(if(l.drop i).all aR_ then Out.fall (bC_ l)else Out.ret ([],50))) l.length (cp_ (by omega)) (λs b hJ => ?_) (λi s b hi hJ => ?_) ⟨rfl,by rfl,by rfl⟩
   .obtain⟨_,rfl,rfl⟩:=hJ;unfold e4_;simp only[];rw[lt_f,List.take_length,List.drop_length];rfl
   .obtain⟨hall,rfl,rfl⟩:=hJ;rw[List.drop_eq_getElem_cons hi,List.all_cons];have hlen:=kv_ (l.take i) (λr hr=>List.all_eq_true.1 hall r hr);have hlen2:(l.take i).length<=64:=by rw[List.length_take];omega
    unfold e4_;simp only[];rw[lt_t hi,cond_true,bH_ hi];simp only[qBs];rw[refValid_eq];simp only[qBs];cases hv:aR_ l[i]with
    | false=>exact .inl rfl
    | true =>
     simp only[Bool.not_true,cond_false,Bool.true_and];refine .inr ⟨_,?_,?_,rfl,trivial⟩
     .have e1:(bif decide ((i:Int)>0)then(cat (bC_ (l.take i)) [10]).bind λy=>some y else some (bC_ (l.take i)))=some (bC_ (l.take i)++(if 0<i then[10]else[])):=by
       by_cases h0:0<i
       .rw[decide_eq_true (by omega),cond_true,if_pos h0,dJ_ (by simp only[qLc,List.length_nil];omega)];rfl
       .rw[decide_eq_false (by omega),cond_false,if_neg h0,List.append_nil]
      rw[e1];simp only[qBs];rw[refText_in hi hv (by rw[qLa];split<;>simp only[qLc,List.length_nil]<;>omega)];simp only[qBs];rw[am_ (by omega),List.append_assoc,←mC_ hi]
     .rw[hL_ hi,List.all_append,hall];simp[hv]
  rw[hL];cases l.all aR_<;>rfl
def bD_(cur:List Xj):Bool:=match cur.getLast? with|some p=>aY_ p.Xy|none=>false
def cl_(s:Str):Str×Str:=if s.contains 32 then(s.take (af_ [32] s),s.drop (af_ [32] s+1))else(s,[])
def br_(t:Str):Xj:=Xj.mk (cl_ t).1 (cl_ (cl_ t).2).1 (cl_ (cl_ t).2).2
theorem cut_eq{s:Str}(hs:s.length<=1000000000):strings_Cut s [32]=some ((cl_ s).1,(cl_ s).2,s.contains 32):=by
 unfold strings_Cut cU_ stringslite_Index cl_;simp only[qBs];rw[idxB_ge];cases hc:s.contains 32 with
 | false=>rfl
 | true =>
  obtain⟨k1,k2,k3,k4⟩:=ci_ hc;rw[k3,cond_true,cv_ (Int.le_refl 0) (by omega) (by omega)];simp only[qBs,Int.toNat_natCast,Int.toNat_zero,List.drop_zero];rw[bK_ (n:=((af_ [32] s:Nat):Int)+(([32]:Str).length:Int)) ⟨by simp only[qLc,List.length_nil];omega,by simp only[qLc,List.length_nil];omega⟩,cv_ (by simp only[qLc,List.length_nil];omega) (by simp only[qLc,List.length_nil];omega) (Int.le_refl _)];simp only[qBs,Int.toNat_natCast,List.take_length];have e1:(((af_ [32] s:Nat):Int)+(([32]:Str).length:Int)).toNat=af_ [32] s+1:=by simp only[qLc,List.length_nil];omega
  rw[e1];rfl
theorem cut_len(s:Str):(cl_ s).1.length<=s.length/\(cl_ s).2.length<=s.length:=by
 unfold cl_;split
 .exact⟨by rw[List.length_take];omega,by rw[List.length_drop];omega⟩
 .exact⟨Nat.le_refl _,Nat.zero_le _⟩
theorem patS_eq{t:Str}(ht:t.length<=1000000000):dY_ t=some (br_ t):=by
 have:=(cut_len t).2;unfold dY_ br_;rw[cut_eq ht];simp only[qBs];rw[cut_eq (by omega)];rfl
theorem split_L{t:Str}(ht:t.length<=1000000000):∀(k i f:Nat),t.length-i<=k->k<f->i<=t.length->ah_ (bR_ t) f (i:Int)=some ((i+af_ [32] (t.drop i):Nat):Int):=by
 intro k
 induction k with
 | zero =>
  intro i f hk hf hi;obtain⟨f,rfl⟩:∃g,f=g+1:=⟨f-1,by omega⟩;have:i=t.length:=by omega
  subst this;refine aw_ ?_;unfold bR_;rw[decide_eq_false (by omega),List.drop_length];rfl
 | succ k ih =>
  intro i f hk hf hi;obtain⟨f,rfl⟩:∃g,f=g+1:=⟨f-1,by omega⟩;rcases Nat.lt_or_ge i t.length with hlt|hge
  .have hb:((t[i].toNat:Int) != 32)=(t[i] != 32):=u8_ne _ 32;rw[List.drop_eq_getElem_cons hlt];unfold af_;rw[List.takeWhile_cons];by_cases h:t[i]=32
   .refine aw_ ?_;unfold bR_;rw[decide_eq_true (by omega),cond_true,dU_ hlt];simp only[qBs];rw[hb,h];rfl
   .have hc:([32]:Str).contains t[i]=false:=by simp[h]
    rw[hc];refine aW_ (s':=((i+1:Nat):Int)) ?_ ?_
    .unfold bR_;rw[decide_eq_true (by omega),cond_true,dU_ hlt];simp only[qBs];rw[hb,bne_iff_ne.2 h,cond_true,am_ (by omega)]
    .rw[ih (i+1) f (by omega) (by omega) (by omega)];unfold af_;simp only[Bool.not_false,if_true,qLc]
     congr 2
     omega
  .have:i=t.length:=by omega
   subst this;refine aw_ ?_;unfold bR_;rw[decide_eq_false (by omega),List.drop_length];rfl
theorem mD_{t:Str}(h:t.contains 32=false):af_ [32] t=t.length:=until_app0 λb hb=>by
 have:b≠32:=λe=>by
  subst e;rw[List.contains_iff_mem.2 hb]at h;cases h
 simp[this]
theorem d8_{o v:Str}:ar_ (Xj.mk o v [])=false:=by
 unfold ar_;simp
theorem refSplit_eq{t:Str}(ht:t.length<=1000000000):∃q,gi_ t=some q/\ar_ q=ar_ (br_ t)/\(ar_ (br_ t)=true->q=br_ t):=by
 have hL1:ah_ (iv_ t) BIG 0=some ((af_ [32] t:Nat):Int):=by
  have:=split_L ht t.length 0 BIG (by omega) (cp_ (by omega)) (Nat.zero_le _);rw[Nat.zero_add]at this;exact this
 have hu:=untilN_le [32] t;unfold gi_;rw[hL1];simp only[qBs];rw[am_ (by omega)];cases hc:t.contains 32 with
 | false =>
  have hn:=mD_ hc;have hL2:ah_ (bR_ t) BIG ((af_ [32] t+1:Nat):Int)=some ((af_ [32] t+1:Nat):Int):=by
   obtain⟨f,hf⟩:∃f,BIG=f+1:=⟨BIG-1,by unfold BIG;omega⟩;rw[hf];refine aw_ ?_;unfold bR_;rw[decide_eq_false (by omega)];rfl
  have e:br_ t=Xj.mk t [] []:=by
   have e1:cl_ t=(t,[]):=by unfold cl_;rw[hc];rfl
   unfold br_;rw[e1];rfl
  rw[hL2,e];simp only[qBs];rw[decide_eq_true (by omega)];refine⟨_,rfl,by rw[d8_,d8_],λh => ?_⟩;rw[d8_]at h;cases h
 | true =>
  obtain⟨k1,k2,k3,k4⟩:=ci_ hc;have hL2:=split_L ht t.length (af_ [32] t+1) BIG (by omega) (cp_ (by omega)) (by omega);have hu2:=untilN_le [32] (t.drop (af_ [32] t+1));rw[List.length_drop]at hu2;rw[hL2];simp only[qBs];have e1:cl_ t=(t.take (af_ [32] t),t.drop (af_ [32] t+1)):=by unfold cl_;rw[hc];rfl
  cases hc2:(t.drop (af_ [32] t+1)).contains 32 with
  | false =>
   have hn:=mD_ hc2;rw[List.length_drop]at hn;have e:br_ t=Xj.mk (t.take (af_ [32] t)) (t.drop (af_ [32] t+1)) []:=by
    have e2:cl_ (t.drop (af_ [32] t+1))=(t.drop (af_ [32] t+1),[]):=by unfold cl_;rw[hc2];rfl
    unfold br_;rw[e1];simp only[];rw[e2]
   rw[e,decide_eq_true (by omega)];refine⟨_,rfl,by rw[d8_,d8_],λh => ?_⟩;rw[d8_]at h;cases h
  | true =>
   obtain⟨j1,j2,j3,j4⟩:=ci_ hc2;rw[List.length_drop]at j4;have e:br_ t=Xj.mk (t.take (af_ [32] t)) ((t.drop (af_ [32] t+1)).take (af_ [32] (t.drop (af_ [32] t+1)))) ((t.drop (af_ [32] t+1)).drop (af_ [32] (t.drop (af_ [32] t+1))+1)):=by
    have e2:cl_ (t.drop (af_ [32] t+1))=((t.drop (af_ [32] t+1)).take (af_ [32] (t.drop (af_ [32] t+1))),(t.drop (af_ [32] t+1)).drop (af_ [32] (t.drop (af_ [32] t+1))+1)):=by unfold cl_;rw[hc2];rfl
    unfold br_;rw[e1];simp only[];rw[e2]
   rw[e,decide_eq_false (by omega),cond_false,cv_ (Int.le_refl 0) (by omega) (by omega)];simp only[qBs];rw[cv_ (by omega) (by omega) (by omega)];simp only[qBs];rw[am_ (by omega),cv_ (by omega) (by omega) (Int.le_refl _)];refine⟨_,rfl,?_⟩;have e3:Xj.mk ((t.take ((af_ [32] t:Nat):Int).toNat).drop (0:Int).toNat) ((t.take ((af_ [32] t+1+af_ [32] (t.drop (af_ [32] t+1)):Nat):Int).toNat).drop ((af_ [32] t+1:Nat):Int).toNat) ((t.take ((t.length:Nat):Int).toNat).drop ((af_ [32] t+1+af_ [32] (t.drop (af_ [32] t+1))+1:Nat):Int).toNat)=Xj.mk (t.take (af_ [32] t)) ((t.drop (af_ [32] t+1)).take (af_ [32] (t.drop (af_ [32] t+1)))) ((t.drop (af_ [32] t+1)).drop (af_ [32] (t.drop (af_ [32] t+1))+1)):=by
    simp only[Int.toNat_natCast,Int.toNat_zero,List.drop_zero,List.take_length];rw[List.drop_take,show af_ [32] t+1+af_ [32] (t.drop (af_ [32] t+1))-(af_ [32] t+1)=af_ [32] (t.drop (af_ [32] t+1))by omega,List.drop_drop,show af_ [32] t+1+(af_ [32] (t.drop (af_ [32] t+1))+1)=af_ [32] t+1+af_ [32] (t.drop (af_ [32] t+1))+1 by omega]
   exact⟨congrArg ar_ e3,λ_=>e3⟩
theorem js_{cur:List Xj}(h:cur.length<=1000000000):bU_ (Xx.mk cur)=some (bD_ cur):=by
 unfold bU_ bD_;simp only[];rcases Nat.eq_zero_or_pos cur.length with h0|h0
 .rw[List.length_eq_zero_iff.1 h0];rfl
 .rw[decide_eq_true (by omega),cond_true,bK_ ⟨by omega,by omega⟩,show(cur.length:Int)-1=((cur.length-1:Nat):Int)by omega,ff_,List.getLast?_eq_getElem?,List.getElem?_eq_getElem (by omega)];rfl
theorem gm_{cur:List Xj}(h:cur.length<=1000000000):eS_ cur=some (bD_ cur):=js_ h
inductive RS where
 | stop (i:Nat) (e:Int)
 | go (out:List Xx) (cur:List Xj)
def bs_(i:Nat)(t:Str)(out:List Xx)(cur:List Xj):RS:=if(t.take 1==[35])=true then .go out cur else if t=[]then(if cur=[]then .go out []else if bD_ cur=true then .go (out++[Xx.mk cur]) []else .stop (i+1) 50)else if cur=[]/\64<=out.length then .stop (i+1) 22 else if ar_ (br_ t)=false\/bD_ cur=true\/32<=cur.length then .stop (i+1) 50 else .go out (cur++[br_ t])
def aU_:List Str->Nat->List Xx->List Xj->List Xx×Int×Int
 | [],i,out,cur=>if cur=[]then(out,0,0)else if bD_ cur=true then(out++[Xx.mk cur],0,0)else([],((i+1:Nat):Int),50)
 | t::l,i,out,cur=>match bs_ i t out cur with
  | .stop j e=>([],(j:Int),e)
  | .go o c=>aU_ l (i+1) o c
def rsP(i:Nat):RS->Step (Int×(List Xx)×(List Xj)) (Out ((List Xx)×(List Xj)) ((List Xx)×Int×Int)) | .stop j e => .done (.ret ([],(j:Int),e)) | .go o c => .next (((i+1:Nat):Int),o,c)
theorem rules_step{ls:List Str}{i:Nat}{t:Str}{out:List Xx}{cur:List Xj}(hi:ls[i]? = some t)(hl:ls.length<=1000000000)(ht:t.length<=1000000000)(ho:out.length<=1000000000)(hc:cur.length<=1000000000):bp_ ls ((i:Int),out,cur)=some (rsP i (bs_ i t out cur)):=by
 have hlt:i<ls.length:=by
  rcases Nat.lt_or_ge i ls.length with h|h
  .exact h
  .rw[List.getElem?_eq_none h]at hi;cases hi
 unfold bp_ bs_;simp only[];rw[lt_t hlt,cond_true,ff_,hi];simp only[qBs];have hp:strings_HasPrefix t [35]=some (t.take 1==[35]):=by
  unfold strings_HasPrefix;rw[hasPre];rfl
 have hw:w64 ((i:Int)+1)=((i+1:Nat):Int):=am_ (by omega);rw[hp,hw];simp only[qBs];cases t.take 1==[35]with
 | true=>rfl
 | false =>
  simp only[cond_false,Bool.false_eq_true,if_false];by_cases h1:t=[]
  .subst h1;rw[if_pos rfl,show(([]:Str)==[])=true from rfl,cond_true];by_cases h2:cur=[]
   .subst h2;rfl
   .have h3:=List.length_pos_iff.2 h2;rw[if_neg h2,decide_eq_true (by omega),cond_true,js_ hc];simp only[qBs];cases bD_ cur with
    | false=>rfl
    | true =>
     simp only[Bool.not_true,cond_false,if_true];rw[bS_ (by simp only[qLc,List.length_nil];omega) (by simp only[qLc,List.length_nil];omega)];rfl
  .rw [if_neg h1,show(t==[])=false from by simpa using h1,cond_false];have e1:(((cur.length:Int)==0)&&(decide ((out.length:Int)>=64)))=decide (cur=[]/\64<=out.length):=by
    by_cases h2:cur=[]
    .subst h2;by_cases h3:64<=out.length
     .rw[decide_eq_true (by omega:(out.length:Int)>=64),decide_eq_true (⟨rfl,h3⟩:([]:List Xj)=[]/\64<=out.length)];rfl
     .rw[decide_eq_false (by omega:¬(out.length:Int)>=64),Bool.and_false,decide_eq_false (λe:([]:List Xj)=[]/\64<=out.length=>h3 e.2)]
    .have:=List.length_pos_iff.2 h2;rw[beq_eq_false_iff_ne.2 (by omega:(cur.length:Int)≠0),Bool.false_and,decide_eq_false (λe:cur=[]/\64<=out.length=>h2 e.1)]
   rw[e1];by_cases h4:cur=[]/\64<=out.length
   .rw[if_pos h4,decide_eq_true h4];rfl
   .rw[if_neg h4,decide_eq_false h4,cond_false,patS_eq ht];simp only[qBs];rw[sound_eq];simp only[qBs];rw[js_ hc];simp only[qBs];have e2:(bif !(ar_ (br_ t))then some true else some (bD_ cur))=some (!(ar_ (br_ t))||bD_ cur):=by cases ar_ (br_ t)<;>rfl
    rw[e2];simp only[qBs];have e3:((!(ar_ (br_ t))||bD_ cur)||decide ((cur.length:Int)>=32))=decide (ar_ (br_ t)=false\/bD_ cur=true\/32<=cur.length):=by
     by_cases h5:32<=cur.length
     .rw[decide_eq_true (by omega:(cur.length:Int)>=32),Bool.or_true,decide_eq_true (.inr (.inr h5):ar_ (br_ t)=false\/bD_ cur=true\/32<=cur.length)]
     .rw[decide_eq_false (by omega:¬(cur.length:Int)>=32)];cases ar_ (br_ t)<;>cases bD_ cur<;>simp[h5]
    rw[e3];by_cases h6:ar_ (br_ t)=false\/bD_ cur=true\/32<=cur.length
    .rw[if_pos h6,decide_eq_true h6];rfl
    .rw[if_neg h6,decide_eq_false h6,cond_false,bS_ (by simp only[qLc,List.length_nil];omega) (by simp only[qLc,List.length_nil];omega)];rfl
def rulesK (ls:List Str) (wo3:Out ((List Xx)×(List Xj)) ((List Xx)×Int×Int)):Option ((List Xx)×Int×Int):=match wo3 with
 | .ret r3=>some r3
 | .fall o3 =>
  Option.bind (
   (bif(decide ((o3.2.length:Int)>0))then
    (bU_ (Xx.mk o3.2)).bind λy20 =>
    (bif(!y20)then
     some (.ret (([],(w64 ((ls.length:Int)+1)),50)))
    else
     (room 24 o3.1 [(Xx.mk o3.2)]).bind λy21 =>
     some (.fall y21))
   else
    some (.fall o3.1))
   ) λ(wo4:Out (List Xx) ((List Xx)×Int×Int))=>match wo4 with
  | .ret r4=>some r4
  | .fall o4 =>
   some ((o4,0,0))
theorem rules_go{ls:List Str}(hls:ls.length<=100000000)(hlen:∀t∈ls,t.length<=1000000000):∀(l A:List Str) (out:List Xx) (cur:List Xj) (f:Nat),A++l=ls->l.length<f->out.length<=A.length->cur.length<=A.length ->
  (ah_ (bp_ ls) f ((A.length:Int),out,cur)).bind (rulesK ls)=some (aU_ l A.length out cur)
 | [],A,out,cur,f+1,hA,_,ho,hc=>by
  rw[List.append_nil]at hA;subst hA;have hd:bp_ A ((A.length:Int),out,cur)=some (.done (.fall (out,cur))):=by
   unfold bp_;simp only[];rw[lt_f];rfl
  rw[aw_ hd];unfold aU_ rulesK;simp only[qBs];by_cases h2:cur=[]
  .subst h2;rfl
  .have h3:=List.length_pos_iff.2 h2;rw[if_neg h2,decide_eq_true (by omega),cond_true,js_ (by omega)];simp only[qBs];cases bD_ cur with
   | false =>
    simp only[Bool.not_false,cond_true,qBs,Bool.false_eq_true,if_false];rw[am_ (by omega)]
   | true =>
    simp only[Bool.not_true,cond_false,if_true];rw[bS_ (by simp only[qLc,List.length_nil];omega) (by simp only[qLc,List.length_nil];omega)];rfl
 | t :: l,A,out,cur,f+1,hA,hf,ho,hc=>by
  have hi:ls[A.length]? = some t:=by rw[←hA];simp
  have hAl:A.length+(l.length+1)=ls.length:=by rw[←hA];simp
  have hst:=rules_step (out:=out) (cur:=cur) hi (by omega) (hlen t (by rw[←hA];simp)) (by omega) (by omega);simp only[qLc]at hf;unfold aU_;cases hr:bs_ A.length t out cur with
  | stop j e =>
   rw[hr]at hst;rw[aw_ hst];rfl
  | go o c =>
   rw[hr]at hst;have hoc:o.length<=A.length+1/\c.length<=A.length+1:=by
    unfold bs_ at hr;split at hr
    .injection hr with a b;subst a;subst b;omega
    .split at hr
     .split at hr
      .injection hr with a b;subst a;subst b;exact⟨by omega,Nat.zero_le _⟩
      .split at hr
       .injection hr with a b;subst a;subst b;exact⟨by rw[qLa];simp only[qLc,List.length_nil];omega,Nat.zero_le _⟩
       .cases hr
     .split at hr
      .cases hr
      .split at hr
       .cases hr
       .injection hr with a b;subst a;subst b;exact⟨by omega,by rw[qLa];simp only[qLc,List.length_nil];omega⟩
   have ih:=rules_go hls hlen l (A++[t]) o c f (by rw[←hA];simp) (by omega) (by rw[qLa];exact hoc.1) (by rw[qLa];exact hoc.2);rw[show(A++[t]).length=A.length+1 by simp]at ih;have hst:bp_ ls ((A.length:Int),out,cur)=some (.next (((A.length+1:Nat):Int),o,c)):=hst;rw[aW_ hst rfl];exact ih
theorem lq_{s:Str}(hs:s.length<=100000000):bz_ s=some (aU_ (bf_ s) 0 [] []):=by
 have h1:=g6_ _ s (Nat.le_refl _);have h2:=jp_ _ s (Nat.le_refl _);have e:bz_ s=(d7_ s).bind λy1=>(ah_ (bp_ y1) BIG (0,[],[])).bind (rulesK y1):=rfl
 rw[e,lines_eq (by omega)];exact rules_go (by omega) (λt ht=>by have:=(h2 t ht).1;omega) (bf_ s) [] [] [] BIG rfl (cp_ (by omega)) (Nat.le_refl _) (Nat.le_refl _)
def rsR(i:Nat)(ls:List Str):RS->Step (Int×(List Str)×(List Xx)×(List Xj)) (Out (List Xx) ((List Xx)×Int×Int)) | .stop j e => .done (.ret ([],(j:Int),e)) | .go o c => .next (((i+1:Nat):Int),ls,o,c)
theorem ol_{ls:List Str}{i:Nat}{t:Str}{out:List Xx}{cur:List Xj}(hi:ls[i]? = some t)(hl:ls.length<=1000000000)(ht:t.length<=1000000000)(ho:out.length<=1000000000)(hc:cur.length<=1000000000):aQ_ ((i:Int),ls,out,cur)=some (rsR i ls (bs_ i t out cur)):=by
 have hlt:i<ls.length:=by
  rcases Nat.lt_or_ge i ls.length with h|h
  .exact h
  .rw[List.getElem?_eq_none h]at hi;cases hi
 have hw:w64 ((i:Int)+1)=((i+1:Nat):Int):=am_ (by omega);unfold aQ_ bs_;simp only[];rw[decide_eq_true (by omega),cond_true,beq_eq_false_iff_ne.2 (by omega:(i:Int)≠(ls.length:Int)),cond_false,ff_,hi,hw];simp only[qBs];by_cases h1:t=[]
 .subst h1;rw[if_neg (show ¬((([]:Str).take 1==[35])=true)by decide),if_pos rfl,show(([]:Str)==[])=true from rfl,cond_true];by_cases h2:cur=[]
  .subst h2;rfl
  .have h3:=List.length_pos_iff.2 h2;rw[if_neg h2,decide_eq_true (by omega),cond_true,cond_true,gm_ hc];simp only[qBs];cases bD_ cur with
   | false=>rfl
   | true =>
    simp only[Bool.not_true,cond_false,if_true];rw[bS_ (by simp only[qLc,List.length_nil];omega) (by simp only[qLc,List.length_nil];omega)];rfl
 .rw [if_neg h1,show(t==[])=false from by simpa using h1,cond_false];obtain⟨b,u,rfl⟩:∃b u,t=b::u:=by
   cases t with
   | nil=>exact absurd rfl h1
   | cons b u=>exact⟨b,u,rfl⟩
  have hb:ay_ (b::u) 0=some (b.toNat:Int):=bi_ (i:=0) rfl;rw[hb];simp only[qBs];have k1:((b.toNat:Int)==35)=(b==35):=bw_ b 35;have k2:((b::u).take 1==[35])=(b==35):=by simp
  rw[k1,k2];cases b==35 with
  | true=>rfl
  | false =>
   simp only[cond_false,Bool.false_eq_true,if_false];have e1:(((cur.length:Int)==0)&&(decide ((out.length:Int)>=64)))=decide (cur=[]/\64<=out.length):=by
    by_cases h2:cur=[]
    .subst h2;by_cases h3:64<=out.length
     .rw[decide_eq_true (by omega:(out.length:Int)>=64),decide_eq_true (⟨rfl,h3⟩:([]:List Xj)=[]/\64<=out.length)];rfl
     .rw[decide_eq_false (by omega:¬(out.length:Int)>=64),Bool.and_false,decide_eq_false (λe:([]:List Xj)=[]/\64<=out.length=>h3 e.2)]
    .have:=List.length_pos_iff.2 h2;rw[beq_eq_false_iff_ne.2 (by omega:(cur.length:Int)≠0),Bool.false_and,decide_eq_false (λe:cur=[]/\64<=out.length=>h2 e.1)]
   rw[e1];by_cases h4:cur=[]/\64<=out.length
   .rw[if_pos h4,decide_eq_true h4];rfl
   .obtain⟨q,hq,hs1,hs2⟩:=refSplit_eq ht;rw[if_neg h4,decide_eq_false h4,cond_false,hq];simp only[qBs];rw[mB_,hs1];simp only[qBs];rw[gm_ hc];simp only[qBs];have e2:(bif !(ar_ (br_ (b::u)))then some true else some (bD_ cur))=some (!(ar_ (br_ (b::u)))||bD_ cur):=by cases ar_ (br_ (b::u))<;>rfl
    rw[e2];simp only[qBs];have e3:((!(ar_ (br_ (b::u)))||bD_ cur)||decide ((cur.length:Int)>=32))=decide (ar_ (br_ (b::u))=false\/bD_ cur=true\/32<=cur.length):=by
     by_cases h5:32<=cur.length
     .rw[decide_eq_true (by omega:(cur.length:Int)>=32),Bool.or_true,decide_eq_true (.inr (.inr h5):ar_ (br_ (b::u))=false\/bD_ cur=true\/32<=cur.length)]
     .rw[decide_eq_false (by omega:¬(cur.length:Int)>=32)];cases ar_ (br_ (b::u))<;>cases bD_ cur<;>simp[h5]
    rw[e3];by_cases h6:ar_ (br_ (b::u))=false\/bD_ cur=true\/32<=cur.length
    .rw[if_pos h6,decide_eq_true h6];rfl
    .have hsp:ar_ (br_ (b::u))=true:=by
      cases h:ar_ (br_ (b::u))with
      | true=>rfl
      | false=>exact absurd (.inl h) h6
     rw[if_neg h6,decide_eq_false h6,cond_false,hs2 hsp,bS_ (by simp only[qLc,List.length_nil];omega) (by simp only[qLc,List.length_nil];omega)];rfl
theorem step_lens{i:Nat}{t:Str}{out o:List Xx}{cur c:List Xj}{n:Nat}(hr:bs_ i t out cur = .go o c)(ho:out.length<=n)(hc:cur.length<=n):o.length<=n+1/\c.length<=n+1:=by
 unfold bs_ at hr;split at hr
 .injection hr with a b;subst a;subst b;omega
 .split at hr
  .split at hr
   .injection hr with a b;subst a;subst b;exact⟨by omega,Nat.zero_le _⟩
   .split at hr
    .injection hr with a b;subst a;subst b;exact⟨by rw[qLa];simp only[qLc,List.length_nil];omega,Nat.zero_le _⟩
    .cases hr
  .split at hr
   .cases hr
   .split at hr
    .cases hr
    .injection hr with a b;subst a;subst b;exact⟨by omega,by rw[qLa];simp only[qLc,List.length_nil];omega⟩
def rulesR(wo7:Out (List Xx) ((List Xx)×Int×Int)):Option ((List Xx)×Int×Int):=match wo7 with | .ret r7=>some r7 | .fall o7=>some ((o7,0,0))
theorem k0_{ls:List Str}(hls:ls.length<=100000000)(hlen:∀t∈ls,t.length<=1000000000):∀(l A:List Str) (out:List Xx) (cur:List Xj) (f:Nat),A++l=ls->l.length+1<f->out.length<=A.length->cur.length<=A.length ->
  (ah_ aQ_ f ((A.length:Int),ls,out,cur)).bind rulesR=some (aU_ l A.length out cur)
 | [],A,out,cur,f+2,hA,_,ho,hc=>by
  rw[List.append_nil]at hA;subst hA;have hw:w64 ((A.length:Int)+1)=((A.length+1:Nat):Int):=am_ (by omega);have hend:∀o:List Xx,aQ_ (((A.length+1:Nat):Int),A,o,[])=some (.done (.fall o)):=λo=>by
   unfold aQ_;simp only[];rw[decide_eq_false (by omega)];rfl
  unfold aU_;by_cases h2:cur=[]
  .subst h2;have hst:aQ_ ((A.length:Int),A,out,[])=some (.next (((A.length+1:Nat):Int),A,out,[])):=by
    unfold aQ_;simp only[];rw[decide_eq_true (by omega),cond_true,beq_self_eq_true,cond_true,hw];rfl
   rw[aW_ hst rfl,aw_ (hend out)];rfl
  .have h3:=List.length_pos_iff.2 h2;rw[if_neg h2];cases he:bD_ cur with
   | false =>
    have hst:aQ_ ((A.length:Int),A,out,cur)=some (.done (.ret ([],((A.length+1:Nat):Int),50))):=by
     unfold aQ_;simp only[];rw[decide_eq_true (by omega),cond_true,beq_self_eq_true,cond_true,hw,decide_eq_true (by omega),cond_true,gm_ (by omega),he];rfl
    rw[aw_ hst];rfl
   | true =>
    have hst:aQ_ ((A.length:Int),A,out,cur)=some (.next (((A.length+1:Nat):Int),A,out++[Xx.mk cur],[])):=by
     unfold aQ_;simp only[];rw[decide_eq_true (by omega),cond_true,beq_self_eq_true,cond_true,hw,decide_eq_true (by omega),cond_true,cond_true,gm_ (by omega),he];simp only[qBs,Bool.not_true,cond_false];rw[bS_ (by simp only[qLc,List.length_nil];omega) (by simp only[qLc,List.length_nil];omega)];rfl
    rw[aW_ hst rfl,aw_ (hend _)];rfl
 | t::l,A,out,cur,f+1,hA,hf,ho,hc=>by
  have hi:ls[A.length]? = some t:=by rw[←hA];simp
  have hAl:A.length+(l.length+1)=ls.length:=by rw[←hA];simp
  have hst:=ol_ (out:=out) (cur:=cur) hi (by omega) (hlen t (by rw[←hA];simp)) (by omega) (by omega);simp only[qLc]at hf;unfold aU_;cases hr:bs_ A.length t out cur with
  | stop j e =>
   rw[hr]at hst;rw[aw_ hst];rfl
  | go o c =>
   rw[hr]at hst;have hoc:=step_lens hr ho hc;have ih:=k0_ hls hlen l (A++[t]) o c f (by rw[←hA];simp) (by omega) (by rw[qLa];exact hoc.1) (by rw[qLa];exact hoc.2);rw[show(A++[t]).length=A.length+1 by simp]at ih;have hst:aQ_ ((A.length:Int),ls,out,cur)=some (.next (((A.length+1:Nat):Int),ls,o,c)):=hst;rw[aW_ hst rfl];exact ih
theorem refRules_eq{s:Str}(hs:s.length<=100000000):gj_ s=some (aU_ (bf_ s) 0 [] []):=by
 have h1:=g6_ _ s (Nat.le_refl _);have h2:=jp_ _ s (Nat.le_refl _);have e:gj_ s=(eR_ s).bind λy1=>(ah_ aQ_ BIG (0,y1,[],[])).bind rulesR:=rfl
 rw[e,refLines_eq (by omega)];exact k0_ (by omega) (λt ht=>by have:=(h2 t ht).1;omega) (bf_ s) [] [] [] BIG rfl (by unfold BIG;omega) (Nat.le_refl _) (Nat.le_refl _)
structure RulesL(l:List Xx):Prop where
 n:l.length<=9223372036854775807
 ls:∀r∈l,r.Xk.length<=9223372036854775807
theorem f7_{l:List Xx}(h:RulesL l):b2_ l l=some true:=by
 unfold b2_;rw[bne_self_eq_false,cond_false];have hL:ah_ (dk_ l l) BIG 0=some (.fall ()):=by
  refine hJ_ (T:=λi=>(i:Int)) l.length (cp_ h.n) (λi hi => ?_) ?_
  .unfold dk_;rw[lt_t hi,cond_true,bH_ hi];simp only[qBs];rw[bne_self_eq_false,cond_false];have hr:=h.ls _ (List.getElem_mem hi);have hin:ah_ (dj_ l (i:Int) l) BIG 0=some (.fall ()):=by
    refine hJ_ (T:=λi=>(i:Int)) (l[i]).Xk.length (cp_ hr) (λk hk => ?_) ?_
    .unfold dj_;rw[bH_ hi];simp only[qBs];rw[lt_t hk,cond_true,bH_ hk];simp only[qBs];rw[am_ (by omega)];rfl
    .unfold dj_;rw[bH_ hi];simp only[qBs];rw[lt_f];rfl
   rw[hin];simp only[qBs];rw[am_ (by have:=h.n;omega)]
  .unfold dk_;rw[lt_f];rfl
 rw[hL];rfl
def gFew(_:Nat)(p:Xj):Option Bool:=if(decide ((w64 ((p.Xy.length:Int)+(p.Xh.length:Int)))>100)||decide ((p.Xf.length:Int)>1100))=true then some false else none
theorem few_in{l:List Xx}(h:RulesL l){i:Nat}(hi:i<l.length){s:Int}:ah_ (fE_ l[i] l (s,(i:Int))) BIG 0=some (outO (dV_ gFew 0 (l[i]).Xk)):=by
 have hr:=h.ls _ (List.getElem_mem hi);refine gv_ (l[i]).Xk gFew (cp_ hr) (λk hk => ?_) ?_
 .unfold fE_ gFew;rw[lt_t hk,cond_true];simp only[];rw[bH_ hi];simp only[qBs];rw[bH_ hk];simp only[qBs];cases(decide ((w64 (((l[i]).Xk[k].Xy.length:Int)+((l[i]).Xk[k].Xh.length:Int)))>100)||decide (((l[i]).Xk[k].Xf.length:Int)>1100))with
  | true=>rfl
  | false =>
   simp only[cond_false,Bool.false_eq_true,if_false,stepO];rw[am_ (by omega)]
 .unfold fE_;rw[lt_f];rfl
theorem few_go{l:List Xx}(h:RulesL l):∀(k i:Nat) (s:Int) (f:Nat),l.length-i<=k->k<f->i<=l.length->∃o,ah_ (cX_ l) f (s,(i:Int))=some o:=by
 intro k
 induction k with
 | zero =>
  intro i s f hk hf hi;obtain⟨f,rfl⟩:∃g,f=g+1:=⟨f-1,by omega⟩;have:i=l.length:=by omega
  subst this;refine⟨.fall (),aw_ ?_⟩;unfold cX_;simp only[];rw[lt_f];rfl
 | succ k ih =>
  intro i s f hk hf hi;obtain⟨f,rfl⟩:∃g,f=g+1:=⟨f-1,by omega⟩;rcases Nat.lt_or_ge i l.length with hlt|hge
  .have hn:=h.n;have hst:∃o:Option Bool,cX_ l (s,(i:Int))=some (match o with
    | some b => .done (.ret b)
    | none => .next ((w64 (s+(minI ((l[i]).Xk.length:Int) 1000))),((i+1:Nat):Int))):=by
    unfold cX_;simp only[];rw[lt_t hlt,cond_true,bH_ hlt];simp only[qBs];cases decide (w64 (s+(minI ((l[i]).Xk.length:Int) 1000))>100)with
    | true=>exact⟨some false,rfl⟩
    | false =>
     simp only[cond_false];rw[few_in h hlt,am_ (by omega)];cases dV_ gFew 0 (l[i]).Xk with
     | none=>exact⟨none,rfl⟩
     | some b=>exact⟨some b,rfl⟩
   obtain⟨o,ho⟩:=hst;cases o with
   | some b=>exact⟨_,aw_ ho⟩
   | none =>
    obtain⟨o2,ho2⟩:=ih (i+1) (w64 (s+(minI ((l[i]).Xk.length:Int) 1000))) f (by omega) (by omega) (by omega);exact⟨o2,aW_ ho ho2⟩
  .have:i=l.length:=by omega
   subst this;refine⟨.fall (),aw_ ?_⟩;unfold cX_;simp only[];rw[lt_f];rfl
theorem few_eq{l:List Xx}(h:RulesL l):∃b,gt_ l=some b/\(b=true->l.length<=70):=by
 unfold gt_;by_cases h70:l.length<=70
 .obtain⟨o,ho⟩:=few_go h l.length 0 0 BIG (by omega) (cp_ h.n) (Nat.zero_le _);have ho:ah_ (cX_ l) BIG (0,0)=some o:=ho;rw[decide_eq_false (by omega),cond_false,ho];cases o with
  | ret b=>exact⟨b,rfl,λ_=>h70⟩
  | fall u=>exact⟨true,rfl,λ_=>h70⟩
 .rw[decide_eq_true (by omega),cond_true];exact⟨false,rfl,λe=>by cases e⟩
theorem k1_:∀(l:List Str) (i n:Nat) (out:List Xx) (cur:List Xj),out.length<=n->cur.length<=n->(∀r∈out,r.Xk.length<=n)->(aU_ l i out cur).1.length<=n+l.length+1/\∀r∈(aU_ l i out cur).1,r.Xk.length<=n+l.length
 | [],i,n,out,cur,ho,hc,hr=>by
  unfold aU_;split
  .exact⟨by simp only[List.length_nil];omega,hr⟩
  .split
   .refine⟨by simp only[qLa,qLc,List.length_nil];omega,λr h => ?_⟩;rcases List.mem_append.1 h with h|h
    .exact hr r h
    .rw[List.mem_singleton.1 h];exact hc
   .exact⟨Nat.zero_le _,λr h=>by cases h⟩
 | t :: l,i,n,out,cur,ho,hc,hr=>by
  unfold aU_;cases h:bs_ i t out cur with
  | stop j e=>exact⟨Nat.zero_le _,λr h=>by cases h⟩
  | go o c =>
   have h1:=step_lens h ho hc
   have hro:∀r∈o,r.Xk.length<=n+1:=by
    unfold bs_ at h;split at h
    .injection h with a b;subst a;exact λr h=>by have:=hr r h;omega
    .split at h
     .split at h
      .injection h with a b;subst a;exact λr h=>by have:=hr r h;omega
      .split at h
       .injection h with a b;subst a;intro r h;rcases List.mem_append.1 h with h|h
        .have:=hr r h;omega
        .rw[List.mem_singleton.1 h];show cur.length<=_;omega
       .cases h
     .split at h
      .cases h
      .split at h
       .cases h
       .injection h with a b;subst a;exact λr h=>by have:=hr r h;omega
   have:=k1_ l (i+1) (n+1) o c h1.1 h1.2 hro;simp only[qLc];exact⟨by have:=this.1;omega,λr h=>by have:=this.2 r h;omega⟩
theorem kx_{s:Str}(hs:s.length<=100000000):RulesL (aU_ (bf_ s) 0 [] []).1:=by
 have h1:=g6_ _ s (Nat.le_refl _);have h2:=k1_ (bf_ s) 0 0 [] [] (Nat.le_refl _) (Nat.le_refl _) (λr h=>by cases h);exact⟨by omega,λr h=>by have:=h2.2 r h;omega⟩
theorem rules_true{s:Str}{l:List Xx}(ha:bJ_=some true)(h:RulesL l):cY_ s l=some true:=by
 unfold cY_;by_cases hs:s.length<=5000
 .obtain⟨b,hb,_⟩:=few_eq h;rw[decide_eq_false (by omega),cond_false,hb];simp only[qBs];cases b with
  | false =>
   rw[Bool.not_false,cond_true,ha];rfl
  | true =>
   rw[Bool.not_true,cond_false,lq_ (by omega),refRules_eq (by omega),kw_,refText_eq23];simp only[qBs];rw[f7_ (kx_ (by omega))];simp only[qBs,beq_self_eq_true,Bool.and_self,cond_true];rw[ha];rfl
 .rw[decide_eq_true (by omega),cond_true];simp only[qBs,cond_true];rw[ha];rfl
def dm_(p:Xj):Str:=p.Xy++32::(p.Xh++32::p.Xf)
theorem lineS_T(p:Xj)(t:Str):ck_ p++t=dm_ p++10::t:=by
 unfold ck_ dm_;simp
theorem no32{s:Str}(h:∀b∈s,97<=b.toNat):∀b∈s,([32]:Str).contains b=false:=by
 intro b hb;have:=h b hb;have:b≠32:=λe=>by subst e;revert this;decide
 simp[this]
theorem no10{s:Str}(h:∀b∈s,97<=b.toNat):s.contains 10=false:=no_ten λb hb e=>by
 have:=h b hb;subst e
 revert this
 decide
theorem lineT_ten{p:Xj}(h:ar_ p=true):(dm_ p).contains 10=false:=by
 obtain⟨_,_,_,_,h5,_,_,h8,h9⟩:=eF_ h;have k1:=no10 h8;have k2:=no10 h9;cases hc:(dm_ p).contains 10 with
 | false=>rfl
 | true =>
  rw[List.contains_iff_mem]at hc;unfold dm_ at hc;simp only[List.mem_append,List.mem_cons]at hc;rcases hc with hc|hc|hc|hc|hc
  .rw[List.contains_iff_mem.2 hc]at k1;cases k1
  .exact absurd hc (by decide)
  .rw[List.contains_iff_mem.2 hc]at k2;cases k2
  .exact absurd hc (by decide)
  .rw[List.contains_iff_mem.2 hc]at h5;cases h5
theorem cut32_app{a t:Str}(h:∀b∈a,97<=b.toNat):cl_ (a++32::t)=(a,t):=by
 have hc:(a++32::t).contains 32=true:=by rw[List.contains_iff_mem];simp
 have hu:af_ [32] (a++32::t)=a.length:=until_app (no32 h) (by decide);unfold cl_;rw[if_pos hc,hu];simp
theorem patS_line{p:Xj}(h:ar_ p=true):br_ (dm_ p)=p:=by
 obtain⟨_,_,_,_,h5,_,_,h8,h9⟩:=eF_ h;unfold br_ dm_;rw[cut32_app h8];simp only[];rw[cut32_app h9]
def hu_:List Xx->List Str | []=>[] | [r]=>r.Xk.map dm_|r::q::l=>r.Xk.map dm_++[]::hu_ (q::l)
theorem jt_:∀(l:List Xj) (t:Str),(∀p∈l,ar_ p=true)->bf_ (l.flatMap ck_++t)=l.map dm_++bf_ t
 | [],t,_=>rfl
 | p::l,t,h=>by
  rw[List.flatMap_cons,List.append_assoc,lineS_T,mz_ (lineT_ten (h p List.mem_cons_self)),jt_ l t λq hq=>h q (List.mem_cons_of_mem _ hq)];rfl
theorem mE_:∀(l:List Xx),(∀r∈l,aR_ r=true)->bf_ (bC_ l)=hu_ l
 | [],_=>rfl
 | [r],h=>by
  have:=jt_ r.Xk [] (eU_ (h r List.mem_cons_self));rw[List.append_nil,linesS_nil,List.append_nil]at this;exact this
 | r::q::l,h=>by
  have e:bC_ (r::q::l)=r.Xk.flatMap ck_++10::bC_ (q::l):=by
   unfold bC_ gk_;simp[g4_]
  have e2:bf_ (10::bC_ (q::l))=[]::bf_ (bC_ (q::l)):=mz_ (x:=[]) rfl;rw[e,jt_ r.Xk _ (eU_ (h r List.mem_cons_self)),e2,mE_ (q::l) λx hx=>h x (List.mem_cons_of_mem _ hx)];rfl
theorem lineT_first{p:Xj}(h:ar_ p=true):dm_ p≠[]/\((dm_ p).take 1==[35])=false:=by
 obtain⟨_,_,_,_,_,h6,_,h8,_⟩:=eF_ h;unfold dm_;cases ho:p.Xy with
 | nil=>exact absurd ho h6
 | cons b o =>
  rw[ho]at h8;have:=h8 b List.mem_cons_self;have hb:b≠35:=λe=>by subst e;revert this;decide
  refine⟨by simp,?_⟩;simp[hb]
theorem ju_(cur:List Xj):bD_ cur=true↔∃p,cur[cur.length-1]? = some p/\aY_ p.Xy=true:=by
 unfold bD_;rw[List.getLast?_eq_getElem?];cases cur[cur.length-1]? with
 | none=>simp
 | some p=>simp
theorem h9_{r:Xx}(hr:aR_ r=true){rest:List Str}{out:List Xx}(ho:out.length<64):∀(B A:List Xj) (i:Nat),A++B=r.Xk->aU_ (B.map dm_++rest) i out A=aU_ rest (i+B.length) out r.Xk
 | [],A,i,h=>by
  rw[List.append_nil]at h;subst h;rfl
 | p :: B,A,i,h=>by
  have hv:=(eu_ r).1 hr;have hn:A.length+(B.length+1)=r.Xk.length:=by rw[←h];simp
  have hp:r.Xk[A.length]? = some p:=by rw[←h];simp
  have hs:=(hv.2.2 _ _ hp).1;have hl:=lineT_first hs;have hend:bD_ A=false:=by
   cases he:bD_ A with
   | false=>rfl
   | true =>
    obtain⟨q,hq,hpl⟩:=(ju_ A).1 he;have hlt:A.length-1<A.length:=by
     rcases Nat.lt_or_ge (A.length-1) A.length with h|h
     .exact h
     .rw[List.getElem?_eq_none h]at hq;cases hq
    have hq2:r.Xk[A.length-1]? = some q:=by rw[←h,List.getElem?_append_left hlt];exact hq
    have:=(hv.2.2 _ _ hq2).2;rw[hpl]at this;have:=of_decide_eq_true this.symm;omega
  have hst:bs_ i (dm_ p) out A = .go out (A++[p]):=by
   unfold bs_;rw[hl.2,if_neg (by decide),if_neg hl.1,if_neg (λe=>by omega),patS_line hs,if_neg]
   rintro(h1|h1|h1)
   .rw[hs]at h1;cases h1
   .rw[hend]at h1;cases h1
   .omega
  have ih:=h9_ hr (rest:=rest) ho B (A++[p]) (i+1) (by rw[←h];simp);rw[List.map_cons,List.cons_append]
  conv=>lhs;unfold aU_
  rw[hst];simp only[];rw[ih,qLc,show i+1+B.length=i+(B.length+1)by omega]
theorem valid_end{r:Xx}(hr:aR_ r=true):r.Xk≠[]/\bD_ r.Xk=true:=by
 obtain⟨h1,h2,h3⟩:=(eu_ r).1 hr;refine⟨λe=>by rw[e]at h1;simp at h1,?_⟩;rw[ju_];have hlt:r.Xk.length-1<r.Xk.length:=by omega
 refine⟨_,List.getElem?_eq_getElem hlt,?_⟩;rw[(h3 _ _ (List.getElem?_eq_getElem hlt)).2];exact decide_eq_true (by omega)
theorem rules_all:∀(l:List Xx) (i:Nat) (out:List Xx),(∀r∈l,aR_ r=true)->out.length+l.length<=64->aU_ (hu_ l) i out []=(out++l,0,0)
 | [],i,out,_,_=>by
  show((out,0,0):List Xx×Int×Int)=_;rw[List.append_nil]
 | [r],i,out,h,hl=>by
  have hr:=h r List.mem_cons_self;obtain⟨h1,h2⟩:=valid_end hr;simp only[qLc,List.length_nil]at hl;have:=h9_ hr (rest:=[]) (out:=out) (by omega) r.Xk [] i rfl;rw[List.append_nil]at this;show aU_ (r.Xk.map dm_) i out []=_;rw[this];unfold aU_;rw[if_neg h1,if_pos h2]
 | r::q::l,i,out,h,hl=>by
  have hr:=h r List.mem_cons_self;obtain⟨h1,h2⟩:=valid_end hr;simp only[qLc]at hl;have:=h9_ hr (rest:=[]::hu_ (q::l)) (out:=out) (by omega) r.Xk [] i rfl;show aU_ (r.Xk.map dm_++[]::hu_ (q::l)) i out []=_;rw[this]
  conv=>lhs;unfold aU_
  have hst:∀k,bs_ k [] out r.Xk = .go (out++[r]) []:=λk=>by
   unfold bs_;rw[if_neg (by decide),if_pos rfl,if_neg h1,if_pos h2]
  rw[hst];simp only[];rw[rules_all (q::l) _ (out++[r]) (λx hx=>h x (List.mem_cons_of_mem _ hx)) (by simp only[qLa,qLc,List.length_nil];omega),List.append_assoc];rfl
structure CurOK(cur:List Xj)(out:List Xx):Prop where
 n:cur.length<=32
 o:cur≠[]->out.length<64
 s:∀i p,cur[i]? = some p->ar_ p=true/\(aY_ p.Xy=true->i+1=cur.length)
theorem ky_(out:List Xx):CurOK [] out:=⟨Nat.zero_le _,λh=>absurd rfl h,λi p h=>by cases h⟩
theorem k2_{cur:List Xj}{out:List Xx}(h:CurOK cur out)(hne:cur≠[])(he:bD_ cur=true):aR_ (Xx.mk cur)=true:=by
 have h0:=List.length_pos_iff.2 hne;refine(eu_ _).2 ⟨h0,h.n,λi p hp=>⟨(h.s i p hp).1,?_⟩⟩;have hp:cur[i]? = some p:=hp;show aY_ p.Xy=decide (i+1=cur.length);by_cases hi:i+1=cur.length
 .obtain⟨q,hq,hpl⟩:=(ju_ cur).1 he;rw[show cur.length-1=i by omega,hp]at hq;rw[decide_eq_true hi,qSj hq];exact hpl
 .rw[decide_eq_false hi];cases hpl:aY_ p.Xy with
  | false=>rfl
  | true=>exact absurd ((h.s i p hp).2 hpl) hi
theorem gx_:∀(l:List Str) (i:Nat) (out:List Xx) (cur:List Xj),(∀r∈out,aR_ r=true)->out.length<=64->CurOK cur out->(aU_ l i out cur).2.2=0->(∀r∈(aU_ l i out cur).1,aR_ r=true)/\(aU_ l i out cur).1.length<=64
 | [],i,out,cur,hv,ho,hc,h=>by
  unfold aU_ at h ⊢;by_cases h1:cur=[]
  .rw[if_pos h1];exact⟨hv,ho⟩
  .rw[if_neg h1]at h ⊢;by_cases h2:bD_ cur=true
   .rw[if_pos h2];have:=hc.o h1;refine⟨λr hr => ?_,by simp only[qLa,qLc,List.length_nil];omega⟩;rcases List.mem_append.1 hr with hr|hr
    .exact hv r hr
    .rw[List.mem_singleton.1 hr];exact k2_ hc h1 h2
   .rw[if_neg h2]at h;cases h
 | t :: l,i,out,cur,hv,ho,hc,h=>by
  unfold aU_ at h ⊢;unfold bs_ at h ⊢;by_cases h1:(t.take 1==[35])=true
  .rw[if_pos h1]at h ⊢;exact gx_ l (i+1) out cur hv ho hc h
  .rw [if_neg h1]at h ⊢;by_cases h2:t=[]
   .rw[if_pos h2]at h ⊢;by_cases h3:cur=[]
    .rw[if_pos h3]at h ⊢;exact gx_ l (i+1) out [] hv ho (ky_ out) h
    .rw[if_neg h3]at h ⊢;by_cases h4:bD_ cur=true
     .rw[if_pos h4]at h ⊢;have:=hc.o h3;refine gx_ l (i+1) (out++[Xx.mk cur]) [] (λr hr => ?_) (by simp only[qLa,qLc,List.length_nil];omega) (ky_ _) h;rcases List.mem_append.1 hr with hr|hr
      .exact hv r hr
      .rw[List.mem_singleton.1 hr];exact k2_ hc h3 h4
     .rw[if_neg h4]at h;exact absurd h (show ¬((50:Int)=0)by decide)
   .rw [if_neg h2]at h ⊢;by_cases h3:cur=[]/\64<=out.length
    .rw[if_pos h3]at h;exact absurd h (show ¬((22:Int)=0)by decide)
    .rw [if_neg h3]at h ⊢;by_cases h4:ar_ (br_ t)=false\/bD_ cur=true\/32<=cur.length
     .rw[if_pos h4]at h;exact absurd h (show ¬((50:Int)=0)by decide)
     .rw [if_neg h4]at h ⊢;have hs:ar_ (br_ t)=true:=by
       cases hx:ar_ (br_ t)with
       | true=>rfl
       | false=>exact absurd (.inl hx) h4
      have hl:cur.length<32:=by
       rcases Nat.lt_or_ge cur.length 32 with hx|hx
       .exact hx
       .exact absurd (.inr (.inr hx)) h4
      refine gx_ l (i+1) out (cur++[br_ t]) hv ho ⟨by simp only[qLa,qLc,List.length_nil];omega,λ_ => ?_,λk p hk => ?_⟩ h
      .by_cases hx:cur=[]
       .rcases Nat.lt_or_ge out.length 64 with hy|hy
        .exact hy
        .exact absurd ⟨hx,hy⟩ h3
       .exact hc.o hx
      .rcases Nat.lt_or_ge k cur.length with hk2|hk2
       .rw[List.getElem?_append_left hk2]at hk;refine⟨(hc.s k p hk).1,λhpl => ?_⟩;have:=(hc.s k p hk).2 hpl;have he:bD_ cur=true:=(ju_ cur).2 ⟨p,by rw[show cur.length-1=k by omega];exact hk,hpl⟩;exact absurd (.inr (.inl he)) h4
       .rw[List.getElem?_append_right hk2]at hk;have hk0:k-cur.length=0:=by
         rcases Nat.eq_zero_or_pos (k-cur.length)with hz|hz
         .exact hz
         .rw[List.getElem?_eq_none (by simp only[qLc,List.length_nil];omega)]at hk;cases hk
        rw[hk0]at hk;obtain rfl:=qSj hk;exact⟨hs,λ_=>by simp only[qLa,qLc,List.length_nil];omega⟩
theorem mF_:∀(l:List Str) (i:Nat) (out:List Xx) (cur:List Xj),(aU_ l i out cur).2.2≠0->(aU_ l i out cur).1=[]
 | [],i,out,cur,h=>by
  unfold aU_ at h ⊢;split
  .rename_i h1;rw[if_pos h1]at h;exact absurd rfl h
  .rename_i h1;rw[if_neg h1]at h;split
   .rename_i h2;rw[if_pos h2]at h;exact absurd rfl h
   .rfl
 | t::l,i,out,cur,h=>by
  unfold aU_ at h ⊢;cases hr:bs_ i t out cur with
  | stop j e=>rfl
  | go o c =>
   rw[hr]at h;exact mF_ l (i+1) o c h
theorem mG_{l:List Xx}(hl:l.length<=64)(hv:∀r∈l,aR_ r=true):bz_ (bC_ l)=some (l,0,0):=by
 have:=kv_ l hv;rw[lq_ (by omega),mE_ l hv,rules_all l 0 [] hv (by simp only[List.length_nil];omega)];rfl
theorem textV_ok{l:List Xx}(h:(gl_ l).2=0):l.length<=64/\(∀r∈l,aR_ r=true)/\(gl_ l).1=bC_ l:=by
 unfold gl_ at h ⊢;by_cases h1:64<l.length
 .rw[if_pos h1]at h;exact absurd h (by decide)
 .rw[if_neg h1]at h ⊢;cases h2:l.all aR_ with
  | false=>rw[h2]at h;exact absurd h (show ¬((50:Int)=0)by decide)
  | true=>exact⟨by omega,λr hr=>List.all_eq_true.1 h2 r hr,rfl⟩
theorem textV_of{l:List Xx}(hl:l.length<=64)(hv:∀r∈l,aR_ r=true):gl_ l=(bC_ l,0):=by
 unfold gl_;rw[if_neg (by omega),if_pos (List.all_eq_true.2 hv)]
theorem again_true{s:Str}{l:List Xx}(ha:bJ_=some true)(h:RulesL l):cZ_ s l=some true:=by
 unfold cZ_;by_cases hs:s.length<=5000
 .obtain⟨b,hb,_⟩:=few_eq h;rw[decide_eq_false (by omega),cond_false,hb];simp only[qBs];cases b with
  | false =>
   rw[Bool.not_false,cond_true,ha];rfl
  | true =>
   have hA:(Option.bind (di_ l) λy4=>(bif y4.2==0 then
    (bz_ y4.1).bind λy5 =>
    Option.bind (bif((y5.2.2 != 0)||(y5.2.1 != 0))then some true else 
     (b2_ y5.1 l).bind λy6 =>
     some (!y6)
     ) λ(y7:Bool) =>
    (bif y7 then
     some (Out.ret (false))
    else
     some (Out.fall ()))
   else
    some (Out.fall ())))=some (Out.fall ():Out Unit Bool):=by
    rw[kw_];simp only[qBs];by_cases h0:(gl_ l).2=0
    .obtain⟨k1,k2,k3⟩:=textV_ok h0;rw[h0,beq_self_eq_true,cond_true,k3,mG_ k1 k2];simp only[qBs];rw[f7_ h];rfl
    .rw[beq_eq_false_iff_ne.2 h0,cond_false]
   rw[Bool.not_true,cond_false];refine cu_ hA ?_;simp only[];rw[lq_ (by omega)];simp only[qBs];by_cases h0:(aU_ (bf_ s) 0 [] []).2.2=0
   .obtain⟨k1,k2⟩:=gx_ (bf_ s) 0 [] [] (λr h=>by cases h) (Nat.zero_le _) (ky_ _) h0;rw[h0,bne_self_eq_false,cond_false,kw_,textV_of k2 k1];simp only[qBs];rw[mG_ k2 k1];simp only[qBs,beq_self_eq_true,Bool.and_self,cond_true];rw[f7_ (kx_ (by omega))];simp only[qBs,cond_true];rw[ha];rfl
   .rw[bne_iff_ne.2 h0,cond_true,mF_ _ _ _ _ h0,ha];rfl
 .rw[decide_eq_true (by omega),cond_true];simp only[qBs,cond_true];rw[ha];rfl
noncomputable section
instance dq0:DecidableEq (List Int×List regex_thread):=instDecidableEqProd
instance dq1:DecidableEq (Int×List Int×List regex_thread):=instDecidableEqProd
instance dq2:DecidableEq (Str×Int×List Int×List regex_thread):=instDecidableEqProd
instance dq3:DecidableEq (Int×Str×Int×List Int×List regex_thread):=instDecidableEqProd
instance dq4:DecidableEq (List Xz×Int×Str×Int×List Int×List regex_thread):=instDecidableEqProd
instance dq5:DecidableEq (Int×List Xz×Int×Str×Int×List Int×List regex_thread):=instDecidableEqProd
instance dq6:DecidableEq (List Int×Int×List Xz×Int×Str×Int×List Int×List regex_thread):=instDecidableEqProd
def nilBC{α R:Type}[DecidableEq R](xs:List α)(k:Bool->Option R):Option R:=match xs with | []=>bothC (k true) (k false)|_::_=>k false
theorem e_nilB{α R:Type}[DecidableEq R] : @nilB α R=nilBC:=by
 funext xs k
 cases xs with
 | nil=>show both _ _=bothC _ _;rw[e_both]
 | cons x l=>rfl
def e5_ (x0:Xj):Option Bool :=
 Option.bind (
  (bothC (
   (bothC (
    (bV_ x0.Xy).bind λy7 =>
    (au_ y7 x0.Xh).bind λy8 =>
    (bif(!y8)then
     some true
    else
     (bif(x0.Xf==[])then
      some true
     else
      (bif(decide ((x0.Xf.length:Int)>1024))then
       some true
      else
       (strings_Contains x0.Xf [10]).bind λy9 =>
       some y9)))) (
    (bV_ x0.Xy).bind λy4 =>
    (au_ y4 x0.Xh).bind λy5 =>
    (bif(!y5)then
     some true
    else
     (bif(x0.Xf==[])then
      some true
     else
      (bif(decide ((x0.Xf.length:Int)>1024))then
       some true
      else
       (strings_Contains x0.Xf [10]).bind λy6 =>
       some y6)))))) (
   (bV_ x0.Xy).bind λy1 =>
   (au_ y1 x0.Xh).bind λy2 =>
   (bif(!y2)then
    some true
   else
    (bif(x0.Xf==[])then
     some true
    else
     (bif(decide ((x0.Xf.length:Int)>1024))then
      some true
     else
      (strings_Contains x0.Xf [10]).bind λy3 =>
      some y3)))))
  ) λ(o1:Bool) =>
 (bif o1 then
  some (false)
 else
  (bif(!(x0.Xh==[109,97,116,99,104,101,115]))then
   some (true)
  else
   (aC_ x0.Xf).bind λy10 =>
   some ((y10.2.2==0))))
theorem jz_:dv_=e5_:=by
 funext x0
 simp only[dv_,e5_,e_both]<;>rfl
def fg_ (y1:(List Str)) (s2:Int×(List Xx)×(List Xj)):Option (Step (Int×(List Xx)×(List Xj)) (Out ((List Xx)×(List Xj)) ((List Xx)×Int×Int))) :=
 (bif (decide (s2.1<(y1.length:Int)))then
  Option.bind (
   (aj_ y1 s2.1).bind λy11 =>
   (strings_HasPrefix y11 [35]).bind λy12 =>
   (bif y12 then
    some (.fall (s2.2.1,s2.2.2))
   else
    (bif(y11==[])then
     (bif(decide ((s2.2.2.length:Int)>0))then
      (bU_ (Xx.mk s2.2.2)).bind λy13 =>
      (bif(!y13)then
       some (.ret (([],(w64 (s2.1+1)),50)))
      else
       (room 24 s2.2.1 [(Xx.mk s2.2.2)]).bind λy14 =>
       some (.fall (y14,[])))
     else
      some (.fall (s2.2.1,s2.2.2)))
    else
     (bif(((s2.2.2.length:Int)==0)&&(decide ((s2.2.1.length:Int)>=64)))then
      some (.ret (([],(w64 (s2.1+1)),22)))
     else
      (dY_ y11).bind λy15 =>
      (e5_ y15).bind λy16 =>
      Option.bind (bif(!y16)then some true else 
       (bU_ (Xx.mk s2.2.2)).bind λy17 =>
       some y17
       ) λ(y18:Bool) =>
      (bif(y18||(decide ((s2.2.2.length:Int)>=32)))then
       some (.ret (([],(w64 (s2.1+1)),50)))
      else
       (room 48 s2.2.2 [y15]).bind λy19 =>
       some (.fall (s2.2.1,y19))))))
   ) λ(wo2:Out ((List Xx)×(List Xj)) ((List Xx)×Int×Int))=>match wo2 with
  | .ret r2=>some (.done (.ret r2))
  | .fall o2 =>
   some (.next ((w64 (s2.1+1)),o2.1,o2.2))
 else
  some (.done (.fall (s2.2.1,s2.2.2))))
theorem lr_:bp_=fg_:=by
 funext y1 s2
 simp only[bp_,fg_,jz_]<;>rfl
def gG_ (x0:Str):Option ((List Xx)×Int×Int) :=
 (d7_ x0).bind λy1 =>
 Option.bind (ah_ (fg_ y1) BIG (0,[],[])) λ(wo3:Out ((List Xx)×(List Xj)) ((List Xx)×Int×Int))=>match wo3 with
 | .ret r3=>some r3
 | .fall o3 =>
  Option.bind (
   (bif(decide ((o3.2.length:Int)>0))then
    (bU_ (Xx.mk o3.2)).bind λy20 =>
    (bif(!y20)then
     some (.ret (([],(w64 ((y1.length:Int)+1)),50)))
    else
     (room 24 o3.1 [(Xx.mk o3.2)]).bind λy21 =>
     some (.fall y21))
   else
    some (.fall o3.1))
   ) λ(wo4:Out (List Xx) ((List Xx)×Int×Int))=>match wo4 with
  | .ret r4=>some r4
  | .fall o4 =>
   some ((o4,0,0))
theorem om_:bz_=gG_:=by
 funext x0
 simp only[bz_,gG_,lr_]<;>rfl
def fh_(x0:Xx)(s2:Int):Option (Step Int (Out Unit Bool)) :=
 (bif(decide (s2<(x0.Xk.length:Int)))then
  (aj_ x0.Xk s2).bind λy3 =>
  (e5_ y3).bind λy4 =>
  (bif((!y4)||(!((y3.Xy==[112,108,117,109,98])==(s2==(w64 ((x0.Xk.length:Int)-1))))))then
   some (.done (.ret (false)))
  else
   some (.next (w64 (s2+1))))
 else
  some (.done (.fall ())))
theorem ls_:dF_=fh_:=by
 funext x0 s2
 simp only[dF_,fh_,jz_]<;>rfl
def gH_(x0:Xx):Option Bool :=
 (bif((decide ((x0.Xk.length:Int)<1))||(decide ((x0.Xk.length:Int)>32)))then
  some (false)
 else
  (ah_ (fh_ x0) BIG 0).bind λwo1=>match wo1 with
  | .ret r1=>some r1
  | .fall _ =>
   some (true))
theorem on_:dw_=gH_:=by
 funext x0
 simp only[dw_,gH_,ls_]<;>rfl
def f8_ (x3:Bool) (x1:Str) (x0:Xp) (s6:(List Int)×Int×(List Xz)×Int×Str×Int×(List Int)×(List regex_thread)):Option (Step ((List Int)×Int×(List Xz)×Int×Str×Int×(List Int)×(List regex_thread)) (Out Unit ((List Int)×Int))) :=
 Option.bind (
  (ah_ (kh_ s6) BIG (0,s6.2.2.2.2.2.2.2)).bind λwo6=>match wo6 with
  | .ret r2 =>
   (nilBC r2.1 λ(n2:Bool) =>
   (bif((!n2)&&((!x3)||(s6.2.2.2.2.2.1==(x1.length:Int))))then
    some (r2.1,s6.2.2.2.2.2.1,s6.2.2.1,s6.2.2.2.1,s6.2.2.2.2.1,s6.2.2.2.2.2.1,s6.2.2.2.2.2.2.1,r2.2)
   else
    some (s6.1,s6.2.1,s6.2.2.1,s6.2.2.2.1,s6.2.2.2.2.1,s6.2.2.2.2.2.1,s6.2.2.2.2.2.2.1,r2.2)))
  | .fall o6 =>
   (bif(false&&((!x3)||(s6.2.2.2.2.2.1==(x1.length:Int))))then
    some ([],s6.2.2.2.2.2.1,s6.2.2.1,s6.2.2.2.1,s6.2.2.2.2.1,s6.2.2.2.2.2.1,s6.2.2.2.2.2.2.1,o6)
   else
    some (s6.1,s6.2.1,s6.2.2.1,s6.2.2.2.1,s6.2.2.2.2.1,s6.2.2.2.2.2.1,s6.2.2.2.2.2.2.1,o6))
  ) λ(o7:(List Int)×Int×(List Xz)×Int×Str×Int×(List Int)×(List regex_thread)) =>
 (bif((decide (o7.2.2.2.2.2.1>=(x1.length:Int)))||((o7.2.2.2.2.2.2.2.length:Int)==0))then
  some (.done (.ret ((o7.1,o7.2.1))))
 else
  (ay_ x1 o7.2.2.2.2.2.1).bind λy22 =>
  (dN_ 8 (0:Int) (o7.2.2.1.length:Int)).bind λy23 =>
  Option.bind (ah_ (ki_ o7 x0 y22) BIG (0,o7.2.2.1,o7.2.2.2.1,o7.2.2.2.2.1,(w64 (o7.2.2.2.2.2.1+1)),y23,[],o7.2.2.2.2.2.2.2)) λ(o10:(List Xz)×Int×Str×Int×(List Int)×(List regex_thread)) =>
  some (.next (o7.1,o7.2.1,o10.1,o10.2.1,o10.2.2.1,o10.2.2.2.1,o10.2.2.2.2.1,o10.2.2.2.2.2)))
theorem nl_:hr_=f8_:=by
 funext x3 x1 x0 s6
 simp only[hr_,f8_,e_nilB]<;>rfl
def ia_(x0:Xp)(x1:Str)(x2:Int)(x3:Bool):Option ((List Int)×Int) :=
 (dN_ 8 (0:Int) (x0.Xi.length:Int)).bind λy1 =>
 (dS_ [(-1)] (w64 (2*x0.Xo))).bind λy2 =>
 Option.bind (b3_ BIG (regex_machine.mk x0 x1 x2 y1 []) 0 y2) λ(y3:regex_machine) =>
 Option.bind (ah_ (f8_ x3 x1 x0) BIG ([],(-1),y3.r_.Xi,y3.r_.Xo,y3.s_,y3.pos_,y3.visited_,y3.list_)) λ(wo11:Out Unit ((List Int)×Int))=>match wo11 with
 | .ret r11=>some r11
 | .fall _ =>
  none
theorem e_regex_run:gs_=ia_:=by
 funext x0 x1 x2 x3
 simp only[gs_,ia_,nl_]<;>rfl
def cD_(x0:Xp)(x1:Str):Option ((List Int)×Bool):=(ia_ x0 x1 0 true).bind λy1=>(b9_ y1.1).bind λy2=>some ((y2,(decide (y1.2>=0))))
theorem oo_:cO_=cD_:=by
 funext x0 x1
 simp only[cO_,cD_,e_regex_run]<;>rfl
def ev_ (x0 : plumb_state) (x1:Xj):Option (Bool×plumb_state) :=
 (dg_ x0 x1.Xf).bind λy1 =>
 (bif((!(x1.Xh==[109,97,116,99,104,101,115]))&&(decide ((y1.1.length:Int)>65536)))then
  some ((false,y1.2))
 else
  (bif(x1.Xy==[112,108,117,109,98])then
   some ((true,(plumb_state.mk y1.2.m_ y1.2.text_ y1.2.caps_ y1.1)))
  else
   (bif(x1.Xy==[97,116,116,114])then
    (eJ_ y1.2 x1.Xh y1.1).bind λy2 =>
    some ((y2.1,y2.2))
   else
    (bif (x1.Xy==[115,114,99])then
     (bif(x1.Xh==[105,115])then
      some (((y1.2.m_.Xc==y1.1),y1.2))
     else
      (bif(x1.Xh==[105,115,110])then
       some (((!(y1.2.m_.Xc==y1.1)),y1.2))
      else
       (bif(x1.Xh==[115,101,116])then
        some ((true,(plumb_state.mk (Xw.mk y1.1 y1.2.m_.Xd y1.2.m_.Xr y1.2.m_.Xm y1.2.m_.Xg y1.2.m_.Xn) y1.2.text_ y1.2.caps_ y1.2.port_)))
       else
        (aC_ x1.Xf).bind λy3 =>
        (bif(y3.2.2 != 0)then
         some ((false,y1.2))
        else
         (cD_ y3.1 y1.2.m_.Xc).bind λy4 =>
         Option.bind (
          (bif y4.2 then
           some (y1.2.m_.Xc,y1.2.m_.Xd,y1.2.m_.Xr,y1.2.m_.Xm,y1.2.m_.Xg,y1.2.m_.Xn,y1.2.m_.Xc,y4.1,y1.2.port_)
          else
           some (y1.2.m_.Xc,y1.2.m_.Xd,y1.2.m_.Xr,y1.2.m_.Xm,y1.2.m_.Xg,y1.2.m_.Xn,y1.2.text_,y1.2.caps_,y1.2.port_))
          ) λ(o1:Str×Str×Str×Str×(List Xv)×Str×Str×(List Int)×Str) =>
         some ((y4.2,(plumb_state.mk (Xw.mk o1.1 o1.2.1 o1.2.2.1 o1.2.2.2.1 o1.2.2.2.2.1 o1.2.2.2.2.2.1) o1.2.2.2.2.2.2.1 o1.2.2.2.2.2.2.2.1 o1.2.2.2.2.2.2.2.2)))))))
    else
     (bif (x1.Xy==[100,115,116])then
      (bif(x1.Xh==[105,115])then
       some (((y1.2.m_.Xd==y1.1),y1.2))
      else
       (bif(x1.Xh==[105,115,110])then
        some (((!(y1.2.m_.Xd==y1.1)),y1.2))
       else
        (bif(x1.Xh==[115,101,116])then
         some ((true,(plumb_state.mk (Xw.mk y1.2.m_.Xc y1.1 y1.2.m_.Xr y1.2.m_.Xm y1.2.m_.Xg y1.2.m_.Xn) y1.2.text_ y1.2.caps_ y1.2.port_)))
        else
         (aC_ x1.Xf).bind λy5 =>
         (bif(y5.2.2 != 0)then
          some ((false,y1.2))
         else
          (cD_ y5.1 y1.2.m_.Xd).bind λy6 =>
          Option.bind (
           (bif y6.2 then
            some (y1.2.m_.Xc,y1.2.m_.Xd,y1.2.m_.Xr,y1.2.m_.Xm,y1.2.m_.Xg,y1.2.m_.Xn,y1.2.m_.Xd,y6.1,y1.2.port_)
           else
            some (y1.2.m_.Xc,y1.2.m_.Xd,y1.2.m_.Xr,y1.2.m_.Xm,y1.2.m_.Xg,y1.2.m_.Xn,y1.2.text_,y1.2.caps_,y1.2.port_))
           ) λ(o2:Str×Str×Str×Str×(List Xv)×Str×Str×(List Int)×Str) =>
          some ((y6.2,(plumb_state.mk (Xw.mk o2.1 o2.2.1 o2.2.2.1 o2.2.2.2.1 o2.2.2.2.2.1 o2.2.2.2.2.2.1) o2.2.2.2.2.2.2.1 o2.2.2.2.2.2.2.2.1 o2.2.2.2.2.2.2.2.2)))))))
     else
      (bif (x1.Xy==[119,100,105,114])then
       (bif(x1.Xh==[105,115])then
        some (((y1.2.m_.Xr==y1.1),y1.2))
       else
        (bif(x1.Xh==[105,115,110])then
         some (((!(y1.2.m_.Xr==y1.1)),y1.2))
        else
         (bif(x1.Xh==[115,101,116])then
          some ((true,(plumb_state.mk (Xw.mk y1.2.m_.Xc y1.2.m_.Xd y1.1 y1.2.m_.Xm y1.2.m_.Xg y1.2.m_.Xn) y1.2.text_ y1.2.caps_ y1.2.port_)))
         else
          (aC_ x1.Xf).bind λy7 =>
          (bif(y7.2.2 != 0)then
           some ((false,y1.2))
          else
           (cD_ y7.1 y1.2.m_.Xr).bind λy8 =>
           Option.bind (
            (bif y8.2 then
             some (y1.2.m_.Xc,y1.2.m_.Xd,y1.2.m_.Xr,y1.2.m_.Xm,y1.2.m_.Xg,y1.2.m_.Xn,y1.2.m_.Xr,y8.1,y1.2.port_)
            else
             some (y1.2.m_.Xc,y1.2.m_.Xd,y1.2.m_.Xr,y1.2.m_.Xm,y1.2.m_.Xg,y1.2.m_.Xn,y1.2.text_,y1.2.caps_,y1.2.port_))
            ) λ(o3:Str×Str×Str×Str×(List Xv)×Str×Str×(List Int)×Str) =>
           some ((y8.2,(plumb_state.mk (Xw.mk o3.1 o3.2.1 o3.2.2.1 o3.2.2.2.1 o3.2.2.2.2.1 o3.2.2.2.2.2.1) o3.2.2.2.2.2.2.1 o3.2.2.2.2.2.2.2.1 o3.2.2.2.2.2.2.2.2)))))))
      else
       (bif (x1.Xy==[116,121,112,101])then
        (bif(x1.Xh==[105,115])then
         some (((y1.2.m_.Xm==y1.1),y1.2))
        else
         (bif(x1.Xh==[105,115,110])then
          some (((!(y1.2.m_.Xm==y1.1)),y1.2))
         else
          (bif(x1.Xh==[115,101,116])then
           some ((true,(plumb_state.mk (Xw.mk y1.2.m_.Xc y1.2.m_.Xd y1.2.m_.Xr y1.1 y1.2.m_.Xg y1.2.m_.Xn) y1.2.text_ y1.2.caps_ y1.2.port_)))
          else
           (aC_ x1.Xf).bind λy9 =>
           (bif(y9.2.2 != 0)then
            some ((false,y1.2))
           else
            (cD_ y9.1 y1.2.m_.Xm).bind λy10 =>
            Option.bind (
             (bif y10.2 then
              some (y1.2.m_.Xc,y1.2.m_.Xd,y1.2.m_.Xr,y1.2.m_.Xm,y1.2.m_.Xg,y1.2.m_.Xn,y1.2.m_.Xm,y10.1,y1.2.port_)
             else
              some (y1.2.m_.Xc,y1.2.m_.Xd,y1.2.m_.Xr,y1.2.m_.Xm,y1.2.m_.Xg,y1.2.m_.Xn,y1.2.text_,y1.2.caps_,y1.2.port_))
             ) λ(o4:Str×Str×Str×Str×(List Xv)×Str×Str×(List Int)×Str) =>
            some ((y10.2,(plumb_state.mk (Xw.mk o4.1 o4.2.1 o4.2.2.1 o4.2.2.2.1 o4.2.2.2.2.1 o4.2.2.2.2.2.1) o4.2.2.2.2.2.2.1 o4.2.2.2.2.2.2.2.1 o4.2.2.2.2.2.2.2.2)))))))
       else
        (bif(x1.Xh==[105,115])then
         some (((y1.2.m_.Xn==y1.1),y1.2))
        else
         (bif(x1.Xh==[105,115,110])then
          some (((!(y1.2.m_.Xn==y1.1)),y1.2))
         else
          (bif(x1.Xh==[115,101,116])then
           some ((true,(plumb_state.mk (Xw.mk y1.2.m_.Xc y1.2.m_.Xd y1.2.m_.Xr y1.2.m_.Xm y1.2.m_.Xg y1.1) y1.2.text_ y1.2.caps_ y1.2.port_)))
          else
           (aC_ x1.Xf).bind λy11 =>
           (bif(y11.2.2 != 0)then
            some ((false,y1.2))
           else
            (cD_ y11.1 y1.2.m_.Xn).bind λy12 =>
            Option.bind (
             (bif y12.2 then
              some (y1.2.m_.Xc,y1.2.m_.Xd,y1.2.m_.Xr,y1.2.m_.Xm,y1.2.m_.Xg,y1.2.m_.Xn,y1.2.m_.Xn,y12.1,y1.2.port_)
             else
              some (y1.2.m_.Xc,y1.2.m_.Xd,y1.2.m_.Xr,y1.2.m_.Xm,y1.2.m_.Xg,y1.2.m_.Xn,y1.2.text_,y1.2.caps_,y1.2.port_))
             ) λ(o5:Str×Str×Str×Str×(List Xv)×Str×Str×(List Int)×Str) =>
            some ((y12.2,(plumb_state.mk (Xw.mk o5.1 o5.2.1 o5.2.2.1 o5.2.2.2.1 o5.2.2.2.2.1 o5.2.2.2.2.2.1) o5.2.2.2.2.2.2.1 o5.2.2.2.2.2.2.2.1 o5.2.2.2.2.2.2.2.2))))))))))))))
theorem kz_:cW_=ev_:=by
 funext x0 x1
 simp only[cW_,ev_,oo_]<;>rfl
def fi_(x0:Xx)(s2:Int×Str×Str×Str×Str×(List Xv)×Str×Str×(List Int)×Str):Option (Step (Int×Str×Str×Str×Str×(List Xv)×Str×Str×(List Int)×Str) (Out plumb_state (Xw×Str×Bool))) :=
 (bif(decide (s2.1<(x0.Xk.length:Int)))then
  (aj_ x0.Xk s2.1).bind λy7 =>
  (ev_ (plumb_state.mk (Xw.mk s2.2.1 s2.2.2.1 s2.2.2.2.1 s2.2.2.2.2.1 s2.2.2.2.2.2.1 s2.2.2.2.2.2.2.1) s2.2.2.2.2.2.2.2.1 s2.2.2.2.2.2.2.2.2.1 s2.2.2.2.2.2.2.2.2.2) y7).bind λy8 =>
  (bif(!y8.1)then
   some (.done (.ret (((Xw.mk [] [] [] [] [] []),[],false))))
  else
   some (.next ((w64 (s2.1+1)),y8.2.m_.Xc,y8.2.m_.Xd,y8.2.m_.Xr,y8.2.m_.Xm,y8.2.m_.Xg,y8.2.m_.Xn,y8.2.text_,y8.2.caps_,y8.2.port_)))
 else
  some (.done (.fall (plumb_state.mk (Xw.mk s2.2.1 s2.2.2.1 s2.2.2.2.1 s2.2.2.2.2.1 s2.2.2.2.2.2.1 s2.2.2.2.2.2.2.1) s2.2.2.2.2.2.2.2.1 s2.2.2.2.2.2.2.2.2.1 s2.2.2.2.2.2.2.2.2.2))))
theorem lt_:f0_=fi_:=by
 funext x0 s2
 simp only[f0_,fi_,kz_]<;>rfl
def gI_ (x0:Xx) (x1:Xw):Option (Xw×Str×Bool) :=
 (gH_ x0).bind λy1 =>
 Option.bind (bif(!y1)then some true else 
  (du_ x1).bind λy2 =>
  some (y2 != 0)
  ) λ(y3:Bool) =>
 (bif y3 then
  some (((Xw.mk [] [] [] [] [] []),[],false))
 else
  (aX_ x1.Xg).bind λy4 =>
  Option.bind (ah_ (fi_ x0) BIG (0,x1.Xc,x1.Xd,x1.Xr,x1.Xm,y4,x1.Xn,[],[],[])) λ(wo1:Out plumb_state (Xw×Str×Bool))=>match wo1 with
  | .ret r1=>some r1
  | .fall o1 =>
   (du_ o1.m_).bind λy9 =>
   (bif(y9 != 0)then
    some (((Xw.mk [] [] [] [] [] []),[],false))
   else
    some ((o1.m_,o1.port_,true))))
theorem op_:gg_=gI_:=by
 funext x0 x1
 simp only[gg_,gI_,on_,lt_]<;>rfl
def jA_  : Option Bool:=gD_ h1_ h3_ gG_ gI_
theorem oq_:bJ_=jA_:=by
 simp only[bJ_,jA_,om_,op_]<;>rfl
theorem alive_eq:bJ_=some true:=by
 rw[oq_]
 kernel_rfl
end
theorem rules_fit{l:List Xx}(h:Fit te (.sl (.st 3)) l):RulesL l:=by
 have h1:l.length<=9223372036854775807/\∀r∈l,FitL (FitC te 1) (te.flat (.st 3)) (te.fl (.st 3) r):=(h 2).1;refine⟨h1.1,λr hr => ?_⟩;have h2:r.Xk.length<=9223372036854775807/\∀p∈r.Xk,FitL (FitC te 0) (te.flat (.st 2)) (te.fl (.st 2) p):=(h1.2 r hr).1;exact h2.1
theorem lu_(x0:Str)(x1:List Xx)(_:Fit te .str x0)(h1:Fit te (.sl (.st 3)) x1):cY_ x0 x1=some true:=rules_true alive_eq (rules_fit h1)
theorem lv_(x0:Str)(x1:List Xx)(_:Fit te .str x0)(h1:Fit te (.sl (.st 3)) x1):cZ_ x0 x1=some true:=again_true alive_eq (rules_fit h1)
end Go.Proofs.YtbdcelleafhelaaGreatDoor
