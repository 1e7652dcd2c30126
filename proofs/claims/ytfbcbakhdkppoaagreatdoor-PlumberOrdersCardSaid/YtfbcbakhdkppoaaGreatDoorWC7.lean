/-
 What the statements of this seat hang on,part 7: Num Fa0 Aa Ab Ac Ad Ae Af Ag Ah Ai Aj Ak Al Am An Ao Ap Aq Ar Ba Bb Bc Bd Be Bf Bg Bh Bi Bj Bk Bl Bm Bn Bo Bp Bq Br Bu Bv Bw Bx By Bz Eb Ec Ed Ee Ef Eg Eh Ea Ei.
-/
import Derived.Test.YtfbcbakhdkppoaaGreatDoorWC6
import Derived.Laws.BitsLemmas
import Derived.KernelRfl
namespace Go
namespace Rt
theorem c0_{n:Int}(h:I64 n):w64 n=n:=by
 unfold w64;rw[IntKind.wrap_i64];omega
theorem wi64_eq{n:Int}(h:I64 n):IntKind.i64.wrap n=n:=c0_ h
theorem ax_{α β:Type}{x:Option α}{a:α}{f:α->Option β}{r:Option β}(h:x=some a)(hr:f a=r):x.bind f=r:=by subst h;exact hr
theorem cond_t{α:Type}{c:Bool}{A B r:α}(hc:c=true)(h:A=r):(bif c then A else B)=r:=by subst hc;exact h
theorem dv_{α:Type}{c:Bool}{A B r:α}(hc:c=false)(h:B=r):(bif c then A else B)=r:=by subst hc;exact h
theorem loopF_run{σ β:Type}{body:σ->Option (Step σ β)}(I:Nat->σ->β->Prop)
  (h0:∀s b,I 0 s b->body s=some (.done b))
  (h:∀k s b,I (k+1) s b->body s=some (.done b)\/∃s',body s=some (.next s')/\I k s' b):∀{k n:Nat} {s:σ} {b:β},I k s b->k<n->ah_ body n s=some b
 | 0,n+1,s,b,hI,_=>by simp only[ah_,h0 s b hI]
 | k+1,n+1,s,b,hI,hk=>by
  simp only[ah_];rcases h k s b hI with hd|⟨s',hn,hI'⟩
  .rw[hd]
  .rw[hn];exact loopF_run I h0 h hI' (by omega)
theorem jk_{σ β:Type}{body:σ->Option (Step σ β)}(n:Nat)(hn:n<BIG)(J:Nat->σ->β->Prop)(h0:∀s b,J n s b->body s=some (.done b))
  (h:∀i s b,i<n->J i s b->body s=some (.done b)\/∃s',body s=some (.next s')/\J (i+1) s' b) {s:σ} {b:β} (hJ:J 0 s b):ah_ body BIG s=some b:=by
 refine loopF_run (λk s b=>k<=n/\J (n-k) s b) (λs b hI=>h0 s b (by simpa using hI.2)) (λk s b hI => ?_) (k:=n) ⟨Nat.le_refl _,by simpa using hJ⟩ hn;obtain⟨hk,hI⟩:=hI;rcases h _ s b (by omega) hI with hd|⟨s',hs,hI'⟩
 .exact .inl hd
 .exact .inr ⟨s',hs,by omega,by rwa [show n-(k+1)+1=n-k by omega]at hI'⟩
theorem cz_{σ β:Type}{body:σ->Option (Step σ β)}(T:Nat->σ)(n:Nat)(hn:n<BIG){b:β}(hs:∀i,i<n->body (T i)=some (.next (T (i+1))))(hd:body (T n)=some (.done b)):ah_ body BIG (T 0)=some b:=by
 refine jk_ (J:=λi s b'=>s=T i/\b'=b) n hn (λs b' hJ => ?_) (λi s b' hi hJ => ?_) ⟨rfl,rfl⟩
 .obtain⟨rfl,rfl⟩:=hJ;exact hd
 .obtain⟨rfl,rfl⟩:=hJ;exact .inr ⟨_,hs i hi,rfl,rfl⟩
theorem jl_{α β:Type}{body:Int->Option (Step Int (Out Unit β))}(xs:List α)(p:α->Bool)(r:β)(hn:xs.length<BIG)
  (hb:∀i (h:i<xs.length),body (i:Int)=if p xs[i]then some (.next ((i+1:Nat):Int))else some (.done (.ret r)))
  (he:body (xs.length:Int)=some (.done (.fall ()))):ah_ body BIG 0=some (if xs.all p then .fall ()else .ret r):=by
 refine jk_ (J:=λi s b=>s=(i:Int)/\b=if(xs.drop i).all p then .fall ()else .ret r) xs.length hn (λs b hJ => ?_) (λi s b hi hJ => ?_) (by simp)
 .obtain⟨rfl,rfl⟩:=hJ;rw[he];simp
 .obtain⟨rfl,rfl⟩:=hJ;rw[hb i hi,List.drop_eq_getElem_cons hi,List.all_cons];cases hp:p xs[i]with
  | true=>exact .inr ⟨_,rfl,rfl,by simp⟩
  | false=>exact .inl (by simp)
theorem getI_nat{α:Type}(xs:List α)(i:Nat):ag_ xs (i:Int)=xs[i]? := by
 unfold ag_;rw[if_pos (by omega)];simp
theorem bg_{α:Type}{xs:List α}{i:Nat}(h:i<xs.length):ag_ xs (i:Int)=some xs[i]:=by
 rw[getI_nat,List.getElem?_eq_getElem h]
theorem dX_{s:Str}{i:Nat}(h:i<s.length):aA_ s (i:Int)=some (s[i].toNat:Int):=by
 unfold aA_;rw[bg_ h];rfl
theorem b4_{a b:Str}(h:a.length+b.length<=9223372036854775807):cat a b=some (a++b):=by
 unfold cat;rw[if_pos h]
theorem ca_{α:Type}{bytes:Nat}{xs ys:List α}(h1:xs.length+ys.length<=9223372036854775807)(h2:(xs.length+ys.length)*bytes<=140737488355328):room bytes xs ys=some (xs++ys):=by
 unfold room;rw[if_pos ⟨h1,h2⟩]
theorem dh_{α:Type}{xs:List α}{lo hi:Int}(h0:0<=lo)(h1:lo<=hi)(h2:hi<=xs.length):aK_ xs lo hi=some ((xs.take hi.toNat).drop lo.toNat):=by
 unfold aK_;rw[if_pos ⟨h0,h1,h2⟩]
theorem makeI_eq{α:Type}{bytes:Nat}{z:α}{n:Int}(h0:0<=n)(h1:n<=9223372036854775807)(h2:bytes*n<=281474976710656):d0_ bytes z n=some (List.replicate n.toNat z):=by
 unfold d0_;rw[if_pos ⟨h0,h1,h2⟩]
theorem str_beq{a b:Str}:(a==b)=decide (a=b):=by
 rw[Bool.eq_iff_iff];simp
end Rt
end Go
namespace Go.Proofs.YtfbcbakhdkppoaaGreatDoor
open Go.Rt Go.RowKit
theorem jm_{σ β:Type}{body:σ->Option (Step σ β)}{s s':σ}{n:Nat}{r:Option β}(h:body s=some (.next s'))(hr:ah_ body n s'=r):ah_ body (n+1) s=r:=by
 simp only[ah_,h];exact hr
theorem gU_{σ β:Type}{body:σ->Option (Step σ β)}{s:σ}{n:Nat}{b:β}(h:body s=some (.done b)):ah_ body (n+1) s=some b:=by
 simp only[ah_,h]
def bq_{α β:Type}(g:Nat->α->Option β):Nat->List α->Option β
 | _,[]=>none
 | i,x::l=>match g i x with
  | some r=>some r
  | none=>bq_ g (i+1) l
def outO{β:Type}:Option β->Out Unit β|some r => .ret r|none => .fall ()
theorem cg_{i n:Nat}(h:i<n):decide ((i:Int)<(n:Int))=true:=by simpa using h
theorem ch_(n:Nat):decide ((n:Int)<(n:Int))=false:=by simp
theorem aR_{i:Nat}(h:i<9223372036854775807):w64 ((i:Int)+1)=((i+1:Nat):Int):=by
 rw[c0_ ⟨by omega,by omega⟩];rfl
def stepO{β:Type}(o:Option β)(i:Nat):Step Int (Out Unit β):=match o with|some r => .done (.ret r)|none => .next ((i+1:Nat):Int)
theorem dY_{α β:Type}{body:Int->Option (Step Int (Out Unit β))}(xs:List α)(g:Nat->α->Option β)(hn:xs.length<BIG)
  (hb:∀i (h:i<xs.length),body (i:Int)=some (stepO (g i xs[i]) i))
  (he:body (xs.length:Int)=some (.done (.fall ()))):ah_ body BIG 0=some (outO (bq_ g 0 xs)):=by
 refine jk_ (J:=λi s b=>s=(i:Int)/\b=outO (bq_ g i (xs.drop i))) xs.length hn (λs b hJ => ?_) (λi s b hi hJ => ?_) (by simp)
 .obtain⟨rfl,rfl⟩:=hJ;rw[he];simp[bq_,outO]
 .obtain⟨rfl,rfl⟩:=hJ;rw[hb i hi,List.drop_eq_getElem_cons hi];simp only[bq_];cases hg:g i xs[i]with
  | some r=>exact .inl rfl
  | none=>exact .inr ⟨_,rfl,rfl,rfl⟩
theorem eS_{β:Type}{L:Option (Out Unit β)}{k:Out Unit β->Option β}{o:Option β}{x:β}(h:L=some (outO o))(h1:∀r,k (.ret r)=some r)(h2:k (.fall ())=some x):Option.bind L k=some (o.getD x):=by
 subst h;cases o with
 | some r=>exact h1 r
 | none=>exact h2
theorem scan_find{α β:Type}(p:α->Bool)(f:α->β):∀(k:Nat) (l:List α),bq_ (λ_ x=>if p x then some (f x)else none) k l=(l.find? p).map f
 | _,[]=>rfl
 | k,x::l=>by
  simp only[bq_,List.find?_cons];cases p x with
  | true=>rfl
  | false=>exact scan_find p f (k+1) l
theorem scan_idx{α:Type}(p:α->Bool):∀(k:Nat) (l:List α),bq_ (λi x=>if p x then some ((i:Nat):Int)else none) k l=(l.findIdx? p).map λi=>((k+i:Nat):Int)
 | _,[]=>rfl
 | k,x::l=>by
  simp only[bq_,List.findIdx?_cons];cases p x with
  | true=>rfl
  | false =>
   simp only[Bool.false_eq_true,if_false];rw[scan_idx p (k+1) l];cases l.findIdx? p with
   | none=>rfl
   | some i=>simp only[Option.map_some];congr 2;omega
theorem scan_none{α β:Type}{g:Nat->α->Option β}:∀{k:Nat} {l:List α},bq_ g k l=none↔∀i x,l[i]? = some x->g (k+i) x=none
 | _,[]=>⟨λ_ i x h=>by simp at h,λ_=>rfl⟩
 | k,x::l=>by
  simp only[bq_];constructor
  .intro h;split at h
   .cases h
   .rename_i h0;intro i y hy;cases i with
    | zero=>simp at hy;subst hy;exact h0
    | succ i=>have:=(scan_none (k:=k+1)).1 h i y (by simpa using hy);rwa [show k+1+i=k+(i+1)by omega]at this
  .intro h;have h0:=h 0 x rfl;rw[Nat.add_zero]at h0;rw[h0];exact scan_none.2 λi y hy=>by rw[show k+1+i=k+(i+1)by omega];exact h (i+1) y (by simpa using hy)
theorem kq_{α β:Type}{g:Nat->α->Option β}{r:β}:∀{k:Nat} {l:List α},bq_ g k l=some r->∃i x,l[i]? = some x/\g (k+i) x=some r/\∀j y,j<i->l[j]? = some y->g (k+j) y=none
 | _,[],h=>by cases h
 | k,x::l,h=>by
  simp only[bq_]at h;split at h
  .rename_i r' h0;obtain rfl:=qSj h;exact⟨0,x,rfl,h0,λj y hj=>by omega⟩
  .rename_i h0;obtain⟨i,y,h1,h2,h3⟩:=kq_ h;refine⟨i+1,y,by simpa using h1,by rw[show k+(i+1)=k+1+i by omega];exact h2,λj q hj hq => ?_⟩;cases j with
   | zero=>simp at hq;subst hq;exact h0
   | succ j=>rw[show k+(j+1)=k+1+j by omega];exact h3 j q (by omega) (by simpa using hq)
def at_{α:Type}(p:α->Bool)(l:List α):Int:=match l.findIdx? p with|some i=>(i:Int)|none => -1
theorem at_getD{α:Type}(p:α->Bool)(l:List α):(bq_ (λi x=>if p x then some ((i:Nat):Int)else none) 0 l).getD (-1)=at_ p l:=by
 rw[scan_idx];unfold at_;cases l.findIdx? p<;>simp
theorem at_find{α:Type}(p:α->Bool)(l:List α):(l.find? p=none/\at_ p l = -1)\/∃(i:Nat) (x:α),l.find? p=some x/\at_ p l=(i:Int)/\l[i]? = some x/\p x=true/\∀j y,j<i->l[j]? = some y->p y=false:=by
 unfold at_;cases h:l.findIdx? p with
 | none =>
  refine .inl ⟨?_,rfl⟩;rw[List.find?_eq_none];intro x hx;rw[List.findIdx?_eq_none_iff]at h;simpa using h x hx
 | some i =>
  obtain⟨hlt,hp,hall⟩:=List.findIdx?_eq_some_iff_getElem.1 h;refine .inr ⟨i,l[i],?_,rfl,List.getElem?_eq_getElem hlt,hp,λj y hj hy => ?_⟩
  .rw[List.find?_eq_some_iff_getElem];exact⟨hp,i,hlt,rfl,λj hj=>by simpa using hall j hj⟩
  .have:=hall j hj;rw[List.getElem?_eq_getElem (by omega)]at hy;obtain rfl:=qSj hy;simpa using this
theorem at_neg{α:Type}(p:α->Bool)(l:List α):decide (at_ p l<0)=(l.find? p).isNone:=by
 rcases at_find p l with⟨h1,h2⟩|⟨i,x,h1,h2,_⟩
 .rw[h1,h2];rfl
 .rw[h1,h2];simp
theorem clone_any{α:Type}{n:Nat}{xs:List α}(h:xs.length*n<=140737488355328)(h63:xs.length<=9223372036854775807):room n ([]:List α) xs=some xs :=
 ca_ (by simpa using h63) (by simpa using h)
theorem bk_{n:Nat}(h:n<=9223372036854775807):n<BIG:=by unfold BIG;omega
theorem hasPre(s p:Str):aN_ s p=some (s.take p.length==p):=by
 unfold aN_;by_cases h:p.length<=s.length
 .rw[show decide ((s.length:Int)>=(p.length:Int))=true by simpa using h];simp only[cond_true];rw[dh_ (Int.le_refl 0) (by omega) (by omega)];simp
 .rw[show decide ((s.length:Int)>=(p.length:Int))=false by simpa using h];simp only[cond_false,qBs];have:(s.take p.length==p)=false:=by
   rw[str_beq];refine decide_eq_false λe => ?_
   have:=congrArg List.length e;rw[List.length_take]at this;omega
  rw[this]
theorem trimPre(s p:Str):strings_TrimPrefix s p=some (if s.take p.length==p then s.drop p.length else s):=by
 unfold strings_TrimPrefix bE_;rw[hasPre];simp only[qBs];cases hc:s.take p.length==p with
 | true =>
  have hle:p.length<=s.length:=by
   rw[str_beq]at hc;have:=congrArg List.length (of_decide_eq_true hc);rw[List.length_take]at this;omega
  rw[cond_true,dh_ (by omega) (by omega) (Int.le_refl _)];simp
 | false=>simp
theorem idxB_range(s:Str)(c:UInt8):cC_ s c = -1\/(0<=cC_ s c/\cC_ s c<s.length):=by
 induction s with
 | nil=>exact .inl rfl
 | cons b l ih =>
  simp only[cC_];split
  .exact .inr ⟨Int.le_refl 0,by simp only[qLc];omega⟩
  .split
   .exact .inl rfl
   .rename_i h1 h2;rcases ih with ih|ih
    .exact absurd (by rw[ih];rfl) h2
    .exact .inr ⟨by omega,by simp only[qLc];omega⟩
theorem idxB_iff(s:Str)(c:UInt8):0<=cC_ s c↔s.contains c=true:=by
 induction s with
 | nil=>exact⟨λh=>absurd (show(0:Int) <= -1 from h) (by decide),λh=>by cases h⟩
 | cons b l ih =>
  have e:cC_ (b::l) c=if b==c then 0 else if cC_ l c == -1 then -1 else cC_ l c+1:=rfl
  rw[e,List.contains_cons];by_cases hb:b=c
  .subst hb;simp
  .have h1:(b==c)=false:=beq_eq_false_iff_ne.2 hb;have h2:(c==b)=false:=beq_eq_false_iff_ne.2 λe=>hb e.symm
   rw[h1,h2,Bool.false_or,←ih];rcases idxB_range l c with h|⟨h,_⟩
   .rw[h];simp
   .have h3:(cC_ l c == -1)=false:=beq_eq_false_iff_ne.2 (by omega);rw[h3];simp only[Bool.false_eq_true,if_false];omega
theorem idxB_ge(s:Str)(c:UInt8):decide (cC_ s c>=0)=s.contains c:=by
 cases h:s.contains c with
 | true=>exact decide_eq_true ((idxB_iff s c).2 h)
 | false=>exact decide_eq_false λh2=>by rw[(idxB_iff s c).1 h2]at h;cases h
theorem contains_eq(s:Str)(c:UInt8):strings_Contains s [c]=some (s.contains c):=by
 unfold strings_Contains strings_Index stringslite_Index;simp only[qBs];rw[idxB_ge]
def an_(p:Str)(s:Str):Nat:=(s.takeWhile λb => !(p.contains b)).length
theorem untilN_le(p s:Str):an_ p s<=s.length:=by
 unfold an_;exact List.Sublist.length_le (List.takeWhile_sublist _)
theorem mF_(p:Str):∀(k:Nat) (s:Str),(bq_ (λi b=>if p.contains b then some (((i:Nat):Int))else none) k s).getD ((k+s.length:Nat):Int)=((k+an_ p s:Nat):Int)
 | k,[]=>by simp[bq_,an_]
 | k,b::s=>by
  simp only[bq_,an_,List.takeWhile_cons];cases h:p.contains b with
  | true=>simp
  | false =>
   have ih:=mF_ p (k+1) s;simp only[Bool.not_false,if_true,Bool.false_eq_true,if_false,qLc];rw[show k+(s.length+1)=k+1+s.length by omega,ih];unfold an_
   congr 1
   omega
theorem toNat_u8(b:UInt8):((b.toNat:Int)).toNat.toUInt8=b:=by simp
theorem until_eq{s p:Str}(hs:s.length<=9223372036854775807):do_ s p=some ((an_ p s:Nat):Int):=by
 unfold do_;have h:=dY_ (body:=eD_ s p) s (λi b=>if p.contains b then some (((i:Nat):Int))else none) (bk_ hs) (λi hi=>by
  unfold eD_;rw[cg_ hi,cond_true,dX_ hi];simp only[qBs];unfold strings_IndexByte stringslite_IndexByte;simp only[qBs];rw[toNat_u8,idxB_ge];cases hc:p.contains s[i]with
  | true=>rfl
  | false =>
   simp only[cond_false,Bool.false_eq_true,if_false,stepO];rw[aR_ (by omega)]) (by
  unfold eD_;rw[ch_];rfl)
 refine(eS_ (x:=((s.length:Nat):Int)) h (λr=>rfl) rfl).trans ?_;have:=mF_ p 0 s;rw[Nat.zero_add,Nat.zero_add]at this;rw[this]
def okN(n:Nat):Bool:=(decide (97<=n)&&decide (n<=122))||(decide (48<=n)&&decide (n<=57))||n==45||n==95
def lowN(n:Nat):Bool:=decide (97<=n)&&decide (n<=122)
def trimB(s:Str):Str:=if s.take 1==[33]then s.drop 1 else s
def eI_(s:Str):Bool:=(trimB s).length>=1&&((trimB s).length<=32&&(lowN ((trimB s).headD 0).toNat&&(trimB s).all λb=>okN b.toNat))
theorem okN_int(n:Nat):((((decide ((n:Int)<97)||decide ((n:Int)>122))&&(decide ((n:Int)<48)||decide ((n:Int)>57)))&&((n:Int) != 45))&&((n:Int) != 95)) = !(okN n):=by
 unfold okN;rw[Bool.eq_iff_iff];simp only[qAn,Bool.or_eq_true,decide_eq_true_eq,bne_iff_ne,ne_eq,Bool.not_eq_true',Bool.or_eq_false_iff,Bool.and_eq_false_iff,decide_eq_false_iff_not,beq_eq_false_iff_ne];omega
theorem isName_eq{s:Str}(hs:s.length<=9223372036854775807):f0_ s=some (eI_ s):=by
 unfold f0_;have h0:strings_TrimPrefix s [33]=some (trimB s):=trimPre s [33];rw[h0];simp only[qBs];have htl:(trimB s).length<=s.length:=by
  unfold trimB;split
  .rw[List.length_drop];omega
  .exact Nat.le_refl _
 unfold eI_;cases ht:trimB s with
 | nil=>rfl
 | cons b t =>
  rw[ht]at htl;by_cases h32:(b::t).length<=32
  .have e1:decide (((b::t).length:Int)>32)=false:=decide_eq_false (by omega);have e2:((b::t:Str)==[])=false:=rfl;rw[e1,e2];have hb0:aA_ (b::t) 0=some (b.toNat:Int):=dX_ (s:=b::t) (i:=0) (by simp);simp only[Bool.or_false,cond_false,hb0,qBs];have e3:decide ((b::t).length>=1)=true:=by simp
   rw[e3,decide_eq_true h32];simp only[Bool.true_and,List.headD_cons];by_cases hl:lowN b.toNat=true
   .have hl':=hl;unfold lowN at hl';simp only[qAn,decide_eq_true_eq]at hl';rw[decide_eq_false (show ¬(b.toNat:Int)<97 by omega)];simp only[cond_false];rw[decide_eq_false (show ¬(b.toNat:Int)>122 by omega)];simp only[qBs,cond_false,hl,Bool.true_and];have h:=jl_ (body:=eb_ (b::t)) (b::t) (λb=>okN b.toNat) false (bk_ (by omega)) (λi hi=>by
     unfold eb_;rw[cg_ hi,cond_true,dX_ hi];simp only[qBs];rw[okN_int];cases okN (b::t)[i].toNat with
     | true=>simp only[Bool.not_true,cond_false,if_true];rw[aR_ (by omega)]
     | false=>rfl) (by
     unfold eb_;rw[ch_];rfl)
    refine ax_ h ?_;cases(b::t).all λb=>okN b.toNat<;>rfl
   .have hl2:lowN b.toNat=false:=by simpa using hl
    rw[hl2];have:¬(97<=b.toNat/\b.toNat<=122):=λ⟨h1,h2⟩=>by
     unfold lowN at hl2;rw[decide_eq_true h1,decide_eq_true h2]at hl2;cases hl2
    by_cases h97:(b.toNat:Int)<97
    .rw[decide_eq_true h97];rfl
    .rw[decide_eq_false h97];simp only[cond_false];rw[decide_eq_true (show(b.toNat:Int)>122 by omega)];rfl
  .have e1:decide (((b::t).length:Int)>32)=true:=decide_eq_true (by omega);rw[e1,decide_eq_false h32];simp
theorem secret_eq(s:Str):fj_ s=some (s.take 1==[33]):=by
 unfold fj_;cases s with
 | nil=>rfl
 | cons b t =>
  rw[decide_eq_true (show((b::t).length:Int)>0 by simp only[qLc];omega),cond_true,show aA_ (b::t) 0=some (b.toNat:Int)from dX_ (s:=b::t) (i:=0) (by simp)];simp only[qBs,List.take_succ_cons,List.take_zero]
  congr 1
  rw[Bool.eq_iff_iff,beq_iff_eq,beq_iff_eq];constructor
  .intro h;have:b=33:=UInt8.toNat_inj.1 (by show b.toNat=33;omega);rw[this]
  .intro h;injection h with h _;rw[h];rfl
theorem okR_int(n i:Nat):(Option.bind (bif decide ((n:Int)>=97)then Option.bind (some (n:Int)) λy=>some (decide (y<=122))else some false) λ(y17:Bool) =>
  Option.bind (bif(!y17)then
   Option.bind (bif((i:Int)==0)then some true else
    Option.bind (some (n:Int)) λy18 =>
    Option.bind (bif(decide (y18>=48))then
     Option.bind (some (n:Int)) λy19 =>
     some (decide (y19<=57))
      else some false) λ(y20:Bool) =>
    Option.bind (bif y20 then some true else
     Option.bind (some (n:Int)) λy21 =>
     some (y21==45)
     ) λ(y22:Bool) =>
    Option.bind (bif y22 then some true else
     Option.bind (some (n:Int)) λy23 =>
     some (y23==95)
     ) λ(y24:Bool) =>
    some (!y24)
    ) λ(y25:Bool) =>
   some y25
    else some false) λ(y26:Bool)=>some y26)=some (!(lowN n||(decide (i≠0)&&okN n))):=by
 unfold lowN okN;have c97:decide ((n:Int)>=97)=decide (97<=n):=decide_eq_decide.2 (by omega);have c122:decide ((n:Int)<=122)=decide (n<=122):=decide_eq_decide.2 (by omega);have c48:decide ((n:Int)>=48)=decide (48<=n):=decide_eq_decide.2 (by omega);have c57:decide ((n:Int)<=57)=decide (n<=57):=decide_eq_decide.2 (by omega);have c45:((n:Int)==45)=(n==45):=by rw[Bool.eq_iff_iff,beq_iff_eq,beq_iff_eq];omega
 have c95:((n:Int)==95)=(n==95):=by rw[Bool.eq_iff_iff,beq_iff_eq,beq_iff_eq];omega
 have c0:((i:Int)==0)=decide (i=0):=by rw[Bool.eq_iff_iff,beq_iff_eq,decide_eq_true_eq];omega
 have cn:decide (i≠0) = !(decide (i=0)):=by simp
 simp only[qBs,c97,c122,c48,c57,c45,c95,c0,cn];cases decide (97<=n)<;>cases decide (n<=122)<;>cases decide (48<=n)<;>cases decide (n<=57)<;>cases n==45<;>cases n==95<;>cases decide (i=0)<;>rfl
theorem low_ok{n:Nat}(h:lowN n=true):okN n=true:=by
 unfold lowN at h;unfold okN;rw[h];rfl
def gName(i:Nat)(b:UInt8):Option Bool:=if !(lowN b.toNat||(decide (i≠0)&&okN b.toNat))then some false else none
theorem scan_name:∀(t:Str) (k:Nat),0<k->bq_ gName k t=if t.all λb=>okN b.toNat then none else some false
 | [],_,_=>rfl
 | b::t,k,hk=>by
  have hg:gName k b=if okN b.toNat then none else some false:=by
   unfold gName;rw[decide_eq_true (show k≠0 by omega),Bool.true_and];cases ho:okN b.toNat with
   | true=>simp
   | false =>
    cases hl:lowN b.toNat with
    | true=>rw[low_ok hl]at ho;cases ho
    | false=>rfl
  simp only[bq_,hg,List.all_cons];by_cases ho:okN b.toNat=true
  .simp only[ho,if_true,Bool.true_and];exact scan_name t (k+1) (by omega)
  .have ho':okN b.toNat=false:=by simpa using ho
   simp[ho']
theorem bind2_last{α γ:Type}{A:Option α}{B:α->Option Bool}{f:Bool->Option γ}{r:Bool}(h:(Option.bind A λy=>Option.bind (B y) λz=>some z)=some r):(Option.bind A λy=>Option.bind (B y) f)=f r:=by
 cases A with
 | none=>cases h
 | some a =>
  simp only[qBs]at h ⊢;cases hb:B a with
  | none=>rw[hb]at h;cases h
  | some b =>
   rw[hb]at h;simp only[qBs]at h ⊢;rw[qSj h]
theorem refName_eq{s:Str}(hs:s.length<=9223372036854775807):gR_ s=some (eI_ s):=by
 unfold gR_;rw[secret_eq];have h0:(Option.bind (some (s.take 1==[33])) λy1=>(bif y1 then(aK_ s 1 (s.length:Int)).bind λy2=>some y2 else some s))=some (trimB s):=by
  simp only[qBs];unfold trimB;cases hc:s.take 1==[33]with
  | true =>
   have hle:1<=s.length:=by
    cases s with
    | nil=>cases hc
    | cons b t=>simp
   rw[cond_true,dh_ (by omega) (by omega) (Int.le_refl _)];simp
  | false=>rfl
 refine ax_ h0 ?_;have htl:(trimB s).length<=s.length:=by
  unfold trimB;split
  .rw[List.length_drop];omega
  .exact Nat.le_refl _
 have h:=dY_ (body:=eH_ (trimB s)) (trimB s) gName (bk_ (by omega)) (λi hi=>by
  unfold eH_;rw[cg_ hi,cond_true,dX_ hi];simp only[qBs];refine(bind2_last (okR_int (trimB s)[i].toNat i)).trans ?_;unfold gName;cases(lowN (trimB s)[i].toNat||(decide (i≠0)&&okN (trimB s)[i].toNat))with
  | true =>
   simp only[Bool.not_true,cond_false,Bool.false_eq_true,if_false,stepO];rw[aR_ (by omega)]
  | false=>rfl) (by
  unfold eH_;rw[ch_];rfl)
 refine(eS_ (x:=(decide (((trimB s).length:Int)>=1)&&decide (((trimB s).length:Int)<=32))) h (λr=>rfl) rfl).trans ?_
 congr 1
 unfold eI_;cases ht:trimB s with
 | nil=>rfl
 | cons b t =>
  have e1:decide (((b::t).length:Int)>=1)=decide ((b::t).length>=1):=decide_eq_decide.2 (by omega);have e2:decide (((b::t).length:Int)<=32)=decide ((b::t).length<=32):=decide_eq_decide.2 (by omega);rw[e1,e2];have g0:gName 0 b=if lowN b.toNat then none else some false:=by
   unfold gName;cases lowN b.toNat<;>rfl
  simp only[bq_,g0,List.headD_cons,List.all_cons];by_cases hl:lowN b.toNat=true
  .rw[scan_name t (0+1) (by omega)];simp only[hl,low_ok hl,if_true,Bool.true_and];cases t.all λb=>okN b.toNat<;>simp
  .have hl':lowN b.toNat=false:=by simpa using hl
   simp[hl']
theorem refPlain_eq{s:Str}(hs:s.length<=9223372036854775807):f2_ s=some (decide (an_ [0,10,13] s=s.length)):=by
 unfold f2_;have h:=dY_ (body:=ef_ s) s (λ_ b=>if([0,10,13]:Str).contains b then some false else none) (bk_ hs) (λi hi=>by
  unfold ef_;rw[cg_ hi,cond_true,dX_ hi];simp only[qBs];have hc:([0,10,13]:Str).contains s[i]=(((s[i].toNat:Int)==0)||(((s[i].toNat:Int)==10)||((s[i].toNat:Int)==13))):=by
   have key:∀k:UInt8,(s[i]==k)=((s[i].toNat:Int)==(k.toNat:Int)):=λk=>by
    rw[Bool.eq_iff_iff,beq_iff_eq,beq_iff_eq];exact⟨λe=>by rw[e],λe=>UInt8.toNat_inj.1 (by omega)⟩
   simp only[List.contains_cons,List.contains_nil,Bool.or_false];rw[key 0,key 10,key 13];rfl
  rw[hc];cases((s[i].toNat:Int)==0)with
  | true=>rfl
  | false =>
   cases((s[i].toNat:Int)==10)with
   | true=>rfl
   | false =>
    cases((s[i].toNat:Int)==13)with
    | true=>rfl
    | false =>
     simp only[cond_false,qBs,Bool.or_false,Bool.false_eq_true,if_false,stepO];rw[aR_ (by omega)]) (by
  unfold ef_;rw[ch_];rfl)
 refine(eS_ (x:=true) h (λr=>rfl) rfl).trans ?_
 congr 1
 have:∀(k:Nat) (t:Str),(bq_ (λ_ b=>if([0,10,13]:Str).contains b then some false else none) k t).getD true=decide (an_ [0,10,13] t=t.length):=by
  intro k t
  induction t generalizing k with
  | nil=>rfl
  | cons b t ih =>
   simp only[bq_,an_,List.takeWhile_cons];cases hb:([0,10,13]:Str).contains b with
   | true=>simp
   | false =>
    simp only[Bool.false_eq_true,if_false,Bool.not_false,if_true,qLc];rw[ih (k+1)];unfold an_;exact decide_eq_decide.2 (by omega)
 exact this 0 s
def c1_(l:List Xq)(a:Xq):Int:=if l.length>=32 then 22 else if !(eI_ a.Xv)then 6 else if a.Xl && !(a.Xg==[])then 2 else if an_ [0,10,13] a.Xg<a.Xg.length then 2 else if a.Xg.length>1024 then 4 else if l.any λb=>b.Xv==a.Xv then 7 else 0
theorem indexFunc_eq(l:List Xq)(p:Xq->Bool)(hl:l.length<=9223372036854775807):aD_ l (λa=>some (p a))=some (at_ p l):=by
 unfold aD_;have h:=dY_ (body:=aU_ l (λa=>some (p a))) l (λi x=>if p x then some ((i:Nat):Int)else none) (bk_ hl) (λi hi=>by
  unfold aU_;rw[cg_ hi,cond_true,bg_ hi];simp only[qBs];cases p l[i]with
  | true=>rfl
  | false =>
   simp only[cond_false,Bool.false_eq_true,if_false,stepO];rw[aR_ (by omega)]) (by
  unfold aU_;rw[ch_];rfl)
 refine(eS_ (x:=(-1:Int)) h (λr=>rfl) rfl).trans ?_;rw[at_getD]
theorem at_any{α:Type}(p:α->Bool)(l:List α):decide (at_ p l>=0)=l.any p:=by
 have:=at_neg p l;have h2:decide (at_ p l>=0) = !(decide (at_ p l<0)):=by
  by_cases h:at_ p l<0
  .rw[decide_eq_true h,decide_eq_false (by omega)];rfl
  .rw[decide_eq_false h,decide_eq_true (by omega)];rfl
 rw[h2,this];cases hf:l.find? p with
 | none =>
  rw[List.find?_eq_none]at hf
  symm;simp only[Option.isNone_none,Bool.not_true,List.any_eq_false];exact hf
 | some x =>
  symm;simp only[Option.isNone_some,Bool.not_false,List.any_eq_true];exact⟨x,List.mem_of_find?_eq_some hf,List.find?_some hf⟩
theorem hK_(l:List Xq)(p:Xq->Bool)(hl:l.length<=9223372036854775807):aJ_ l (λa=>some (p a))=some (l.any p):=by
 unfold aJ_;rw[indexFunc_eq l p hl];simp only[qBs];rw[at_any]
theorem check_eq{l:List Xq}{a:Xq}(hl:l.length<=9223372036854775807)(hn:a.Xv.length<=9223372036854775807)(hv:a.Xg.length<=9223372036854775807):fe_ l a=some (c1_ l a):=by
 unfold fe_ c1_;by_cases h32:l.length>=32
 .rw[decide_eq_true (show(l.length:Int)>=32 by omega),if_pos h32];rfl
 .rw [decide_eq_false (show ¬(l.length:Int)>=32 by omega),if_neg h32,cond_false,isName_eq hn];simp only[qBs];cases eI_ a.Xv with
  | false=>rfl
  | true =>
   simp only[Bool.not_true,cond_false,Bool.false_eq_true,if_false];cases a.Xl && !(a.Xg==[])with
   | true=>rfl
   | false =>
    simp only[cond_false,Bool.false_eq_true,if_false];rw[until_eq hv];simp only[qBs];by_cases hu:an_ [0,10,13] a.Xg<a.Xg.length
    .rw[decide_eq_true (show((an_ [0,10,13] a.Xg:Nat):Int)<(a.Xg.length:Int)by omega),if_pos hu];rfl
    .rw[decide_eq_false (show ¬((an_ [0,10,13] a.Xg:Nat):Int)<(a.Xg.length:Int)by omega),if_neg hu,cond_false];by_cases h1:a.Xg.length>1024
     .rw[decide_eq_true (show(a.Xg.length:Int)>1024 by omega),if_pos h1];rfl
     .rw[decide_eq_false (show ¬(a.Xg.length:Int)>1024 by omega),if_neg h1,cond_false];have:(λ(u1:Xq)=>Option.bind (hn_ u1 a) λ(v1:Bool)=>some v1)=λb=>some (b.Xv==a.Xv):=rfl
      rw[this,hK_ l _ hl];simp only[qBs];cases l.any λb=>b.Xv==a.Xv<;>rfl
theorem refOne_eq {l:List Xq} {a:Xq} (hl:l.length<=9223372036854775807) (hn:a.Xv.length<=9223372036854775807) (hv:a.Xg.length<=9223372036854775807):hG_ l a=some (c1_ l a):=by
 unfold hG_ c1_;by_cases h32:l.length>=32
 .rw[decide_eq_true (show(l.length:Int)>=32 by omega),if_pos h32];rfl
 .rw [decide_eq_false (show ¬(l.length:Int)>=32 by omega),if_neg h32,cond_false,refName_eq hn];simp only[qBs];cases eI_ a.Xv with
  | false=>rfl
  | true =>
   simp only[Bool.not_true,cond_false,Bool.false_eq_true,if_false];cases a.Xl && !(a.Xg==[])with
   | true=>rfl
   | false =>
    simp only[cond_false,Bool.false_eq_true,if_false];rw[refPlain_eq hv];simp only[qBs];have hle:=untilN_le [0,10,13] a.Xg;by_cases hu:an_ [0,10,13] a.Xg<a.Xg.length
    .rw[decide_eq_false (show ¬an_ [0,10,13] a.Xg=a.Xg.length by omega),if_pos hu];rfl
    .rw [decide_eq_true (show an_ [0,10,13] a.Xg=a.Xg.length by omega),if_neg hu];simp only[Bool.not_true,cond_false];by_cases h1:a.Xg.length>1024
     .rw[decide_eq_true (show(a.Xg.length:Int)>1024 by omega),if_pos h1];rfl
     .rw[decide_eq_false (show ¬(a.Xg.length:Int)>1024 by omega),if_neg h1,cond_false];have h:=jl_ (body:=fk_ l a) l (λb => !(b.Xv==a.Xv)) (7:Int) (bk_ hl) (λi hi=>by
       unfold fk_;rw[cg_ hi,cond_true,bg_ hi];simp only[qBs];cases l[i].Xv==a.Xv with
       | true=>rfl
       | false =>
        simp only[cond_false,Bool.not_false,if_true];rw[aR_ (by omega)]) (by
       unfold fk_;rw[ch_];rfl)
      refine ax_ h ?_;have hany:(l.any λb=>b.Xv==a.Xv) = !(l.all λb => !(b.Xv==a.Xv)):=by
       rw[List.all_eq_not_any_not];simp
      rw[hany];cases l.all λb => !(b.Xv==a.Xv)<;>rfl
theorem mG_{α β γ:Type}{body:Int×γ->Option (Step (Int×γ) (Out Unit β))}(c:γ)(xs:List α)(g:Nat->α->Option β)(hn:xs.length<BIG)
  (hb:∀i (h:i<xs.length),body ((i:Int),c)=some (match g i xs[i]with|some r => .done (.ret r)|none => .next (((i+1:Nat):Int),c)))
  (he:body ((xs.length:Int),c)=some (.done (.fall ()))):ah_ body BIG (0,c)=some (outO (bq_ g 0 xs)):=by
 refine jk_ (J:=λi s b=>s=((i:Int),c)/\b=outO (bq_ g i (xs.drop i))) xs.length hn (λs b hJ => ?_) (λi s b hi hJ => ?_) (by simp)
 .obtain⟨rfl,rfl⟩:=hJ;rw[he];simp[bq_,outO]
 .obtain⟨rfl,rfl⟩:=hJ;rw[hb i hi,List.drop_eq_getElem_cons hi];simp only[bq_];cases hg:g i xs[i]with
  | some r=>exact .inl rfl
  | none=>exact .inr ⟨_,rfl,rfl,rfl⟩
structure AttrL(l:List Xq):Prop where
 len:l.length<=9223372036854775807
 nm:∀a∈l,a.Xv.length<=9223372036854775807
 vl:∀a∈l,a.Xg.length<=9223372036854775807
def et_(l:List Xq)(i:Nat)(x:Xq):Option Int:=if c1_ (l.take i) x=0 then none else some (c1_ (l.take i) x)
def aX_(l:List Xq):Int:=(bq_ (et_ l) 0 l).getD 0
theorem kr_{l:List Xq}(h:AttrL l):ff_ l=some (aX_ l):=by
 unfold ff_;have hs:=dY_ (body:=eE_ l) l (et_ l) (bk_ h.len) (λi hi=>by
  unfold eE_;have hm:=List.getElem_mem hi;have hl:=h.len;rw[cg_ hi,cond_true,bg_ hi,dh_ (Int.le_refl 0) (by omega) (by omega)];simp only[qBs,Int.toNat_natCast,Int.toNat_zero,List.drop_zero];rw[check_eq (by rw[List.length_take];omega) (h.nm _ hm) (h.vl _ hm)];simp only[qBs];unfold et_;by_cases h0:c1_ (l.take i) l[i]=0
  .rw[if_pos h0,h0];simp only[bne_self_eq_false,cond_false,stepO];rw[aR_ (by omega)]
  .rw[if_neg h0,show(c1_ (l.take i) l[i] != 0)=true from bne_iff_ne.2 h0];rfl) (by
  unfold eE_;rw[ch_];rfl)
 exact eS_ (x:=(0:Int)) hs (λr=>rfl) rfl
theorem la_{l:List Xq}(h:AttrL l):er_ l=some (aX_ l):=by
 unfold er_;have hs:=dY_ (body:=eg_ l) l (et_ l) (bk_ h.len) (λi hi=>by
  unfold eg_;have hm:=List.getElem_mem hi;have hl:=h.len;rw[cg_ hi,cond_true,bg_ hi,dh_ (Int.le_refl 0) (by omega) (by omega)];simp only[qBs,Int.toNat_natCast,Int.toNat_zero,List.drop_zero];rw[refOne_eq (by rw[List.length_take];omega) (h.nm _ hm) (h.vl _ hm)];simp only[qBs];unfold et_;by_cases h0:c1_ (l.take i) l[i]=0
  .rw[if_pos h0,h0];simp only[bne_self_eq_false,cond_false,stepO];rw[aR_ (by omega)]
  .rw[if_neg h0,show(c1_ (l.take i) l[i] != 0)=true from bne_iff_ne.2 h0];rfl) (by
  unfold eg_;rw[ch_];rfl)
 exact eS_ (x:=(0:Int)) hs (λr=>rfl) rfl
def textE(s:Str):Int:=if s.length>1024 then 4 else if s.contains 10 then 2 else 0
theorem refText_eq(s:Str):gQ_ s=some (textE s):=by
 unfold gQ_ textE;by_cases h:s.length>1024
 .rw[decide_eq_true (show(s.length:Int)>1024 by omega),if_pos h];rfl
 .rw[decide_eq_false (show ¬(s.length:Int)>1024 by omega),if_neg h,cond_false];have hl:=jl_ (body:=eG_ s) s (λb => !(b==10)) (2:Int) (bk_ (by omega)) (λi hi=>by
   unfold eG_;rw[cg_ hi,cond_true,dX_ hi];simp only[qBs];have hc:((s[i].toNat:Int)==10)=(s[i]==10):=by
    rw[Bool.eq_iff_iff,beq_iff_eq,beq_iff_eq];exact⟨λe=>UInt8.toNat_inj.1 (show s[i].toNat=10 by omega),λe=>by rw[e];rfl⟩
   rw[hc];cases s[i]==10 with
   | true=>rfl
   | false =>
    simp only[cond_false,Bool.not_false,if_true];rw[aR_ (by omega)]) (by
   unfold eG_;rw[ch_];rfl)
  refine ax_ hl ?_;have:s.contains 10 = !(s.all λb => !(b==10)):=by
   rw[List.contains_eq_any_beq,List.all_eq_not_any_not];simp only[Bool.not_not]
   congr 1
   funext b
   rw[Bool.eq_iff_iff,beq_iff_eq,beq_iff_eq];exact eq_comm
  rw[this];cases s.all λb => !(b==10)<;>rfl
def f7_(_:Nat)(s:Str):Option Int:=if textE s=0 then none else some (textE s)
def aS_(m:Xz):Int:=(bq_ f7_ 0 [m.Xr,m.Xd,m.Xt,m.Xm]).getD (if aX_ m.Xy=0 then(if m.Xy.any (·.Xl)then 2 else if m.Xn.length>65536 then 4 else 0)else aX_ m.Xy)
theorem ob_{m:Xz}(h:AttrL m.Xy):c7_ m=some (aS_ m):=by
 unfold c7_;have hs:=mG_ (body:=ec_ m) [m.Xr,m.Xd,m.Xt,m.Xm] [m.Xr,m.Xd,m.Xt,m.Xm] f7_ (by unfold BIG;simp) (λi hi=>by
  unfold ec_;rw[cg_ hi,cond_true,bg_ hi];simp only[qBs];generalize([m.Xr,m.Xd,m.Xt,m.Xm]:List Str)[i]=s;unfold f7_ textE;by_cases h1:s.length>1024
  .rw[decide_eq_true (show(s.length:Int)>1024 by omega),if_pos h1];rfl
  .rw[decide_eq_false (show ¬(s.length:Int)>1024 by omega),if_neg h1,cond_false,contains_eq];simp only[qBs];cases s.contains 10 with
   | true=>rfl
   | false =>
    simp only[cond_false,Bool.false_eq_true,if_false,if_true];have hi':i<4:=hi;rw[aR_ (by omega)]) (by
  unfold ec_;rw[ch_];rfl)
 unfold aS_;cases hsc:bq_ f7_ 0 [m.Xr,m.Xd,m.Xt,m.Xm]with
 | some r =>
  rw[hsc]at hs;exact ax_ hs rfl
 | none =>
  rw[hsc]at hs;refine ax_ hs ?_;simp only[outO];rw[kr_ h];simp only[qBs,Option.getD_none];by_cases h0:aX_ m.Xy=0
  .rw[if_pos h0,h0];simp only[bne_self_eq_false,cond_false];unfold eF_;have:(λ(u1:Xq)=>Option.bind (fg_ u1) λ(v1:Bool)=>some v1)=λb=>some b.Xl:=rfl
   rw[this,hK_ _ _ h.len];simp only[qBs];cases m.Xy.any (·.Xl)with
   | true=>rfl
   | false =>
    simp only[cond_false,Bool.false_eq_true,if_false];by_cases h1:m.Xn.length>65536
    .rw[decide_eq_true (show(m.Xn.length:Int)>65536 by omega),if_pos h1];rfl
    .rw[decide_eq_false (show ¬(m.Xn.length:Int)>65536 by omega),if_neg h1];rfl
  .rw[if_neg h0,show(aX_ m.Xy != 0)=true from bne_iff_ne.2 h0];rfl
theorem lD_{m:Xz}(h:AttrL m.Xy):f3_ m=some (aS_ m):=by
 unfold f3_;have hs:=mG_ (body:=eh_) [m.Xr,m.Xd,m.Xt,m.Xm] [m.Xr,m.Xd,m.Xt,m.Xm] f7_ (by unfold BIG;simp) (λi hi=>by
  unfold eh_;rw[cg_ hi,cond_true,bg_ hi];simp only[qBs];generalize([m.Xr,m.Xd,m.Xt,m.Xm]:List Str)[i]=s;rw[refText_eq];simp only[qBs];unfold f7_;by_cases h0:textE s=0
  .rw[if_pos h0,h0];simp only[bne_self_eq_false,cond_false];have hi':i<4:=hi;rw[aR_ (by omega)]
  .rw[if_neg h0,show(textE s != 0)=true from bne_iff_ne.2 h0];rfl) (by
  unfold eh_;rw[ch_];rfl)
 unfold aS_;cases hsc:bq_ f7_ 0 [m.Xr,m.Xd,m.Xt,m.Xm]with
 | some r =>
  rw[hsc]at hs;exact ax_ hs rfl
 | none =>
  rw[hsc]at hs;refine ax_ hs ?_;simp only[outO];rw[la_ h];simp only[qBs,Option.getD_none];by_cases h0:aX_ m.Xy=0
  .rw[if_pos h0,h0];simp only[bne_self_eq_false,cond_false];have hq:=jl_ (body:=ei_ m) m.Xy (λa => !a.Xl) (2:Int) (bk_ h.len) (λi hi=>by
    unfold ei_;have hl:=h.len;rw[cg_ hi,cond_true,bg_ hi];simp only[qBs];cases m.Xy[i].Xl with
    | true=>rfl
    | false =>
     simp only[cond_false,Bool.not_false,if_true];rw[aR_ (by omega)]) (by
    unfold ei_;rw[ch_];rfl)
   refine ax_ hq ?_;have hany:(m.Xy.any (·.Xl)) = !(m.Xy.all λa => !a.Xl):=by
    rw[List.all_eq_not_any_not];simp
   rw[hany];cases m.Xy.all λa => !a.Xl with
   | false=>rfl
   | true =>
    simp only[Bool.not_true,Bool.false_eq_true,if_false,if_true];by_cases h1:m.Xn.length>65536
    .rw[decide_eq_true (show(m.Xn.length:Int)>65536 by omega),if_pos h1];rfl
    .rw[decide_eq_false (show ¬(m.Xn.length:Int)>65536 by omega),if_neg h1];rfl
  .rw[if_neg h0,show(aX_ m.Xy != 0)=true from bne_iff_ne.2 h0];rfl
def dbl(s:Str):Str:=s.flatMap λb=>if b==39 then[39,39]else[b]
theorem kQ_(a b:Str):dbl (a++b)=dbl a++dbl b:=by unfold dbl;rw[List.flatMap_append]
theorem ks_{s:Str}(h:s.contains 39=false):dbl s=s:=by
 induction s with
 | nil=>rfl
 | cons b t ih =>
  rw[List.contains_cons,Bool.or_eq_false_iff]at h;unfold dbl at ih ⊢;rw[List.flatMap_cons,ih h.2];have:(b==39)=false:=by
   rw[beq_eq_false_iff_ne];intro e;rw[e]at h;simp at h
  rw[this];rfl
theorem g2_(s:Str):(dbl s).length<=2*s.length:=by
 induction s with
 | nil=>simp[dbl]
 | cons b t ih =>
  unfold dbl at ih ⊢;rw[List.flatMap_cons,qLa,qLc];by_cases hb:(b==39)=true
  .rw[if_pos hb];simp only[qLc,List.length_nil];omega
  .rw[if_neg hb];simp only[qLc,List.length_nil];omega
theorem h2_{c:UInt8}{s:Str}(h:s.contains c=true):s=s.take (an_ [c] s)++c::s.drop (an_ [c] s+1)/\(s.take (an_ [c] s)).contains c=false/\cC_ s c=((an_ [c] s:Nat):Int)/\an_ [c] s<s.length:=by
 induction s with
 | nil=>cases h
 | cons b t ih =>
  by_cases hb:b=c
  .subst hb;have hu:an_ [b] (b::t)=0:=by
    unfold an_;rw[List.takeWhile_cons];simp
   rw[hu];refine⟨rfl,rfl,?_,by simp⟩;simp[cC_]
  .have h1:(b==c)=false:=beq_eq_false_iff_ne.2 hb;have h2:(c==b)=false:=beq_eq_false_iff_ne.2 λe=>hb e.symm
   rw[List.contains_cons,h2,Bool.false_or]at h;obtain⟨i1,i2,i3,i4⟩:=ih h;have hu:an_ [c] (b::t)=an_ [c] t+1:=by
    unfold an_;rw[List.takeWhile_cons];simp[hb]
   rw[hu];refine⟨?_,?_,?_,by simp only[qLc];omega⟩
   .rw[List.take_succ_cons,List.drop_succ_cons,List.cons_append,←i1]
   .rw[List.take_succ_cons,List.contains_cons,h2,i2];rfl
   .have e:cC_ (b::t) c=if b==c then 0 else if cC_ t c == -1 then -1 else cC_ t c+1:=rfl
    rw[e,h1,i3,show(((an_ [c] t:Nat):Int) == -1)=false from beq_eq_false_iff_ne.2 (by omega)];simp only[Bool.false_eq_true,if_false];omega
theorem kt_{c:UInt8}{s:Str}(h:0<s.count c):s.contains c=true:=by
 rw[List.contains_iff_mem];exact List.count_pos_iff.1 h
theorem mH_{c:UInt8}{s:Str}(h:s.count c=0):s.contains c=false:=by
 cases hc:s.contains c with
 | false=>rfl
 | true =>
  rw[List.contains_iff_mem]at hc;have:=List.count_pos_iff.2 hc;omega
theorem count_none{c:UInt8}{s:Str}(h:s.contains c=false):s.count c=0:=by
 rcases Nat.eq_zero_or_pos (s.count c)with h0|h0
 .exact h0
 .rw[kt_ h0]at h;cases h
theorem lb_(s:Str):bytesS (ba_ s)=s:=by
 unfold bytesS ba_;rw[List.map_map]
 conv=>rhs;rw[←List.map_id s]
 apply List.map_congr_left;intro b _;simp
theorem hp_(a b:Str):ba_ (a++b)=ba_ a++ba_ b:=List.map_append
theorem aF_(s:Str):(ba_ s).length=s.length:=List.length_map _
def bo_(s:Str):Nat->Nat | 0=>0|i+1=>bo_ s i+an_ [39] (s.drop (bo_ s i))+1
theorem posQ_ok{s:Str}:∀(i:Nat),i<=s.count 39->bo_ s i<=s.length/\(s.drop (bo_ s i)).count 39=s.count 39-i
 | 0,_=>⟨Nat.zero_le _,rfl⟩
 | i+1,hi=>by
  obtain⟨h1,h2⟩:=posQ_ok (s:=s) i (by omega);have hc:(s.drop (bo_ s i)).contains 39=true:=kt_ (by omega);obtain⟨k1,k2,_,k4⟩:=h2_ hc;rw[List.length_drop]at k4;simp only[bo_];refine⟨by omega,?_⟩;have e1:s.drop (bo_ s i+an_ [39] (s.drop (bo_ s i))+1)=(s.drop (bo_ s i)).drop (an_ [39] (s.drop (bo_ s i))+1):=by
   rw[List.drop_drop];congr 1
  rw[e1];have h3:=congrArg (List.count 39) k1;rw[List.count_append,count_none k2,List.count_cons_self,h2]at h3;omega
theorem take_next{t:Str}{u:Nat}{c:UInt8}(k1:t=t.take u++c::t.drop (u+1))(hu:u<t.length):t.take (u+1)=t.take u++[c]:=by
 have hl:(t.take u).length=u:=by rw[List.length_take];omega
 have h:=congrArg (List.take (u+1)) k1;rw[List.take_append,hl,List.take_of_length_le (by omega:(t.take u).length<=u+1),show u+1-u=1 by omega]at h;rw[h];simp
theorem dbl_step{s:Str}{p:Nat}(_:p<=s.length)(hc:(s.drop p).contains 39=true):dbl (s.take (p+an_ [39] (s.drop p)+1))=dbl (s.take p)++((s.drop p).take (an_ [39] (s.drop p))++[39,39]):=by
 obtain⟨k1,k2,_,k4⟩:=h2_ hc;have e1:s.take (p+an_ [39] (s.drop p)+1)=s.take p++(s.drop p).take (an_ [39] (s.drop p)+1):=by
  rw[Nat.add_assoc,List.take_add]
 have e2:=take_next k1 k4;rw[e1,e2,kQ_,kQ_,ks_ k2];rfl
theorem oc_{s:Str}(hs:s.length<=1000000000):strings_ReplaceAll s [39] [39,39]=some (dbl s):=by
 have hcl:s.count 39<=s.length:=List.count_le_length;unfold strings_ReplaceAll strings_Replace;have e0:((([39]:Str)==[39,39])||((-1:Int)==0))=false:=rfl;rw[e0,cond_false];have ec:strings_Count s [39]=some ((s.count 39:Nat):Int):=rfl;rw[ec];simp only[qBs];rcases Nat.eq_zero_or_pos (s.count 39)with h0|h0
 .rw[h0,ks_ (mH_ h0)];rfl
 .rw[show(((s.count 39:Nat):Int)==0)=false from beq_eq_false_iff_ne.2 (by omega)];simp only[cond_false,show decide ((-1:Int)<0)=true from rfl,Bool.true_or,cond_true,qBs,qLc,List.length_nil];have eg:growB ([]:List Int) (w64 ((s.length:Int)+w64 (((s.count 39:Nat):Int)*w64 (((0+1+1:Nat):Int)-((0+1:Nat):Int)))))=some []:=by
   rw[c0_ (n:=((0+1+1:Nat):Int)-((0+1:Nat):Int)) ⟨by omega,by omega⟩,c0_ (n:=((s.count 39:Nat):Int)*_) ⟨by omega,by omega⟩,c0_ ⟨by omega,by omega⟩];unfold growB;rw[decide_eq_true (by omega),decide_eq_true (by omega)];rfl
  rw[eg];simp only[qBs];rw[show decide (((0+1:Nat):Int)>0)=true from rfl,cond_true];have hl:=cz_ (body:=b0_ ((s.count 39:Nat):Int) s [39] [39,39]) (λi=>((bo_ s i:Int),(i:Int),ba_ (dbl (s.take (bo_ s i))))) (s.count 39) (bk_ (by omega)) (λi hi=>by
   obtain⟨h1,h2⟩:=posQ_ok (s:=s) i (by omega);have hc:(s.drop (bo_ s i)).contains 39=true:=kt_ (by omega);obtain⟨k1,k2,k3,k4⟩:=h2_ hc;have hd:=dbl_step h1 hc;have hdl:=g2_ (s.take (bo_ s i));rw[List.length_take]at hdl;rw[List.length_drop]at k4;unfold b0_;simp only[];rw[cg_ hi,cond_true,dh_ (by omega) (by omega) (Int.le_refl _)];simp only[qBs,Int.toNat_natCast,List.take_length];unfold strings_Index stringslite_Index;simp only[qBs];rw[k3,c0_ (n:=(bo_ s i:Int)+_) ⟨by omega,by omega⟩,dh_ (by omega) (by omega) (by omega)];simp only[qBs];rw[show((bo_ s i:Int)+((an_ [39] (s.drop (bo_ s i)):Nat):Int)).toNat=bo_ s i+an_ [39] (s.drop (bo_ s i))by omega,Int.toNat_natCast]
   have e3:(s.take (bo_ s i+an_ [39] (s.drop (bo_ s i)))).drop (bo_ s i)=(s.drop (bo_ s i)).take (an_ [39] (s.drop (bo_ s i))):=by
    rw[List.drop_take];congr 1;omega
   rw[e3];have hul:((s.drop (bo_ s i)).take (an_ [39] (s.drop (bo_ s i)))).length<=s.length:=by rw[List.length_take,List.length_drop];omega
   rw[ca_ (by rw[aF_,aF_];omega) (by rw[aF_,aF_];omega)];simp only[qBs];rw[ca_ (by rw[qLa,aF_,aF_,aF_];simp only[qLc,List.length_nil];omega) (by rw[qLa,aF_,aF_,aF_];simp only[qLc,List.length_nil];omega)];simp only[qBs];have e4:bo_ s (i+1)=bo_ s i+an_ [39] (s.drop (bo_ s i))+1:=rfl;rw[aR_ (by omega),e4,hd,hp_,hp_,List.append_assoc];rw[c0_ (n:=_+(([39]:Str).length:Int)) ⟨by simp only[qLc,List.length_nil];omega,by simp only[qLc,List.length_nil];omega⟩];rfl) (by
   unfold b0_;simp only[];rw[ch_];rfl)
  have hl':ah_ (b0_ ((s.count 39:Nat):Int) s [39] [39,39]) BIG (0,0,[])=some ((bo_ s (s.count 39):Int),ba_ (dbl (s.take (bo_ s (s.count 39))))):=hl;rw[hl'];simp only[qBs];obtain⟨h1,h2⟩:=posQ_ok (s:=s) (s.count 39) (Nat.le_refl _);have hc:(s.drop (bo_ s (s.count 39))).contains 39=false:=mH_ (by omega);have hdl:=g2_ (s.take (bo_ s (s.count 39)));rw[List.length_take]at hdl;rw[dh_ (by omega) (by omega) (Int.le_refl _)];simp only[qBs,Int.toNat_natCast,List.take_length];rw[ca_ (by rw[aF_,aF_,List.length_drop];omega) (by rw[aF_,aF_,List.length_drop];omega)];simp only[qBs];rw[←hp_,lb_]
  congr 1
  conv=>rhs;rw[←List.take_append_drop (bo_ s (s.count 39)) s,kQ_,ks_ hc]
def gj_(s:Str):Str:=if s≠[]/\an_ [32,9,39] s=s.length then s else 39::(dbl s++[39])
theorem quote_eq{s:Str}(hs:s.length<=1000000000):gN_ s=some (gj_ s):=by
 unfold gN_ gj_;rw[until_eq (by omega),oc_ hs];have hdl:=g2_ s;by_cases h0:s=[]
 .subst h0;rfl
 .rw[show(s==[])=false from beq_eq_false_iff_ne.2 h0];simp only[Bool.not_false,cond_true,qBs];by_cases hu:an_ [32,9,39] s=s.length
  .rw[hu,if_pos ⟨h0,rfl⟩];simp
  .rw[if_neg λh=>hu h.2,show(((an_ [32,9,39] s:Nat):Int)==(s.length:Int))=false from beq_eq_false_iff_ne.2 (by omega),cond_false,b4_ (by simp only[qLc,List.length_nil];omega)];simp only[qBs];rw[b4_ (by simp only[qLa,qLc,List.length_nil];omega)];simp
theorem until_all(p s:Str):(an_ p s=s.length)↔(s.any λb=>p.contains b)=false:=by
 induction s with
 | nil=>simp[an_]
 | cons b t ih =>
  unfold an_ at ih ⊢;rw[List.takeWhile_cons,List.any_cons];cases hb:p.contains b with
  | true=>simp
  | false =>
   simp only[Bool.not_false,if_true,qLc,Bool.false_or];rw[←ih];omega
theorem u8_int(b k:UInt8):((b.toNat:Int)==(k.toNat:Int))=(b==k):=by
 rw[Bool.eq_iff_iff,beq_iff_eq,beq_iff_eq];exact⟨λe=>UInt8.toNat_inj.1 (by omega),λe=>by rw[e]⟩
def oddB(b:UInt8):Bool:=(b==32)||((b==9)||(b==39))
theorem odd_in(b:UInt8):([32,9,39]:Str).contains b=oddB b:=by
 simp only[oddB,List.contains_cons,List.contains_nil,Bool.or_false]
theorem cA_{α:Type}{l:List α}{i:Nat}(h:i<l.length):l.take (i+1)=l.take i++[l[i]]:=by
 rw[List.take_succ_eq_append_getElem h]
theorem refQuote_eq{s:Str}(hs:s.length<=1000000000):f4_ s=some (gj_ s):=by
 unfold f4_;have hl:=cz_ (body:=de_ s) (λi=>(dbl (s.take i),((s==[])||(s.take i).any oddB),(i:Int))) s.length (bk_ (by omega)) (λi hi=>by
  have hdl:=g2_ (s.take i);rw[List.length_take]at hdl;unfold de_;simp only[];rw[cg_ hi,cond_true,dX_ hi,aR_ (by omega),dh_ (by omega) (by omega) (by omega)];simp only[qBs,Int.toNat_natCast];have e1:(s.take (i+1)).drop i=[s[i]]:=by
   rw[cA_ hi,List.drop_append,List.length_take,show i-min i s.length=0 by omega,List.drop_eq_nil_of_le (by rw[List.length_take];omega)];rfl
  rw[e1,b4_ (by simp only[qLc,List.length_nil];omega)];have k1:((s[i].toNat:Int)==32)=(s[i]==32):=u8_int s[i] 32;have k2:((s[i].toNat:Int)==9)=(s[i]==9):=u8_int s[i] 9;have k3:((s[i].toNat:Int)==39)=(s[i]==39):=u8_int s[i] 39;rw[k1,k2,k3,cA_ hi,kQ_,List.any_append];have k4:dbl [s[i]]=if s[i]==39 then[39,39]else[s[i]]:=by unfold dbl;simp
  rw[k4];have k5:([s[i]].any oddB)=oddB s[i]:=by simp
  rw[k5,←Bool.or_assoc];generalize((s==[])||(s.take i).any oddB)=od;unfold oddB;by_cases h39:s[i]=39
  .rw[h39];simp only[beq_self_eq_true,qBs,cond_true,if_true];rw[b4_ (by simp only[qLa,qLc,List.length_nil];omega)];cases od<;>simp
  .rw[show(s[i]==39)=false from beq_eq_false_iff_ne.2 h39];cases od<;>cases(s[i]==32)<;>cases(s[i]==9)<;>rfl) (by
  unfold de_;simp only[];rw[ch_];rfl)
 have hl':ah_ (de_ s) BIG ([],(s==[]),0)=some (dbl s,((s==[])||s.any oddB)):=by
  have h0:(s==[]||(s.take 0).any oddB)=(s==[]):=by simp
  simp only[List.take_length]at hl;rw[h0]at hl;exact hl
 refine ax_ hl' ?_;have hdl:=g2_ s;unfold gj_;have hu:=until_all [32,9,39] s;have ho:(s.any λb=>([32,9,39]:Str).contains b)=s.any oddB:=by congr 1;funext b;exact odd_in b
 rw[ho]at hu;by_cases h0:s=[]
 .subst h0;rfl
 .rw[show(s==[])=false from beq_eq_false_iff_ne.2 h0];cases hc:s.any oddB with
  | false =>
   rw[if_pos ⟨h0,hu.2 hc⟩];rfl
  | true =>
   rw[if_neg λh=>by rw[hu.1 h.2]at hc;cases hc];simp only[Bool.or_true,cond_true];rw[b4_ (by simp only[qLc,List.length_nil];omega)];simp only[qBs];rw[b4_ (by simp only[qLa,qLc,List.length_nil];omega)];simp
def bC_(sep:Str):List Str->Str | []=>[] | [x]=>x|x::y::l=>x++(sep++bC_ sep (y::l))
theorem ku_(sep x:Str):∀(l:List Str),l≠[]->bC_ sep (l++[x])=bC_ sep l++(sep++x)
 | [],h=>absurd rfl h
 | [y],_=>rfl
 | y::z::l,_=>by
  have ih:=ku_ sep x (z::l) (by simp);simp only[List.cons_append,bC_]at ih ⊢;rw[ih];simp[List.append_assoc]
theorem jp_(sep:Str):∀(l:List Str),(bC_ sep l).length=l.flatten.length+sep.length*(l.length-1)
 | []=>rfl
 | [x]=>by simp[bC_]
 | x::y::l=>by
  have ih:=jp_ sep (y::l);simp only[bC_,qLa,List.flatten_cons,qLc]at ih ⊢;rw[ih];have:sep.length*(l.length+1+1-1)=sep.length+sep.length*(l.length+1-1):=by
   rw[show l.length+1+1-1=(l.length+1-1)+1 by omega,Nat.mul_succ];omega
  rw[this];omega
theorem kv_{l:List Str}{i:Nat}(h:i<l.length):(l.take (i+1)).flatten.length=(l.take i).flatten.length+l[i].length:=by
 rw[cA_ h,List.flatten_append,qLa];simp
theorem dZ_(l:List Str)(i:Nat):(l.take i).flatten.length<=l.flatten.length:=by
 have h:(l.take i++l.drop i).flatten.length=l.flatten.length:=by rw[List.take_append_drop]
 rw[List.flatten_append,qLa]at h;omega
theorem Join_eq{xs:List Str}{sep:Str}(hsep:0<sep.length)(hb:(bC_ sep xs).length<=1000000000)(hn:xs.length<=1000000)(hsb:sep.length<=1000):strings_Join xs sep=some (bC_ sep xs):=by
 have hjl:=jp_ sep xs;unfold strings_Join;rcases Nat.lt_or_ge xs.length 2 with h2|h2
 .match xs,h2 with
  | [],_=>rfl
  | [x],_=>rfl
 .rw[show((xs.length:Int)==0)=false from beq_eq_false_iff_ne.2 (by omega),cond_false,show((xs.length:Int)==1)=false from beq_eq_false_iff_ne.2 (by omega),cond_false,decide_eq_true (show(sep.length:Int)>0 by omega),cond_true];rw[c0_ (n:=(xs.length:Int)-1) ⟨by omega,by omega⟩];have hq:(9223372036854775807:Int).tdiv ((xs.length:Int)-1)>=1000000000000:=by
   rw[Int.tdiv_eq_ediv_of_nonneg (by omega)];exact Int.le_ediv_of_mul_le (by omega) (by omega)
  have hq2:(9223372036854775807:Int).tdiv ((xs.length:Int)-1)<=9223372036854775807:=by
   rw[Int.tdiv_eq_ediv_of_nonneg (by omega)];exact Int.ediv_le_self _ (by omega)
  have eq:quoI .i64 9223372036854775807 ((xs.length:Int)-1)=some ((9223372036854775807:Int).tdiv ((xs.length:Int)-1)):=by
   unfold quoI;rw[if_neg (by omega),wi64_eq ⟨by omega,by omega⟩]
  rw[eq];simp only[qBs];rw[decide_eq_false (show ¬(sep.length:Int)>=(9223372036854775807:Int).tdiv ((xs.length:Int)-1)by omega),cond_false];simp only[qBs];have hm:(sep.length:Int)*((xs.length:Int)-1)=((sep.length*(xs.length-1):Nat):Int):=by
   rw[Int.natCast_mul];congr 1;omega
  have ebase:w64 (0+w64 ((sep.length:Int)*((xs.length:Int)-1)))=((sep.length*(xs.length-1):Nat):Int):=by
   rw[hm,c0_ (n:=((sep.length*(xs.length-1):Nat):Int)) ⟨by omega,by omega⟩,Int.zero_add,c0_ ⟨by omega,by omega⟩]
  rw[ebase];have hl1:=cz_ (body:=cY_ xs) (λi=>(((sep.length*(xs.length-1)+(xs.take i).flatten.length:Nat):Int),(i:Int))) xs.length (bk_ (by omega)) (λi hi=>by
   have f1:=kv_ hi;have f2:=dZ_ xs i;have f3:=dZ_ xs (i+1);unfold cY_;simp only[];rw[cg_ hi,cond_true,bg_ hi];simp only[qBs];rw[c0_ (n:=9223372036854775807-_) ⟨by omega,by omega⟩,decide_eq_false (by omega),cond_false];simp only[qBs];rw[c0_ (n:=_+(xs[i].length:Int)) ⟨by omega,by omega⟩,aR_ (by omega),f1]
   congr 4
   omega) (by
   unfold cY_;simp only[];rw[ch_];rfl)
  have hl1':ah_ (cY_ xs) BIG (((sep.length*(xs.length-1):Nat):Int),0)=some (((sep.length*(xs.length-1)+xs.flatten.length:Nat):Int)):=by
   simp only[List.take_length]at hl1;exact hl1
  rw[hl1'];simp only[qBs];have eg:growB ([]:List Int) ((sep.length*(xs.length-1)+xs.flatten.length:Nat):Int)=some []:=by
   unfold growB;rw[decide_eq_true (by omega),decide_eq_true (by omega)];rfl
  rw[eg];simp only[qBs];have h0:ag_ xs 0=some xs[0]:=bg_ (xs:=xs) (i:=0) (by omega);have hle0:xs[0].length<=xs.flatten.length:=by
   have:=kv_ (l:=xs) (i:=0) (by omega);have:=dZ_ xs (0+1);omega
  rw[h0];simp only[qBs];rw[ca_ (by rw[aF_];simp only[List.length_nil];omega) (by rw[aF_];simp only[List.length_nil];omega)];simp only[qBs,List.nil_append];rw[dh_ (by omega) (by omega) (Int.le_refl _)];simp only[qBs,Int.toNat_natCast,List.take_length];have hdl:(xs.drop (1:Int).toNat).length=xs.length-1:=by rw[List.length_drop];rfl
  have hl2:=cz_ (body:=cZ_ (xs.drop (1:Int).toNat) sep) (λi=>((i:Int),ba_ (bC_ sep (xs.take (i+1))))) (xs.length-1) (bk_ (by omega)) (λi hi=>by
   have hi1:i+1<xs.length:=by omega
   have hlt:i<(xs.drop (1:Int).toNat).length:=by omega
   have f1:=kv_ hi1;have f2:=dZ_ xs (i+1);have f3:=dZ_ xs (i+1+1);have j1:=jp_ sep (xs.take (i+1));have hne:xs.take (i+1)≠[]:=λe=>by
    have:=congrArg List.length e;rw[List.length_take,List.length_nil]at this;omega
   have js:=ku_ sep xs[i+1] (xs.take (i+1)) hne;rw[←cA_ hi1]at js;have hml:sep.length*((xs.take (i+1)).length-1)<=sep.length*(xs.length-1):=Nat.mul_le_mul_left _ (by rw[List.length_take];omega);unfold cZ_;simp only[];rw[cg_ hlt,cond_true,bg_ hlt];simp only[qBs];rw[ca_ (by rw[aF_,aF_];omega) (by rw[aF_,aF_];omega)];simp only[qBs];have e5:(xs.drop (1:Int).toNat)[i]=xs[i+1]:=by
    rw[List.getElem_drop]
    congr 1
    show 1+i=i+1;omega
   rw[e5,ca_ (by rw[qLa,aF_,aF_,aF_];omega) (by rw[qLa,aF_,aF_,aF_];omega)];simp only[qBs];rw[aR_ (by omega),js,hp_,hp_,List.append_assoc]) (by
   unfold cZ_;simp only[];rw[hdl,ch_];rfl)
  have hl2':ah_ (cZ_ (xs.drop (1:Int).toNat) sep) BIG (0,ba_ xs[0])=some (ba_ (bC_ sep (xs.take (xs.length-1+1)))):=by
   have e6:bC_ sep (xs.take (0+1))=xs[0]:=by
    rw[cA_ (show 0<xs.length by omega)];rfl
   simp only[e6]at hl2;exact hl2
  rw[hl2'];simp only[qBs];rw[lb_,show xs.length-1+1=xs.length by omega,List.take_length]
def dq_(a:Xq):Str:=if a.Xl then a.Xv++[63]else a.Xv++(61::gj_ a.Xg)
def iw_(l:List Xq):Str:=bC_ [32] (l.map dq_)
theorem jq_(s:Str):(gj_ s).length<=2*s.length+2:=by
 unfold gj_;have:=g2_ s;split
 .omega
 .simp only[qLc,qLa,List.length_nil];omega
theorem eu_{l:List Xq}{a:Xq}(h:c1_ l a=0):l.length<32/\eI_ a.Xv=true/\(a.Xl=true->a.Xg=[])/\an_ [0,10,13] a.Xg=a.Xg.length/\a.Xg.length<=1024/\(l.any λb=>b.Xv==a.Xv)=false:=by
 unfold c1_ at h;split at h
 .cases h
 .rename_i h1;split at h
  .cases h
  .rename_i h2;split at h
   .cases h
   .rename_i h3;split at h
    .cases h
    .rename_i h4;split at h
     .cases h
     .rename_i h5;split at h
      .cases h
      .rename_i h6;have:=untilN_le [0,10,13] a.Xg;refine⟨by omega,by simpa using h2,λhq => ?_,by omega,by omega,by simpa using h6⟩;rw[hq]at h3;simpa using h3
theorem od_{l:List Xq}:aX_ l=0↔∀i (h:i<l.length),c1_ (l.take i) l[i]=0:=by
 unfold aX_;constructor
 .intro h i hi;cases hs:bq_ (et_ l) 0 l with
  | none =>
   have:=scan_none.1 hs i l[i] (List.getElem?_eq_getElem hi);rw[Nat.zero_add]at this;unfold et_ at this;split at this
   .rename_i h0;exact h0
   .cases this
  | some r =>
   rw[hs]at h;obtain⟨j,x,h1,h2,_⟩:=kq_ hs;unfold et_ at h2;split at h2
   .cases h2
   .rename_i h0;have e:=qSj h2;rw[Option.getD_some]at h;omega
 .intro h;have:bq_ (et_ l) 0 l=none:=scan_none.2 λi x hx=>by
   obtain⟨hi,rfl⟩:=List.getElem?_eq_some_iff.1 hx;unfold et_;rw[Nat.zero_add,if_pos (h i hi)]
  rw[this];rfl
theorem kw_{s:Str}(h:eI_ s=true):s.length<=33:=by
 unfold eI_ at h;simp only[qAn,decide_eq_true_eq]at h;have h2:=h.2.1;unfold trimB at h2;split at h2
 .rw[List.length_drop]at h2;omega
 .omega
structure AttrOK(l:List Xq):Prop where
 len:l.length<=32
 nm:∀a∈l,eI_ a.Xv=true
 qv:∀a∈l,a.Xl=true->a.Xg=[]
 pl:∀a∈l,an_ [0,10,13] a.Xg=a.Xg.length
 vl:∀a∈l,a.Xg.length<=1024
theorem gk_{l:List Xq}(h:aX_ l=0):AttrOK l:=by
 rw[od_]at h;have key:∀a∈l,∃m,c1_ m a=0:=λa ha=>by
  obtain⟨i,hi,rfl⟩:=List.getElem_of_mem ha;exact⟨_,h i hi⟩
 refine⟨?_,λa ha => ?_,λa ha => ?_,λa ha => ?_,λa ha => ?_⟩
 .rcases Nat.lt_or_ge 32 l.length with h1|h1
  .have:=(eu_ (h 32 h1)).1;rw[List.length_take]at this;omega
  .exact h1
 .obtain⟨m,hm⟩:=key a ha;exact(eu_ hm).2.1
 .obtain⟨m,hm⟩:=key a ha;exact(eu_ hm).2.2.1
 .obtain⟨m,hm⟩:=key a ha;exact(eu_ hm).2.2.2.1
 .obtain⟨m,hm⟩:=key a ha;exact(eu_ hm).2.2.2.2.1
theorem wordA_len{a:Xq}(h1:eI_ a.Xv=true)(h2:a.Xg.length<=1024):(dq_ a).length<=2100:=by
 have h3:=kw_ h1;have h4:=jq_ a.Xg;unfold dq_;split
 .simp only[qLa,qLc,List.length_nil];omega
 .simp only[qLa,qLc];omega
theorem kx_:∀{l:List Xq},(∀a∈l,(dq_ a).length<=2100)->(bC_ [32] (l.map dq_)).length<=2101*l.length
 | [],_=>by simp[bC_]
 | [a],h=>by
  have:=h a (by simp);simp only[List.map_cons,List.map_nil,bC_,qLc,List.length_nil];omega
 | a::b::l,h=>by
  have h1:=h a (by simp);have ih:=kx_ (l:=b::l) λx hx=>h x (List.mem_cons_of_mem _ hx)
  simp only[List.map_cons,bC_,qLa,qLc,List.length_nil]at ih ⊢;omega
theorem AttrOK.word{l:List Xq}(h:AttrOK l):∀a∈l,(dq_ a).length<=2100:=λa ha=>wordA_len (h.nm a ha) (h.vl a ha)
theorem AttrOK.take{l:List Xq}(h:AttrOK l)(i:Nat):AttrOK (l.take i):=by
 have hm:∀a∈l.take i,a∈l:=λa ha=>List.mem_of_mem_take ha
 exact⟨by rw[List.length_take];have:=h.len;omega,λa ha=>h.nm a (hm a ha),λa ha=>h.qv a (hm a ha),λa ha=>h.pl a (hm a ha),λa ha=>h.vl a (hm a ha)⟩
theorem jr_{l:List Xq}(h:AttrOK l):(iw_ l).length<=67232:=by
 have h1:=kx_ h.word;have h2:=h.len;unfold iw_;omega
theorem attrPrint_eq{l:List Xq}(h:AttrL l):gO_ l=some (if aX_ l=0 then(iw_ l,0)else([],aX_ l)):=by
 unfold gO_;rw[kr_ h];simp only[qBs];by_cases h0:aX_ l=0
 .have hk:=gk_ h0;have hlen:=hk.len;rw[if_pos h0,h0];simp only[bne_self_eq_false,cond_false];rw[makeI_eq (by omega) (by omega) (by omega)];simp only[qBs];have hl:=cz_ (body:=dt_ l) (λi=>((i:Int),(l.take i).map dq_)) l.length (bk_ (by omega)) (λi hi=>by
   have hm:=List.getElem_mem hi;have hnl:=kw_ (hk.nm _ hm);have hvl:=hk.vl _ hm;have hql:=jq_ l[i].Xg;unfold dt_;simp only[];rw[cg_ hi,cond_true,bg_ hi];simp only[qBs];rw[cA_ hi,List.map_append,List.map_cons,List.map_nil];have hwd:dq_ l[i]=if l[i].Xl then l[i].Xv++[63]else l[i].Xv++(61::gj_ l[i].Xg):=rfl
   rw[hwd];cases l[i].Xl with
   | true =>
    rw[cond_true,b4_ (by simp only[qLc,List.length_nil];omega)];simp only[qBs];rw[ca_ (by rw[List.length_map,List.length_take];simp only[qLc,List.length_nil];omega) (by rw[List.length_map,List.length_take];simp only[qLc,List.length_nil];omega),aR_ (by omega)];rfl
   | false =>
    rw[cond_false,b4_ (by simp only[qLc,List.length_nil];omega)];simp only[qBs];rw[quote_eq (by omega)];simp only[qBs];rw[b4_ (by simp only[qLa,qLc,List.length_nil];omega)];simp only[qBs];rw[ca_ (by rw[List.length_map,List.length_take];simp only[qLc,List.length_nil];omega) (by rw[List.length_map,List.length_take];simp only[qLc,List.length_nil];omega),aR_ (by omega)];simp) (by
   unfold dt_;simp only[];rw[ch_];rfl)
  have hl':ah_ (dt_ l) BIG (0,[])=some (l.map dq_):=by
   simp only[List.take_length]at hl;exact hl
  rw[hl'];simp only[qBs];have hpl:=jr_ hk;rw[Join_eq (by simp) (by unfold iw_ at hpl;omega) (by rw[List.length_map];omega) (by simp)];rfl
 .rw[if_neg h0,show(aX_ l != 0)=true from bne_iff_ne.2 h0];rfl
theorem refPrint_eq{l:List Xq}(h:AttrL l):f5_ l=some (if aX_ l=0 then(iw_ l,0)else([],aX_ l)):=by
 unfold f5_;rw[la_ h];simp only[qBs];by_cases h0:aX_ l=0
 .have hk:=gk_ h0;have hlen:=hk.len;rw[if_pos h0,h0];simp only[bne_self_eq_false,cond_false];have hl:=cz_ (body:=df_ l) (λi=>(bC_ [32] ((l.take i).map dq_),(i:Int))) l.length (bk_ (by omega)) (λi hi=>by
   have hm:=List.getElem_mem hi;have hnl:=kw_ (hk.nm _ hm);have hvl:=hk.vl _ hm;have hql:=jq_ l[i].Xg;have hj:=kx_ (l:=l.take i) (hk.take i).word;rw[List.length_take]at hj;have hsep:∃o3,(bif decide ((i:Int)>0)then(cat (bC_ [32] ((l.take i).map dq_)) [32]).bind λy13=>some y13 else some (bC_ [32] ((l.take i).map dq_)))=some o3/\o3.length<=70000/\∀w,bC_ [32] ((l.take i).map dq_++[w])=o3++w:=by
    cases i with
    | zero=>exact⟨[],rfl,by simp,λw=>rfl⟩
    | succ i =>
     rw[decide_eq_true (show((i+1:Nat):Int)>0 by omega),cond_true,b4_ (by simp only[qLc,List.length_nil];omega)];refine⟨_,rfl,by simp only[qLa,qLc,List.length_nil];omega,λw => ?_⟩;rw[ku_ _ _ _ (λe=>by
      have:=congrArg List.length e;rw[List.length_map,List.length_take,List.length_nil]at this;omega),List.append_assoc]
   obtain⟨o3,ho,hol,hw⟩:=hsep;unfold df_;simp only[];rw[cg_ hi,cond_true,bg_ hi,ho];simp only[qBs];rw[cA_ hi,List.map_append,List.map_cons,List.map_nil,hw];unfold dq_;cases l[i].Xl with
   | true =>
    rw[cond_true,b4_ (by omega)];simp only[qBs];rw[b4_ (by simp only[qLa,qLc,List.length_nil];omega),aR_ (by omega)];simp
   | false =>
    rw[cond_false,b4_ (by omega)];simp only[qBs];rw[b4_ (by simp only[qLa,qLc,List.length_nil];omega)];simp only[qBs];rw[refQuote_eq (by omega)];simp only[qBs];rw[b4_ (by simp only[qLa,qLc,List.length_nil];omega),aR_ (by omega)];simp) (by
   unfold df_;simp only[];rw[ch_];rfl)
  have hl':ah_ (df_ l) BIG ([],0)=some (bC_ [32] (l.map dq_)):=by
   simp only[List.take_length]at hl;exact hl
  rw[hl'];rfl
 .rw[if_neg h0,show(aX_ l != 0)=true from bne_iff_ne.2 h0];rfl
theorem mI_{σ β:Type}{body:σ->Option (Step σ β)}{b:β}:∀{n m:Nat} {s:σ},ah_ body n s=some b->n<=m->ah_ body m s=some b
 | 0,_,_,h,_=>by cases h
 | n+1,0,_,_,hm=>by omega
 | n+1,m+1,s,h,hm=>by
  simp only[ah_]at h ⊢;cases hb:body s with
  | none=>rw[hb]at h;cases h
  | some x =>
   rw[hb]at h;cases x with
   | done b'=>exact h
   | next s'=>exact mI_ (n:=n) (m:=m) (s:=s') h (by omega)
theorem text_eq{n:Int}(h0:0<=n)(h1:n<=9223372036854775807):ja_ n 10=some (digF 20 n.toNat):=by
 unfold ja_;exact ax_ (a:=true) rfl (dv_ rfl (ax_ (by unfold cj_;rw[if_pos ⟨rfl,h0,h1⟩]) rfl))
theorem mJ_(u:Nat)(s:Str)(hu:u<=9223372036854775807)(hs:s.length<=1000)(hc:(decide (-(u:Int)<0)||(s==[]))=true):b9_ 10 (-(u:Int),s)=some (.next (-((u/10:Nat):Int),UInt8.ofNat (48+u%10)::s)):=by
 unfold b9_;have hd:u%10<10:=Nat.mod_lt _ (by omega);have e1:remI (-(u:Int)) 10=some (-((u%10:Nat):Int)):=by
  unfold remI;rw[if_neg (by decide),Int.neg_tmod,Int.tmod_eq_emod_of_nonneg (by omega)];rfl
 have e2:quoI .i64 (-(u:Int)) 10=some (-((u/10:Nat):Int)):=by
  unfold quoI;rw[if_neg (by decide),Int.neg_tdiv,Int.tdiv_eq_ediv_of_nonneg (by omega),wi64_eq ⟨by omega,by omega⟩];rfl
 refine cond_t hc (ax_ e1 (ax_ (a:=[UInt8.ofNat (48+u%10)]) ?_ (ax_ (a:=UInt8.ofNat (48+u%10)::s) ?_ (ax_ e2 rfl))))
 .generalize u%10=d at hd;have h:d=0\/d=1\/d=2\/d=3\/d=4\/d=5\/d=6\/d=7\/d=8\/d=9:=by omega
  rcases h with rfl|rfl|rfl|rfl|rfl|rfl|rfl|rfl|rfl|rfl<;>rfl
 .rw[b4_ (by simp;omega)];rfl
theorem ky_(f u:Nat):digF (f+1) u=if u<10 then[UInt8.ofNat (48+u)]else digF f (u/10)++[UInt8.ofNat (48+u%10)]:=rfl
theorem lc_:∀(f u:Nat) (s:Str),u<10^f->u<=9223372036854775807->s≠[]->s.length+f<=1000->ah_ (b9_ 10) (f+1) (-(u:Int),s)=some ((if u=0 then[]else digF f u)++s)
 | 0,u,s,h,_,hs,_=>by
  have:u=0:=by simpa using h
  subst this;refine gU_ ?_;unfold b9_;refine dv_ ?_ rfl;cases s with
  | nil=>exact absurd rfl hs
  | cons a l=>rfl
 | f+1,u,s,h,hu,hs,hl=>by
  by_cases h0:u=0
  .subst h0;rw[if_pos rfl];refine gU_ ?_;unfold b9_;refine dv_ ?_ rfl;cases s with
   | nil=>exact absurd rfl hs
   | cons a l=>rfl
  .rw[if_neg h0];have hc:(decide (-(u:Int)<0)||(s==[]))=true:=by
    have:decide (-(u:Int)<0)=true:=by simp;omega
    rw[this];rfl
   refine jm_ (mJ_ u s hu (by omega) hc) ((lc_ f (u/10) (UInt8.ofNat (48+u%10)::s) (by rw[Nat.pow_succ]at h;omega) (by omega) (by simp) (by simp;omega)).trans ?_);rw[ky_ f u];by_cases h1:u<10
   .rw[if_pos h1,if_pos (by omega),Nat.mod_eq_of_lt h1];rfl
   .rw[if_neg h1,if_neg (by omega)];simp
theorem ref_text_eq{n:Int}(h0:0<=n)(h1:n<=9223372036854775807):gS_ n 10=some (digF 20 n.toNat):=by
 obtain⟨u,rfl⟩:∃u:Nat,n=(u:Int):=⟨n.toNat,by omega⟩;rw[Int.toNat_natCast];unfold gS_ fl_;refine ax_ (a:=true) rfl (dv_ rfl (dv_ (by simp) ?_));rw[c0_ ⟨by omega,by omega⟩,Int.zero_sub];have hstep:=mJ_ u [] (by omega) (by simp) (by simp);have hrest:=lc_ 19 (u/10) [UInt8.ofNat (48+u%10)] (by omega) (by omega) (by simp) (by simp);have h:=mI_ (jm_ hstep hrest) (show 19+1+1<=BIG by decide);refine ax_ (ax_ h rfl) (congrArg some ?_);rw[show digF 20 u=_ from ky_ 19 u];by_cases h2:u<10
 .rw[if_pos h2,if_pos (by omega),Nat.mod_eq_of_lt h2];rfl
 .rw[if_neg h2,if_neg (by omega)]
theorem lE_:∀(f u:Nat),(digF f u).length<=f
 | 0,_=>Nat.le_refl _
 | f+1,u=>by
  rw[ky_];split
  .simp
  .have:=lE_ f (u/10);rw[qLa];simp only[qLc,List.length_nil];omega
def aO_(m:Xz):Str:=bC_ [10] [m.Xr,m.Xd,m.Xt,m.Xm,iw_ m.Xy,digF 20 m.Xn.length,m.Xn]
theorem f8_{m:Xz}(h:aS_ m=0):(∀s∈[m.Xr,m.Xd,m.Xt,m.Xm],s.length<=1024/\s.contains 10=false)/\aX_ m.Xy=0/\m.Xy.any (·.Xl)=false/\m.Xn.length<=65536:=by
 unfold aS_ at h;cases hs:bq_ f7_ 0 [m.Xr,m.Xd,m.Xt,m.Xm]with
 | some r =>
  rw[hs,Option.getD_some]at h;obtain⟨i,x,h1,h2,_⟩:=kq_ hs;unfold f7_ at h2;split at h2
  .cases h2
  .rename_i h0;have:=qSj h2;omega
 | none =>
  rw[hs,Option.getD_none]at h;have key:=scan_none.1 hs;refine⟨λs hm => ?_,?_⟩
  .obtain⟨i,hi⟩:=List.mem_iff_getElem?.1 hm;have h3:=key i s hi;unfold f7_ at h3;split at h3
   .rename_i h4;unfold textE at h4;split at h4
    .cases h4
    .split at h4
     .cases h4
     .rename_i h5 h6;exact⟨by omega,by simpa using h6⟩
   .cases h3
  .split at h
   .rename_i h0;refine⟨h0,?_⟩;split at h
    .cases h
    .rename_i h1;split at h
     .cases h
     .rename_i h2;exact⟨by simpa using h1,by omega⟩
   .rename_i h0;exact absurd h h0
theorem printM_len{m:Xz}(h:aS_ m=0):(aO_ m).length<=150000:=by
 obtain⟨h1,h2,_,h4⟩:=f8_ h;have a1:=(h1 m.Xr (by simp)).1;have a2:=(h1 m.Xd (by simp)).1;have a3:=(h1 m.Xt (by simp)).1;have a4:=(h1 m.Xm (by simp)).1;have a5:=jr_ (gk_ h2);have a6:=lE_ 20 m.Xn.length;unfold aO_;rw[jp_];simp only[List.flatten_cons,List.flatten_nil,qLa,qLc,List.length_nil];omega
theorem gq_{m:Xz}(h:AttrL m.Xy):cx_ m=some (if aS_ m=0 then(aO_ m,0)else([],aS_ m)):=by
 unfold cx_;rw[ob_ h];simp only[qBs];by_cases h0:aS_ m=0
 .have h1:=f8_ h0;rw[if_pos h0,h0];simp only[bne_self_eq_false,cond_false];rw[attrPrint_eq h,if_pos h1.2.1];simp only[qBs,bne_self_eq_false,cond_false];rw[text_eq (by omega) (by have:=h1.2.2.2;omega)];simp only[qBs,Int.toNat_natCast];have hl:=printM_len h0;unfold aO_ at hl;rw[Join_eq (by simp) (by omega) (by simp) (by simp)];rfl
 .rw[if_neg h0,show(aS_ m != 0)=true from bne_iff_ne.2 h0];rfl
theorem lF_{m:Xz}(h:AttrL m.Xy):f6_ m=some (if aS_ m=0 then(aO_ m,0)else([],aS_ m)):=by
 unfold f6_;rw[lD_ h];simp only[qBs];by_cases h0:aS_ m=0
 .have h1:=f8_ h0;rw[if_pos h0,h0];simp only[bne_self_eq_false,cond_false];rw[refPrint_eq h,if_pos h1.2.1];have a1:=(h1.1 m.Xr (by simp)).1;have a2:=(h1.1 m.Xd (by simp)).1;have a3:=(h1.1 m.Xt (by simp)).1;have a4:=(h1.1 m.Xm (by simp)).1;have a5:=jr_ (gk_ h1.2.1);have a6:=lE_ 20 m.Xn.length;have a7:=h1.2.2.2;have ht:=ref_text_eq (n:=(m.Xn.length:Int)) (by omega) (by omega);rw[Int.toNat_natCast]at ht;rw[ht];simp only[qBs]
  repeat (rw[b4_ (by simp only[qLa,qLc,List.length_nil];omega)];simp only[qBs])
  unfold aO_;simp[bC_]
 .rw[if_neg h0,show(aS_ m != 0)=true from bne_iff_ne.2 h0];rfl
theorem loop_ex{σ β:Type}{body:σ->Option (Step σ β)}(I:Nat->σ->Prop)(Q:β->Prop)(n:Nat)
  (hs:∀i s,i<n->I i s->(∃s',body s=some (.next s')/\I (i+1) s')\/∃b,body s=some (.done b)/\Q b)
  (he:∀s,I n s->∃b,body s=some (.done b)/\Q b):∀(f i:Nat) (s:σ),n-i<f->i<=n->I i s->∃b,ah_ body f s=some b/\Q b
 | 0,_,_,h,_,_=>absurd h (Nat.not_lt_zero _)
 | f+1,i,s,hf,hi,hI=>by
  rcases Nat.lt_or_ge i n with h|h
  .rcases hs i s h hI with⟨s',e,hI'⟩|⟨b,e,hQ⟩
   .obtain⟨b,hb,hQ⟩:=loop_ex I Q n hs he f (i+1) s' (by omega) h hI';exact⟨b,jm_ e hb,hQ⟩
   .exact⟨b,gU_ e,hQ⟩
  .have hn:i=n:=Nat.le_antisymm hi h;subst hn;obtain⟨b,e,hQ⟩:=he s hI;exact⟨b,gU_ e,hQ⟩
theorem loop_ex0{σ β:Type}{body:σ->Option (Step σ β)}(I:Nat->σ->Prop)(Q:β->Prop)(n:Nat)(hn:n<BIG)
  (hs:∀i s,i<n->I i s->(∃s',body s=some (.next s')/\I (i+1) s')\/∃b,body s=some (.done b)/\Q b)
  (he:∀s,I n s->∃b,body s=some (.done b)/\Q b) {s:σ} (h:I 0 s):∃b,ah_ body BIG s=some b/\Q b :=
 loop_ex I Q n hs he BIG 0 s (by omega) (Nat.zero_le _) h
structure ShortM(m:Xz):Prop where (attrs:m.Xy.length<=40) (data:m.Xn.length<=70000)
theorem short_ex{m:Xz}(h:AttrL m.Xy):∃b,f1_ m=some b/\(b=true->ShortM m):=by
 unfold f1_;cases hc:(((((decide ((m.Xr.length:Int)>1100))||(decide ((m.Xd.length:Int)>1100)))||(decide ((m.Xt.length:Int)>1100)))||(decide ((m.Xm.length:Int)>1100)))||(decide ((m.Xy.length:Int)>40)))||(decide ((m.Xn.length:Int)>70000))with
 | true=>exact⟨false,rfl,λe=>nomatch e⟩
 | false =>
  simp only[Bool.or_eq_false_iff,decide_eq_false_iff_not]at hc;obtain⟨b,hb,-⟩:=loop_ex0 (body:=ee_ m) (λi s=>s=(i:Int)) (λ_=>True) m.Xy.length (bk_ h.len) (λi s hi hs=>by
   subst hs;unfold ee_;rw[cg_ hi,cond_true,bg_ hi];simp only[qBs];cases decide ((m.Xy[i].Xv.length:Int)>1100)with
   | true=>exact .inr ⟨_,rfl,trivial⟩
   | false =>
    simp only[cond_false,qBs];cases decide ((m.Xy[i].Xg.length:Int)>1100)with
    | true=>exact .inr ⟨_,rfl,trivial⟩
    | false=>exact .inl ⟨_,rfl,aR_ (by have:=h.len;omega)⟩) (λs hs=>by
   subst hs;unfold ee_;rw[ch_];exact⟨_,rfl,trivial⟩) rfl
  have hs:ShortM m:=⟨by omega,by omega⟩;simp only[cond_false];rw[show(0:Int)=((0:Nat):Int)from rfl,hb];cases b with
  | ret r=>exact⟨r,rfl,λ_=>hs⟩
  | fall _=>exact⟨true,rfl,λ_=>hs⟩
structure OwnP(p:Xx):Prop where
 rules:p.Xb.length<=100000000
 lines:∀r∈p.Xb,r.Xo.length<=100000000
 ports:p.Xj.length<=1000
 queue:∀x∈p.Xj,x.Xf.length<=1000
 attrs:∀x∈p.Xj,∀m∈x.Xf,m.Xy.length<=1000000
theorem clone_eq{m:Xz}(h:m.Xy.length<=1000000):bL_ m=some m:=by
 unfold bL_ aE_;rw[clone_any (by omega) (by omega)];rfl
theorem own_queue{x:Xk}(hq:x.Xf.length<=1000)(ha:∀m∈x.Xf,m.Xy.length<=1000000):ah_ (bQ_ x) BIG (0,x.Xv,x.Xp,[])=some (x.Xv,x.Xp,x.Xf):=by
 have h:=cz_ (body:=bQ_ x) (λi=>((i:Int),x.Xv,x.Xp,x.Xf.take i)) x.Xf.length (bk_ (by omega)) (b:=(x.Xv,x.Xp,x.Xf)) (λi hi=>by
  unfold bQ_;simp only[];rw[cg_ hi,cond_true,bg_ hi];simp only[qBs];rw[clone_eq (ha _ (List.getElem_mem hi))];simp only[qBs];rw[ca_ (by simp only[List.length_take,List.length_singleton];omega) (by simp only[List.length_take,List.length_singleton];omega)];simp only[qBs];rw[aR_ (by omega),cA_ hi]) (by
  unfold bQ_;simp only[];rw[ch_,List.take_length];rfl)
 exact h
theorem own_eq{p:Xx}(h:OwnP p):br_ p=some p:=by
 have h1:=cz_ (body:=bB_ p) (λi=>((i:Int),p.Xb.take i,([]:List Xk))) p.Xb.length (bk_ (by have:=h.rules;omega)) (b:=(p.Xb,[])) (λi hi=>by
  have hr:=h.rules;unfold bB_ aY_;simp only[];rw[cg_ hi,cond_true,bg_ hi];simp only[qBs];have hl:=h.lines _ (List.getElem_mem hi);rw[clone_any (by omega) (by omega)];simp only[qBs];rw[ca_ (by simp only[List.length_take,List.length_singleton];omega) (by simp only[List.length_take,List.length_singleton];omega)];simp only[qBs];rw[aR_ (by omega),cA_ hi]) (by
  unfold bB_;simp only[];rw[ch_,List.take_length];rfl)
 have h2:=cz_ (body:=cB_ p) (λi=>((i:Int),p.Xb,p.Xj.take i)) p.Xj.length (bk_ (by have:=h.ports;omega)) (b:=(p.Xb,p.Xj)) (λi hi=>by
  have hr:=h.ports;unfold cB_;simp only[];rw[cg_ hi,cond_true,bg_ hi];simp only[qBs];rw[own_queue (h.queue _ (List.getElem_mem hi)) (h.attrs _ (List.getElem_mem hi))];simp only[qBs];rw[ca_ (by simp only[List.length_take,List.length_singleton];omega) (by simp only[List.length_take,List.length_singleton];omega)];simp only[qBs];rw[aR_ (by omega),cA_ hi]) (by
  unfold cB_;simp only[];rw[ch_,List.take_length];rfl)
 unfold br_;exact ax_ h1 (ax_ h2 rfl)
def fitsB(m:Xz):Bool:=decide (aS_ m=0)&&decide ((aO_ m).length<=65536)
theorem fits_eq{m:Xz}(h:AttrL m.Xy):b1_ m=some (fitsB m):=by
 unfold b1_ fitsB;refine ax_ (gq_ h) ?_;by_cases h0:aS_ m=0
 .rw[if_pos h0,decide_eq_true h0,Bool.true_and];simp only[beq_self_eq_true,Bool.true_and]
  congr 1
  by_cases h1:(aO_ m).length<=65536
  .rw[decide_eq_true h1,decide_eq_true (by omega)]
  .rw[decide_eq_false h1,decide_eq_false (by omega)]
 .rw[if_neg h0,decide_eq_false h0];simp only[beq_eq_false_iff_ne.2 h0,Bool.false_and]
theorem idxP_eq{l:List Xk}{f:Xk->Option Bool}{p:Xk->Bool}(hl:l.length<=9223372036854775807)(hf:∀m∈l,f m=some (p m)):aq_ l f=some (at_ p l):=by
 unfold aq_;have hs:=dY_ (body:=aV_ l f) l (λi x=>if p x then some ((i:Nat):Int)else none) (bk_ hl) (λi hi=>by
  unfold aV_;rw[cg_ hi,cond_true,bg_ hi];simp only[qBs];rw[hf _ (List.getElem_mem hi)];simp only[qBs];cases p l[i]with
  | true=>rfl
  | false =>
   simp only[cond_false,Bool.false_eq_true,if_false,stepO];rw[aR_ (by omega)]) (by
  unfold aV_;rw[ch_];rfl)
 rw[←at_getD];exact eS_ (x:=(-1:Int)) hs (λr=>rfl) rfl
def existsB(p:Xx)(id:Int):Bool:=decide (id>=1)&&decide (id<((4+p.Xj.length:Nat):Int))
theorem w_four{p:Xx}(h:p.Xj.length<=1000):w64 (4+(p.Xj.length:Int))=((4+p.Xj.length:Nat):Int):=by
 rw[c0_ ⟨by omega,by omega⟩];omega
theorem exists_eq{p:Xx}(h:p.Xj.length<=1000)(id:Int):bR_ p id=some (existsB p id):=by
 unfold bR_ existsB;rw[w_four h]
def nameIs(s:Str)(x:Xk):Bool:=x.Xv==s
noncomputable section
def ej_(v:Xz×Str×Bool)(m:Xz):Xz×Str:=bif v.2.2 then(v.1,v.2.1)else(m,m.Xd)
theorem target_ok{v:Xz×Str×Bool}(hv:v.2.2=true->AttrL v.1.Xy/\aS_ v.1=0){m:Xz}(h:AttrL m.Xy)(h0:aS_ m=0):AttrL (ej_ v m).1.Xy/\aS_ (ej_ v m).1=0:=by
 unfold ej_;cases hr:v.2.2 with
 | true=>exact hv hr
 | false=>exact⟨h,h0⟩
def placeV(p:Xx)(i:Nat)(x:Xk)(n:Xz):Xx×Int:=bif(x.Xp==0)then(p,51)else bif decide (65536<(aO_ n).length)then(p,4)else bif decide (64<=x.Xf.length)then(p,22)else(Xx.mk p.Xb (p.Xj.set i (Xk.mk x.Xv (x.Xf++[n]) x.Xp)),0)
def sendW(p:Xx)(m:Xz)(v:Xz×Str×Bool):Xx×Int :=
 bif aS_ m==0 then(match p.Xj.findIdx? (nameIs (ej_ v m).2)with
  | none=>(p,51)
  | some i=>placeV p i (p.Xj[i]?.getD default) (ej_ v m).1)else(p,aS_ m)
theorem ld_{m:Xz}(h:aS_ m=0):m.Xy.length<=32:=(gk_ (f8_ h).2.1).len
theorem send_gen{p:Xx}(hO:OwnP p){m:Xz}(hm:AttrL m.Xy){v:Xz×Str×Bool}(hr:dB_ p.Xb m=some v)(hv:v.2.2=true->AttrL v.1.Xy/\aS_ v.1=0):bJ_ p m=some (sendW p m v):=by
 unfold bJ_ sendW;rw[own_eq hO];simp only[qBs];rw[gq_ hm];simp only[qBs];by_cases h0:aS_ m=0
 .rw [if_pos h0,h0];simp only[bne_self_eq_false,cond_false,beq_self_eq_true,cond_true];rw[hr];simp only[qBs];have ht:(bif(!v.2.2)then some (m,m.Xd)else some (v.1,v.2.1))=some (ej_ v m):=by
   unfold ej_;cases v.2.2<;>rfl
  rw[ht];obtain⟨ht1,ht2⟩:=target_ok hv hm h0;generalize ej_ v m=o at *
  simp only[qBs];have hi:(aq_ p.Xj (λ(u1:Xk)=>Option.bind (dd_ u1 o.2) λ(v1:Bool)=>some v1))=some (at_ (nameIs o.2) p.Xj):=idxP_eq (by have:=hO.ports;omega) λm _=>rfl
  rw[hi];simp only[qBs];unfold at_;cases hf:p.Xj.findIdx? (nameIs o.2)with
  | none=>rfl
  | some i =>
   have hil:i<p.Xj.length:=(List.findIdx?_eq_some_iff_getElem.1 hf).1
   dsimp only
   rw[decide_eq_false (show ¬(i:Int)<0 by omega),cond_false,bg_ hil];simp only[qBs];rw[List.getElem?_eq_getElem hil,Option.getD_some];unfold placeV;cases p.Xj[i].Xp==0 with
   | true=>rfl
   | false =>
    simp only[cond_false];rw[fits_eq ht1];simp only[qBs];unfold fitsB;rw[decide_eq_true ht2,Bool.true_and];by_cases hp:(aO_ o.1).length<=65536
    .rw[decide_eq_true hp,decide_eq_false (show ¬65536<(aO_ o.1).length by omega)];simp only[Bool.not_true,cond_false];have hq:=hO.queue _ (List.getElem_mem hil);by_cases hl:64<=p.Xj[i].Xf.length
     .rw[decide_eq_true hl,decide_eq_true (show(p.Xj[i].Xf.length:Int)>=64 by omega)];rfl
     .rw[decide_eq_false hl,decide_eq_false (show ¬(p.Xj[i].Xf.length:Int)>=64 by omega)];simp only[cond_false];rw[clone_eq (by have:=ld_ ht2;omega)];simp only[qBs];rw[ca_ (by simp only[List.length_singleton];omega) (by simp only[List.length_singleton];omega)];simp only[qBs,Int.toNat_natCast]
    .rw[decide_eq_false hp,decide_eq_true (show 65536<(aO_ o.1).length by omega)];rfl
 .rw[if_neg h0]
  dsimp only
  rw[bne_iff_ne.2 h0,beq_eq_false_iff_ne.2 h0];rfl
def qP(Q:List Xz):Xx:=Xx.mk [] [Xk.mk [112] Q 1]
def toP(m:Xz):Xz:=Xz.mk m.Xr [112] m.Xt m.Xm m.Xy m.Xn
structure QOK(n:Nat)(Q:List Xz):Prop where
 len:Q.length<=n
 att:∀m∈Q,AttrL m.Xy
 chk:∀m∈Q,aS_ m=0
 prn:∀m∈Q,(aO_ m).length<=5000
theorem QOK.own{n:Nat}{Q:List Xz}(h:QOK n Q)(hn:n<=20):OwnP (qP Q):=by
 refine⟨Nat.zero_le _,λr hr=>(nomatch hr),by show 1<=1000;omega,λx hx => ?_,λx hx m hm => ?_⟩
 .rw[List.mem_singleton.1 (show x∈[Xk.mk [112] Q 1]from hx)];have:=h.len;show Q.length<=1000;omega
 .rw[List.mem_singleton.1 (show x∈[Xk.mk [112] Q 1]from hx)]at hm;have:=ld_ (h.chk m hm);omega
theorem newP_eq:fX_ [[112]]=some (Xx.mk [] [Xk.mk [112] [] 0],0):=by kernel_rfl
theorem openP_eq:fi_ (Xx.mk [] [Xk.mk [112] [] 0]) 4 0=some (qP [],0):=by kernel_rfl
theorem sendP_eq{n:Nat}{Q:List Xz}(h:QOK n Q)(hn:n<=20){m:Xz}(hm:AttrL m.Xy)(hd:m.Xd=[112])(h0:aS_ m=0)(hp:(aO_ m).length<=5000):bJ_ (qP Q) m=some (qP (Q++[m]),0):=by
 rw[send_gen (h.own hn) hm (v:=(Xz.mk [] [] [] [] [] [],[],false)) rfl (λe=>nomatch e)];unfold sendW;rw[h0];have ht:ej_ (Xz.mk [] [] [] [] [] [],[],false) m=(m,[112]):=by
  rw[←hd];rfl
 rw[ht];have hf:(qP Q).Xj.findIdx? (nameIs [112])=some 0:=rfl;simp only[beq_self_eq_true,cond_true];rw[hf];show some (placeV (qP Q) 0 (Xk.mk [112] Q 1) m)=_;unfold placeV;have hl:=h.len;rw[decide_eq_false (show ¬65536<(aO_ m).length by omega)]
 dsimp only
 rw[decide_eq_false (show ¬64<=Q.length by omega)];rfl
theorem readP_eq{n:Nat}{m:Xz}{Q:List Xz}(h:QOK n (m::Q))(hn:n<=20):b2_ (qP (m::Q)) 4 0 5000=some (qP Q,aO_ m,false,0):=by
 have hl:=h.len;have hp:=h.prn m List.mem_cons_self;unfold b2_;have hg:ag_ (qP (m::Q)).Xj (w64 (4-4))=some (Xk.mk [112] (m::Q) 1):=rfl;have hg2:ag_ (m::Q) 0=some m:=rfl;have hs:aK_ (m::Q) 1 ((m::Q).length:Int)=some Q:=by
  rw[dh_ (by omega) (by simp only[qLc];omega) (Int.le_refl _),Int.toNat_natCast,List.take_length];rfl
 have hm5:minI 5000 65536=5000:=rfl;have hq0:(((m::Q).length:Int)==0)=false:=beq_eq_false_iff_ne.2 (by simp only[qLc];omega);refine ax_ (own_eq (h.own hn)) (ax_ (exists_eq (p:=qP (m::Q)) (show 1<=1000 by omega) 4) (dv_ rfl (dv_ rfl (dv_ rfl (dv_ rfl (dv_ rfl (ax_ hg (dv_ hq0 (ax_ hg2 ?_)))))))));refine ax_ (gq_ (h.att m List.mem_cons_self)) ?_;rw[if_pos (h.chk m List.mem_cons_self),hm5]
 dsimp only
 rw[decide_eq_false (show ¬((aO_ m).length:Int)>5000 by omega)];exact ax_ rfl (dv_ rfl (ax_ hs rfl))
theorem readP_nil:b2_ (qP []) 4 0 5000=some (qP [],[],true,0):=by kernel_rfl
theorem orders_read{n:Nat}{Q:List Xz}(h:QOK n Q)(hn:n<=20):ah_ (bs_ (qP Q,Q.map aO_)) BIG (0,[],[Xk.mk [112] Q 1],Q.map aO_)=some (.fall (qP [])):=by
 have hl:=h.len;have hT:=cz_ (body:=bs_ (qP Q,Q.map aO_)) (λi=>((i:Int),([]:List Xh),[Xk.mk [112] (Q.drop i) 1],Q.map aO_)) Q.length (bk_ (by omega)) (b := .fall (qP [])) (λi hi=>by
  unfold bs_;have hi2:i<(Q.map aO_).length:=by rw[List.length_map];exact hi
  simp only[];rw[cg_ hi2,cond_true,bg_ hi2];have hd:Q.drop i=Q[i]::Q.drop (i+1):=List.drop_eq_getElem_cons hi;have hq:QOK n (Q[i]::Q.drop (i+1)):=by
   rw[←hd];exact⟨by rw[List.length_drop];omega,λm hm=>h.att m (List.mem_of_mem_drop hm),λm hm=>h.chk m (List.mem_of_mem_drop hm),λm hm=>h.prn m (List.mem_of_mem_drop hm)⟩
  have hr:=readP_eq hq hn;rw[hd];rw[show Xx.mk [] [Xk.mk [112] (Q[i]::Q.drop (i+1)) 1]=qP (Q[i]::Q.drop (i+1))from rfl,hr];simp only[qBs];rw[List.getElem_map,beq_self_eq_true,bne_self_eq_false,aR_ (by omega)];rfl) (by
  unfold bs_;simp only[];rw[List.length_map,ch_,List.drop_length];rfl)
 exact hT
theorem toP_attr{m:Xz}(h:AttrL m.Xy):AttrL (toP m).Xy:=h
theorem orders_true{l:List Xz}(ha:dC_=some true)(h:∀m∈l,AttrL m.Xy):bN_ l=some true:=by
 unfold bN_;by_cases hl:l.length<=20
 .rw [decide_eq_false (show ¬(l.length:Int)>20 by omega),cond_false];refine ax_ newP_eq (ax_ openP_eq ?_);simp only[bne_self_eq_false,Bool.or_self,cond_false];obtain⟨b,hb,hq⟩:=loop_ex0 (body:=bW_ l) (λi s=>∃Q,s=((i:Int),[],[Xk.mk [112] Q 1],Q.map aO_)/\QOK i Q) (λb=>b = .ret true\/∃Q,b = .fall (qP Q,Q.map aO_)/\QOK 20 Q) l.length (bk_ (by omega)) (λi s hi hs=>by
   obtain⟨Q,rfl,hQ⟩:=hs;unfold bW_;simp only[];rw[cg_ hi,cond_true,bg_ hi];simp only[qBs];have hm:=h _ (List.getElem_mem hi);obtain⟨b,hb,-⟩:=short_ex hm;rw[hb];simp only[qBs];cases b with
   | false =>
    simp only[Bool.not_false,cond_true,ha,qBs];exact .inr ⟨_,rfl,.inl rfl⟩
   | true =>
    simp only[Bool.not_true,cond_false];have hpr:=lF_ (toP_attr hm);rw[show Xz.mk l[i].Xr [112] l[i].Xt l[i].Xm l[i].Xy l[i].Xn=toP l[i]from rfl,hpr];simp only[qBs];have hstay:(∃s',some (Step.next (w64 ((i:Int)+1),([]:List Xh),[Xk.mk [112] Q 1],Q.map aO_))=some (Step.next (β:=Out (Xx×(List Str)) Bool) s')/\∃Q,s'=(((i+1:Nat):Int),[],[Xk.mk [112] Q 1],Q.map aO_)/\QOK (i+1) Q) :=
     ⟨_,rfl,Q,by rw[aR_ (by omega)],⟨by have:=hQ.len;omega,hQ.att,hQ.chk,hQ.prn⟩⟩
    by_cases h0:aS_ (toP l[i])=0
    .rw[if_pos h0];simp only[bne_self_eq_false,Bool.false_or];by_cases hp:(aO_ (toP l[i])).length<=5000
     .rw[decide_eq_false (show ¬((aO_ (toP l[i])).length:Int)>5000 by omega),cond_false,show Xx.mk [] [Xk.mk [112] Q 1]=qP Q from rfl,sendP_eq hQ (by omega) (toP_attr hm) rfl h0 hp];simp only[qBs,bne_self_eq_false,cond_false];have hql:=hQ.len;rw[ca_ (by simp only[List.length_map,List.length_singleton];omega) (by simp only[List.length_map,List.length_singleton];omega)];simp only[qBs];refine .inl ⟨_,rfl,Q++[toP l[i]],?_,?_⟩
      .rw[aR_ (by omega),List.map_append];rfl
      .refine⟨by rw[qLa,List.length_singleton];omega,λm hm2 => ?_,λm hm2 => ?_,λm hm2 => ?_⟩<;>rcases List.mem_append.1 hm2 with h1|h1
       .exact hQ.att m h1
       .rw[List.mem_singleton.1 h1];exact hm
       .exact hQ.chk m h1
       .rw[List.mem_singleton.1 h1];exact h0
       .exact hQ.prn m h1
       .rw[List.mem_singleton.1 h1];exact hp
     .rw[decide_eq_true (show((aO_ (toP l[i])).length:Int)>5000 by omega)];exact .inl hstay
    .rw[if_neg h0]
     dsimp only
     rw[bne_iff_ne.2 h0];exact .inl hstay) (λs hs=>by
   obtain⟨Q,rfl,hQ⟩:=hs;unfold bW_;simp only[];rw[ch_];exact⟨_,rfl,.inr ⟨Q,rfl,⟨by have:=hQ.len;omega,hQ.att,hQ.chk,hQ.prn⟩⟩⟩) (s:=((0:Int),([]:List Xh),[Xk.mk [112] [] 1],([]:List Str))) ⟨[],rfl,⟨Nat.zero_le _,λm hm=>(nomatch hm),λm hm=>(nomatch hm),λm hm=>(nomatch hm)⟩⟩
  refine ax_ hb ?_;rcases hq with rfl|⟨Q,rfl,hQ⟩
  .rfl
  .dsimp only
   refine ax_ (orders_read hQ (Nat.le_refl _)) ?_
   dsimp only
   refine ax_ readP_nil ?_;simp only[beq_self_eq_true,Bool.and_self,cond_true,ha,qBs]
 .rw[decide_eq_true (show(l.length:Int)>20 by omega),cond_true,ha];rfl
end
theorem awake_eq:dC_=some true:=by kernel_rfl
theorem str_fit{n:Nat}{s:Str}(h:FitC te n .str s):s.length<=9223372036854775807:=by
 cases n<;>exact h
theorem plumb_fit{n:Nat}{m:Xz}(h:FitL (FitC te (n+1)) (te.flat (.st 3)) (te.fl (.st 3) m)):AttrL m.Xy/\m.Xn.length<=9223372036854775807:=by
 have h1:m.Xy.length<=9223372036854775807/\∀a∈m.Xy,FitL (FitC te n) (te.flat (.st 2)) (te.fl (.st 2) a):=h.2.2.2.2.1;exact⟨⟨h1.1,λa ha=>str_fit (h1.2 a ha).1,λa ha=>str_fit (h1.2 a ha).2.1⟩,h.2.2.2.2.2.1⟩
theorem plumbs_fit{l:List Xz}(h:Fit te (.sl (.st 3)) l):∀m∈l,AttrL m.Xy:=λm hm=>by
 have h1:l.length<=9223372036854775807/\∀m∈l,FitL (FitC te 2) (te.flat (.st 3)) (te.fl (.st 3) m):=(h 3).1;exact(plumb_fit (h1.2 m hm)).1
theorem jE_(x0:List Xz)(h0:Fit te (.sl (.st 3)) x0):bN_ x0=some true:=orders_true awake_eq (plumbs_fit h0)
end Go.Proofs.YtfbcbakhdkppoaaGreatDoor
