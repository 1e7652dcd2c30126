/-
 What the statements of this seat hang on,part 10: Hzc Hzd Uc Ug Uh Hzh Hzi Hzj Hzk Hzl Ud Ue Uj Uf Uk Ul Um.
-/
import Derived.Test.YtebokaoegomboaaGreatDoorZG9
namespace Go.Proofs.YtebokaoegomboaaGreatDoor
open Go.Rt Go.RowKit
theorem get_R {s:Xx} (hs:StOK s):∀(f m:Nat) {n:Xq} {r:Xb} {left:Int},f<=m->left.toNat<f->left<=1024 ->
  ∃q,cW_ m s n r left=some q/\q.2=(bc_ s f n r left).2.2/\(q.2=0->q.1=(bc_ s f n r left).1)
 | 0,_,n,r,left,_,hf,_=>by omega
 | f + 1, m,n,r,left,hm,hf,ZW=>by
  obtain⟨m,rfl⟩:∃m',m=m'+1:=⟨m-1,by omega⟩;show ∃q,dr_ (cW_ m) s n r left=some q/\_;unfold bc_;by_cases hl:left<1
  .rw[qV hl];refine⟨([],2),?_,rfl,λe=>by cases e⟩;unfold dr_;exact aa_ (a:=true) (ae_ (by simpa using hl) rfl) (ae_ rfl rfl)
  .rw [qX hl];obtain⟨ZT,ZU⟩:=mr_ hs (aS_ n) r;cases M:eC_ r with
   | false =>
    have ZV:aw_ s (aS_ n) r=([],[],2):=by unfold aw_;rw[M];rfl
    rw[ZV];refine⟨([],2),?_,rfl,λe=>by cases e⟩;unfold dr_;exact aa_ (a:=true) (ab_ (by simpa using hl) (aa_ (oB_ r) (by rw[M];rfl))) (ae_ rfl rfl)
   | true =>
    have u:∀{R},((bh_ n.Xk).bind λy3=>(bif(!y3)then(dN_ s 1 r).bind λy4=>some ([th_ n y4.1],y4.2)else(dN_ s 3 r).bind λy5=>(bif(y5.2 != 0)then some ([],y5.2)else Option.bind (am_ (cC_ y5 n) BIG ([],[],(Yp.mk y5.1 0 false))) λ(ZX:Out ((List Xq)×(List Xb)) ((List Xq)×Int))=>match ZX with
      | .ret r1=>some r1
      | .fall o1=>(am_ (dO_ (cW_ m) s left) BIG (0,o1.1,o1.2,[n])).bind λZY=>match ZY with
       | .ret r2=>some r2
       | .fall o2=>some (o2,0))))=R->dr_ (cW_ m) s n r left=R:=λhR=>by
     unfold dr_;exact aa_ (a:=false) (ab_ (by simpa using hl) (aa_ (oB_ r) (by rw[M];rfl))) (ab_ rfl hR)
    by_cases Z:n.Xk>=2147483648
    .have hk:aS_ n=3:=qV Z;have h:bh_ n.Xk=some true:=by unfold bh_;simp[Z]
     rw[hk]at ZT ZU ⊢;have j:=pf_ hs (k:=3) (by omega) r;by_cases F:(aw_ s 3 r).2.2=0
     .rw [qV F,qV Z];have D:=gA_ (R_entries (s:=(aw_ s 3 r).1) (by omega) n (aw_ s 3 r).2.2 ((aw_ s 3 r).1.length+1) 0 [] [] (d:=Yp.mk (aw_ s 3 r).1 0 false) ⟨rfl,rfl,0,rfl,zV _,λb hb=>qSj hb⟩ (zV _) (by omega) (by simp) (by simp)) (show(aw_ s 3 r).1.length+1<=BIG from jS (bB_ (by omega)));cases G:fv_ (aw_ s 3 r).1 n.Id_ ((aw_ s 3 r).1.length+1) 0 with
      | none =>
       rw[G]at D;exact⟨([],2),u (aa_ h (ab_ rfl (aa_ j (ab_ (by simp[F]) (aa_ D rfl))))),rfl,λe=>by cases e⟩
      | some l =>
       rw[G]at D;have ZS:l.length<=(aw_ s 3 r).1.length+1:=by
        unfold fv_ at G;obtain⟨l',h1,h2⟩:=qOb.1 G;split at h2
        .obtain rfl:=qSj h2;exact sN_ _ _ _ h1
        .cases h2
       have O:∀(V:List (Xq×Xb)) (i:Nat) (acc:List Xq×List Str),l.drop i=V->i<=l.length->1<=acc.1.length->(acc.1.length:Int)<=left ->
         ∃w,am_ (dO_ (cW_ m) s left) (V.length+1) ((i:Int),l.map (·.1),l.map (·.2),acc.1)=some w/\(match aX_ (fG (bc_ s f) left) acc V with
          | .inl a=>w = .fall a.1
          | .inr e=>e.2.2≠0/\w = .ret ([],e.2.2)):=by
        intro V
        induction V with
        | nil =>
         intro i acc U hi _ _;have:i=l.length:=by
          have:=qL List.length U;simp at this;omega
         subst this;refine⟨.fall acc.1,aR_ ?_,by simp[aX_]⟩;unfold dO_;exact ab_ (by simp) rfl
        | cons q V ih =>
         intro i acc U hi a1 a2;obtain⟨g1,g2,g3⟩:=sM_ U;have x:w64 (left-(acc.1.length:Int))=left-(acc.1.length:Int):=ao_ ⟨by omega,by omega⟩;obtain⟨p,k1,k2,k3⟩:=get_R hs f m (n:=q.1) (r:=q.2) (left:=left-(acc.1.length:Int)) (by omega) (by omega) (by omega);have C:an_ (l.map (·.1)) (i:Int)=some q.1:=by rw[bt_,qi,g1];rfl
         have y:an_ (l.map (·.2)) (i:Int)=some q.2:=by rw[bt_,qi,g1];rfl
         simp only[aX_];unfold fG;by_cases J:(bc_ s f q.1 q.2 (left-(acc.1.length:Int))).2.2=0
         .rw[qV J];have k4:=k3 (k2.trans J);obtain⟨c1,c2,c3⟩:=k9_ hs f J;obtain⟨w,w1,Y⟩:=ih (i+1) (acc.1++(bc_ s f q.1 q.2 (left-(acc.1.length:Int))).1,acc.2++(bc_ s f q.1 q.2 (left-(acc.1.length:Int))).2.1) g2 (by omega) (by simp;omega) (by simp;omega);refine⟨w,bj_ ?_ w1,Y⟩;unfold dO_;refine ae_ (by simp;omega) (aa_ C (aa_ y (aa_ (by rw[x];exact k1) (ab_ (by rw[k2,J];rfl) (aa_ (a:=acc.1++(bc_ s f q.1 q.2 (left-(acc.1.length:Int))).1) (by rw[k4];exact bm_ (show acc.1.length+_<=_ by omega) (show(acc.1.length+_)*128<=_ by omega)) ?_)))));rw[as_ (by omega)]
         .rw[qX J];refine⟨.ret ([],p.2),aR_ ?_,J,by rw[k2]⟩;unfold dO_;exact ae_ (by simp;omega) (aa_ C (aa_ y (aa_ (by rw[x];exact k1) (ae_ (by rw[k2];simpa using J) rfl))))
       obtain⟨w,w1,Y⟩:=O l 0 ([n],(aw_ s 3 r).2.1) (by simp) (zV _) (by simp) (by simp;omega);have ZZ:=gA_ w1 (show l.length+1<=BIG from jS (bB_ (by omega)));cases hr:aX_ (fG (bc_ s f) left) ([n],(aw_ s 3 r).2.1) l with
       | inl a =>
        rw[hr]at Y;subst Y;simp only[hr,outS];exact⟨(a.1,0),u (aa_ h (ab_ rfl (aa_ j (ab_ (by simp[F]) (aa_ D (aa_ ZZ rfl)))))),rfl,λ_=>rfl⟩
       | inr e =>
        rw[hr]at Y;obtain⟨J,rfl⟩:=Y;simp only[hr,outS];exact⟨([],e.2.2),u (aa_ h (ab_ rfl (aa_ j (ab_ (by simp[F]) (aa_ D (aa_ ZZ rfl)))))),rfl,λe0=>absurd e0 J⟩
     .rw[qX F];exact⟨([],(aw_ s 3 r).2.2),u (aa_ h (ab_ rfl (aa_ j (ae_ (by simpa using F) rfl)))),rfl,λe=>absurd e F⟩
    .have hk:aS_ n=1:=qX Z;have h:bh_ n.Xk=some false:=by unfold bh_;simp[Z]
     rw[hk];have j:=pf_ hs (k:=1) (by omega) r;refine⟨([th_ n (aw_ s 1 r).1],(aw_ s 1 r).2.2),u (aa_ h (ae_ rfl (aa_ j rfl))),?_,λe => ?_⟩
     .split
      .rename_i F;exact F
      .rfl
     .have F:(aw_ s 1 r).2.2=0:=e;rw[qV F,qX Z]
def leN(x:Xq):List Xq->Nat | []=>0|y::l=>if y.Id_<=x.Id_ then leN x l+1 else 0
theorem leN_le(x:Xq):∀l,leN x l<=l.length
 | []=>qA _
 | y::l=>by
  unfold leN;have:=leN_le x l;split<;>simp<;>omega
theorem leN_lt(x:Xq):∀{l:List Xq} {i:Nat} (h:i<l.length),i<leN x l->l[i].Id_<=x.Id_
 | y::l,0,_,hi=>by
  unfold leN at hi;split at hi
  .assumption
  .omega
 | y::l,i+1,h,hi=>by
  unfold leN at hi;split at hi
  .exact leN_lt x (l:=l) (i:=i) (by simpa using h) (by omega)
  .omega
theorem leN_at(x:Xq):∀{l:List Xq} (h:leN x l<l.length),¬l[leN x l].Id_<=x.Id_
 | y::l,h=>by
  by_cases f:y.Id_<=x.Id_
  .have e:leN x (y::l)=leN x l+1:=by simp[leN,f]
   simp only[e]at h ⊢;exact leN_at x (l:=l) (by simpa using h)
  .have e:leN x (y::l)=0:=by simp[leN,f]
   simp only[e];exact f
def insA(out:List Xq)(x:Xq):List Xq:=out.take (leN x out)++[x]++out.drop (leN x out)
theorem insA_len(out:List Xq)(x:Xq):(insA out x).length=out.length+1:=by
 have:=leN_le x out;unfold insA;simp;omega
theorem insA_perm(out:List Xq)(x:Xq):(insA out x).Perm (x::out):=by
 unfold insA;rw[qe];have h:=List.perm_middle (a:=x) (l₁ := out.take (leN x out)) (l₂ := out.drop (leN x out));rw[zn]at h;exact h
theorem insA_sorted{out:List Xq}(x:Xq)(h:out.Pairwise λa b=>leK (λn:Xq=>n.Id_) a b=true):(insA out x).Pairwise λa b=>leK (λn:Xq=>n.Id_) a b=true:=by
 have C:=leN_le x out;unfold insA;have f:=qq.1 h;rw[qe];refine List.pairwise_append.2 ⟨h.sublist (List.take_sublist _ _),List.pairwise_append.2 ⟨by simp,h.sublist (List.drop_sublist _ _),λa p b m => ?_⟩,λa p b m => ?_⟩
 .rw[qD]at p;subst p;obtain⟨j,q,e⟩:=List.getElem_of_mem m;rw[qc]at q;rw[List.getElem_drop]at e;have s:=leN_at a (l:=out) (by omega);unfold leK;simp only[qDe];rw[←e];rcases qn j with u|u
  .subst u;simp only[jG];omega
  .have:=f (leN a out) (leN a out+j) (by omega) (by omega) (by omega);unfold leK at this;simp only[qDe]at this;omega
 .obtain⟨i,hi,e⟩:=List.getElem_of_mem p;rw[qS]at hi;rw[List.getElem_take]at e;have s:=leN_lt x (l:=out) (i:=i) (by omega) (by omega);rcases qY.1 m with m|m
  .rw[qD]at m;subst m;unfold leK;simp only[qDe];rw[←e];exact s
  .obtain⟨j,q,y⟩:=List.getElem_of_mem m;rw[qc]at q;rw[List.getElem_drop]at y;rw[←e,←y];exact f i (leN x out+j) (by omega) (by omega) (by omega)
theorem sorted_step{out l:List Xq}{i:Nat}(hi:i<l.length)(q:out.length<=1000000):am_ (hc_ (out,(i:Int)) l) BIG 0=some ((leN l[i] out:Nat):Int):=by
 have m:=leN_le l[i] out;refine bf_ (T:=λj=>(j:Int)) (leN l[i] out) (bB_ (by omega)) (λj p => ?_) ?_
 .have f:j<out.length:=by omega
  unfold hc_;refine aa_ (a:=true) (ae_ (aT_ f) (aa_ (ap_ f) (aa_ (ap_ hi) ?_))) (ae_ rfl (by rw[as_ (by omega)]));exact qL some (decide_eq_true (leN_lt l[i] f p))
 .unfold hc_;refine aa_ (a:=false) ?_ rfl;by_cases h:leN l[i] out<out.length
  .refine ae_ (aT_ h) (aa_ (ap_ h) (aa_ (ap_ hi) ?_));exact qL some (decide_eq_false (leN_at l[i] h))
  .have:leN l[i] out=out.length:=by omega
   rw[this];exact ab_ (be_ _) rfl
theorem rA_{l:List Xq}(F:l.length<=100000):∃y,kr_ l=some y/\y.Perm l/\y.Pairwise λa b=>leK (λn:Xq=>n.Id_) a b=true:=by
 have h:=d4_ (body:=hd_ l) l (λout _ x=>insA out x) (λi s=>(s,(i:Int))) (λi s=>s.length=i) (λs=>s) [] (bB_ (by omega)) rfl (λi s hi m => ?_) (λs m => ?_)
 .refine⟨_,aa_ h rfl,?_⟩;have C:∀(xs acc:List Xq) (k:Nat),(acc.Pairwise λa b=>leK (λn:Xq=>n.Id_) a b=true)->(bG_ (λout _ x=>insA out x) acc k xs).Perm (xs++acc)/\(bG_ (λout _ x=>insA out x) acc k xs).Pairwise λa b=>leK (λn:Xq=>n.Id_) a b=true:=λxs=>by
   induction xs with
   | nil=>exact λacc k f=>⟨List.Perm.refl _,f⟩
   | cons x xs q =>
    intro acc k f;obtain⟨u,i2⟩:=q (insA acc x) (k+1) (insA_sorted x f);refine⟨u.trans ?_,i2⟩;refine((insA_perm acc x).append_left xs).trans ?_;exact List.perm_middle
  obtain⟨j,p⟩:=C l [] 0 List.Pairwise.nil;rw[zl]at j;exact⟨j,p⟩
 .have D:=leN_le l[i] s;refine⟨?_,by rw[insA_len,m]⟩;unfold hd_;refine ae_ (aT_ hi) (aa_ (sorted_step (out:=s) hi (by omega)) (aa_ (a:=s.take (leN l[i] s)) ?_ (aa_ (a:=s.take (leN l[i] s)) ?_ (aa_ (ap_ hi) (aa_ (a:=s.take (leN l[i] s)++[l[i]]) ?_ (aa_ (a:=s.drop (leN l[i] s)) ?_ (aa_ (a:=insA s l[i]) ?_ (by rw[as_ (by omega)]))))))))
  .show bF_ s 0 ((leN l[i] s:Nat):Int)=_;rw[bV_ (by omega) (by omega) (by omega),qTn];rfl
  .rw[bm_ (by simp;omega) (by simp;omega)];rfl
  .rw[bm_ (by simp;omega) (by simp;omega)]
  .show bF_ s ((leN l[i] s:Nat):Int) (s.length:Int)=_;rw[bV_ (by omega) (by omega) (by omega),qTn,qTn,jo]
  .rw[bm_ (by simp;omega) (by simp;omega)];rfl
 .unfold hd_;exact ab_ (be_ _) rfl
theorem sorts_agree{l y z:List Xq}(x:gF_ (λn:Xq=>n.Id_) l=some y)(u:kr_ l=some z)(D:l.length<=100000)(C:(l.map (·.Id_)).Nodup):y=z:=by
 obtain⟨f,s⟩:=pC_ x;obtain⟨z',m,q,p⟩:=rA_ D;rw[u]at m;obtain rfl:=qSj m;refine lL_ (f.trans q.symm) s p λa G b F j h => ?_
 refine key_inj C a (f.subset G) b (f.subset F) ?_;unfold leK at j h;simp only[qDe]at j h;omega
def headD(d:Str):Option (Int×Int×Xq×Xb×Nat):=(nD d 4 0).bind λj=>(nD d 4 j.2).bind λh=>(ga_ d h.2).map λf=>(j.1,h.1,f.1,f.2.1,f.2.2)
theorem P_head{d:Str}(hd:d.length<=1024):∃j p v2 m x h,aG_ (Yh.mk d 0 false) 4=some (j,p)/\aG_ p 4=some (v2,m)/\dd_ m=some (x,h)/\(match headD d with
  | none=>h.Zw=true
  | some q=>h.Zw=false/\h.at_=(q.2.2.2.2:Int)/\j=q.1/\v2=q.2.1/\x=Xs.mk q.2.2.1 q.2.2.2.1):=by
 have O:DS d (some 0) (Yh.mk d 0 false):=⟨rfl,rfl,0,rfl,zV _,λb M=>qSj M⟩;obtain⟨j,p,a1,b1,Z⟩:=mq_ (by omega) O (w:=4) (by omega) (by omega);obtain⟨v2,m,a2,b2,G⟩:=mq_ (by omega) b1 (w:=4) (by omega) (by omega);obtain⟨x,h,a3,f,F⟩:=d_entry (by omega) b2;refine⟨j,p,v2,m,x,h,a1,a2,a3,?_⟩;unfold headD;cases D:nD d 4 0 with
 | none =>
  simp only[qBs,D,zf,Option.bind_none]at f;exact f.2.1
 | some u =>
  simp only[qBs,D,qO]at f G F ⊢;cases C:nD d 4 u.2 with
  | none =>
   simp only[C,zf,Option.bind_none]at f;exact f.2.1
  | some s =>
   simp only[qBs,C,qO]at f F ⊢;cases y:ga_ d s.2 with
   | none =>
    simp only[y,zf]at f;exact f.2.1
   | some J =>
    simp only[y,qO]at f ⊢;obtain⟨_,Y,a,V,_,U⟩:=f;exact⟨Y,by rw[V,U _ rfl],Z 0 u rfl D,G u.2 s rfl C,F s.2 J rfl y⟩
theorem R_head{d:Str}(hd:d.length<=1024):∃j p v2 m n r h,aD_ (Yp.mk d 0 false) 4=some (j,p)/\aD_ p 4=some (v2,m)/\eV_ m=some (n,r,h)/\(match headD d with
  | none=>h.Zg=true
  | some q=>h.Zg=false/\h.At_=(q.2.2.2.2:Int)/\j=q.1/\v2=q.2.1/\n=q.2.2.1/\r=q.2.2.2.1):=by
 have M:RS d (some 0) (Yp.mk d 0 false):=⟨rfl,rfl,0,rfl,zV _,λb J=>qSj J⟩;obtain⟨j,p,a1,b1,Y⟩:=k8_ (by omega) M (w:=4) (by omega) (by omega);obtain⟨v2,m,a2,Z,F⟩:=k8_ (by omega) b1 (w:=4) (by omega) (by omega);obtain⟨n,r,h,a3,f,D⟩:=r_entry (by omega) Z;refine⟨j,p,v2,m,n,r,h,a1,a2,a3,?_⟩;unfold headD;cases C:nD d 4 0 with
 | none =>
  simp only[qBs,C,zf,Option.bind_none]at f;exact f.2.1
 | some u =>
  simp only[qBs,C,qO]at f F D ⊢;cases y:nD d 4 u.2 with
  | none =>
   simp only[y,zf,Option.bind_none]at f;exact f.2.1
  | some s =>
   simp only[qBs,y,qO]at f D ⊢;cases x:ga_ d s.2 with
   | none =>
    simp only[x,zf]at f;exact f.2.1
   | some G =>
    simp only[x,qO]at f ⊢;obtain⟨_,V,a,U,_,O⟩:=f;obtain⟨f1,f2⟩:=D s.2 G rfl x;exact⟨V,by rw[U,O _ rfl],Y 0 u rfl C,F u.2 s rfl y,f1,f2⟩
theorem entsF_all(s:Str):∀(f a:Nat) {l:List (Xq×Xb)},a<=s.length->ft_ s f a=some l->∀q∈l,q.1.Xk<=9223372036854775807/\q.1.Xg.length<=s.length
 | 0,a,l,_,h=>by cases h
 | f+1,a,l,u,h=>by
  unfold ft_ at h;split at h
  .obtain⟨q,m,h⟩:=qOb.1 h;obtain⟨F,x,rfl⟩:=Option.map_eq_some_iff.1 h;obtain⟨D,G,C,y⟩:=tg_ u m;intro p j;rcases qW.1 j with rfl|j
   .exact⟨C,y⟩
   .exact entsF_all s f _ D x p j
  .obtain rfl:=qSj h;intro p j;cases j
abbrev SmN(n:Xq):Prop:=n.Xk<=9223372036854775807/\n.Xg.length<=9223372036854775807
theorem getN_all {s:Xx} (D:StOK s):∀(f:Nat) {n:Xq} {r:Xb} {left:Int},SmN n->∀x∈(bc_ s f n r left).1,SmN x
 | 0,n,r,left,_,x,h=>by cases h
 | f + 1,n,r,left,F,x,h=>by
  obtain⟨J,_⟩:=mr_ D (aS_ n) r;unfold bc_ at h;split at h
  .cases h
  .split at h
   .split at h
    .split at h
     .cases h
     .rename_i l G;have u:∀q∈l,SmN q.1:=by
       unfold fv_ at G;obtain⟨U,M,C⟩:=qOb.1 G;split at C
       .obtain rfl:=qSj C;intro q p;have:=entsF_all _ _ _ (zV _) M q p;exact⟨this.1,by omega⟩
       .cases C
      have hi:=fs_ (f:=fG (bc_ s f) left) (λ_ acc=>∀y∈acc.1,SmN y) (λe=>e.1=[]) (xs:=l) (k:=0) (s0:=([n],(aw_ s (aS_ n) r).2.1)) (λy m=>by rw[qD]at m;rw[m];exact F) λi acc q p O=>by
       unfold fG;refine⟨λs' j => ?_,λe j => ?_⟩
       .split at j
        .obtain rfl:=zT j;intro y m;rcases qY.1 m with m|m
         .exact O y m
         .exact getN_all D f (u q p) y m
        .cases j
       .split at j
        .cases j
        .obtain rfl:=zm j;rfl
      cases hr:aX_ (fG (bc_ s f) left) ([n],(aw_ s (aS_ n) r).2.1) l with
      | inl acc =>
       rw[hr]at h;exact hi.1 acc hr x h
      | inr e =>
       rw[hr]at h;have j:=hi.2 e hr;simp only[outS,j]at h;cases h
    .rw[qD]at h;rw[h];exact F
   .cases h
theorem entD_small{s:Str}{a:Nat}{q:Xq×Xb×Nat}(f:a<=s.length)(j:s.length<=9223372036854775807)(h:ga_ s a=some q):SmN q.1:=by
 have:=tg_ f h;exact⟨this.2.2.1,by omega⟩
theorem tree_both {s:Xx} (M:StOK s) (sc:Str):∃T E rd,ct_ (Xm.mk s []) sc=some (T,E,rd)/\er_ s sc=some (T,E)/\T.Xz.length<=1024 /\
  (E=0->OkT T.Xz T.Xp/\∃next many n r a3,(blk s sc 4).2=0/\headD (blk s sc 4).1=some (next,many,n,r,a3)/\many<=1024/\(bc_ s 1025 n r many).2.2=0/\rd=Xm.mk s ([sc]++(bc_ s 1025 n r many).2.1)/\next=T.Xp/\many=(T.Xz.length:Int)/\a3=(blk s sc 4).1.length/\(bc_ s 1025 n r many).1.Perm T.Xz):=by
 have ZW:=nR_ M sc 4;have m:=fq_ M sc 4 (seen:=[]) (by simp);have ZY:=oA_ M sc (k:=4) (by omega);unfold ct_ er_;by_cases O:(blk s sc 4).2=0
 .rw [qV O]at m;obtain⟨v1,d1,v2,d2,x,d3,p1,p2,p3,p4⟩:=P_head ZW;obtain⟨w1,e1,f,e2,n,r,e3,q1,q2,q3,q4⟩:=R_head ZW;have err:∀{X:Option (Xv×Int×Xm)} {Y:Option (Xv×Int)},((d3.Zw||(d3.at_ != ((blk s sc 4).1.length:Int)))||decide (v2<1)||decide (v2>1024))=true->((e3.Zg||(e3.At_ != ((blk s sc 4).1.length:Int)))||decide (f<1)||decide (f>1024))=true ->
    ∃T E rd,(bif((d3.Zw||(d3.at_ != ((blk s sc 4).1.length:Int)))||decide (v2<1)||decide (v2>1024))then some (Xv.mk 0 [],2,Xm.mk s ([]++[sc]))else X)=some (T,E,rd)/\(bif((e3.Zg||(e3.At_ != ((blk s sc 4).1.length:Int)))||decide (f<1)||decide (f>1024))then some (Xv.mk 0 [],(2:Int))else Y)=some (T,E)/\T.Xz.length<=1024 /\
     (E=0->OkT T.Xz T.Xp/\∃next many n r a3,(blk s sc 4).2=0/\headD (blk s sc 4).1=some (next,many,n,r,a3)/\many<=1024/\(bc_ s 1025 n r many).2.2=0/\rd=Xm.mk s ([sc]++(bc_ s 1025 n r many).2.1)/\next=T.Xp/\many=(T.Xz.length:Int)/\a3=(blk s sc 4).1.length/\(bc_ s 1025 n r many).1.Perm T.Xz):=λha V =>
   ⟨Xv.mk 0 [],2,Xm.mk s ([]++[sc]),ae_ ha rfl,ae_ V rfl,by simp,λe=>by cases e⟩
  have pre:∀{A:Option (Xv×Int×Xm)} {B:Option (Xv×Int)} {A':Option (Xv×Int×Xm)} {B':Option (Xv×Int)} {P:Xv->Int->Xm->Prop},A=A'->B=B'->(∃T E rd,A'=some (T,E,rd)/\B'=some (T,E)/\P T E rd)->∃T E rd,A=some (T,E,rd)/\B=some (T,E)/\P T E rd:=λha V h=>by rw[ha,V];exact h
  refine pre (aa_ m (ab_ rfl (aa_ p1 (aa_ p2 (aa_ p3 rfl))))) (aa_ ZY (ab_ (by simp[O]) (aa_ q1 (aa_ q2 (aa_ q3 rfl))))) ?_;cases j:headD (blk s sc 4).1 with
  | none =>
   rw[j]at p4 q4;exact j▸err (by simp[p4]) (by simp[q4])
  | some q =>
   obtain⟨next,many,n',r',a3⟩:=q;rw[j]at p4 q4;obtain⟨p5,p6,rfl,rfl,rfl⟩:=p4;obtain⟨q5,q6,rfl,rfl,rfl,rfl⟩:=q4;simp only at *
   by_cases hc:(a3:Int)≠((blk s sc 4).1.length:Int)\/f<1\/f>1024
   .refine pre (ae_ ?_ rfl) (ae_ ?_ rfl) ⟨Xv.mk 0 [],2,_,rfl,rfl,by simp,λe=>by cases e⟩
    .simp[p5,p6];omega
    .simp[q5,q6];omega
   .refine pre (ab_ ?_ rfl) (ab_ ?_ rfl) ?_
    .simp[p5,p6];omega
    .simp[q5,q6];omega
    .have ZU:SmN n:=by
      unfold headD at j;obtain⟨z1,U,j⟩:=qOb.1 j;obtain⟨z2,y2,j⟩:=qOb.1 j;obtain⟨z3,y3,j⟩:=Option.map_eq_some_iff.1 j;simp only[qG]at j;rw[←j.2.2.1];have F:=mp_ (zV _) U;have b2:=mp_ F.1 y2;exact entD_small b2.1 (by omega) y3
     obtain⟨e,b,rd,k1,Z,k3⟩:=add_P M 1025 BIG (ns:=[]) (seen:=[]++[sc]) (most:=f) (n:=n) (r:=r) (by decide) (by simp;omega) (by omega) (by simp);obtain⟨p,g1,g2,g3⟩:=get_R M 1025 BIG (n:=n) (r:=r) (left:=f) (by decide) (by omega) (by omega);have hz:f-(([]:List Xq).length:Int)=f:=by simp
     rw[hz]at Z k3;by_cases u:(bc_ s 1025 n r f).2.2=0
     .obtain⟨rfl,rfl⟩:=k3 (Z.trans u);have g4:=g3 (g2.trans u);obtain⟨c1,c2,c3⟩:=k9_ M 1025 u;have D:=getN_all M 1025 (r:=r) (left:=f) ZU;simp only[zG]at k1;obtain⟨y,hy⟩:∃y,gF_ (λn:Xq=>n.Id_) (bc_ s 1025 n r f).1=some y:=⟨_,by unfold gF_;rw[qV (by omega)]⟩;obtain⟨z,ZZ,G,ZQ⟩:=rA_ (l:=(bc_ s 1025 n r f).1) (by omega);obtain⟨U,y2⟩:=pC_ hy;have ZP:=U.length_eq;have ZR:=G.length_eq;refine pre (aa_ k1 (ab_ (by rw[Z,u];rfl) (aa_ hy rfl))) (aa_ g1 (ab_ (by rw[g2,u];rfl) (aa_ (by rw[g4];exact ZZ) rfl))) ?_;by_cases ZS:((bc_ s 1025 n r f).1.length:Int)=f
      .obtain⟨F,t1,t2⟩:=f2_ (Xv.mk w1 y) (by show y.length<=1024;omega) (λx hx=>D x (U.subset hx));obtain⟨b2,t3,t4⟩:=hp_ (Xv.mk w1 z) (by show z.length<=1024;omega) (λx hx=>D x (G.subset hx));have ZX:∀{l:List Xq} {nx:Int},OkT l nx->(l.map (·.Id_)).Nodup:=λh=>by
        rw[jP,List.pairwise_map];exact h.srt.imp λh e=>by omega
       have J:(F=true\/b2=true)->y=z:=λh=>by
        refine sorts_agree hy ZZ (by omega) ?_;rcases h with h|h
        .exact(U.map _).nodup_iff.1 (ZX (t2.1 h))
        .exact(G.map _).nodup_iff.1 (ZX (t4.1 h))
       have ZT:F=b2:=by
        cases C:F with
        | true =>
         have:=J (.inl C);subst this;exact(t4.2 (t2.1 C)).symm
        | false =>
         cases ZV:b2 with
         | false=>rfl
         | true =>
          have:=J (.inr ZV);subst this;rw[t2.2 (t4.1 ZV)]at C;cases C
       subst ZT;refine pre (aa_ (a := !F) (ab_ (by simp;omega) (aa_ t1 rfl)) rfl) (aa_ (a := !F) (ab_ (by rw[g4];simp;omega) (aa_ t3 rfl)) rfl) ?_;cases V:F with
       | false=>exact⟨Xv.mk 0 [],2,_,rfl,rfl,by simp,λe=>by cases e⟩
       | true =>
        have:=J (.inl V);subst this;exact⟨Xv.mk w1 y,0,_,rfl,rfl,by show y.length<=1024;omega,λ_=>⟨t2.1 V,w1,f,n,r,a3,O,rfl,by omega,u,rfl,rfl,by show f=(y.length:Int);omega,by omega,U.symm⟩⟩
      .refine pre (aa_ (a:=true) (ae_ (by simp;omega) rfl) rfl) (aa_ (a:=true) (ae_ (by rw[g4];simp;omega) rfl) rfl) ⟨Xv.mk 0 [],2,_,rfl,rfl,by simp,λe=>by cases e⟩
     .refine pre (aa_ k1 (ae_ (by rw[Z];simpa using u) rfl)) (aa_ g1 (ae_ (by rw[g2];simpa using u) rfl)) ⟨Xv.mk 0 [],(bc_ s 1025 n r f).2.2,rd,by rw[Z],by rw[g2],by simp,λe=>absurd e u⟩
 .rw[qX O]at m;exact⟨Xv.mk 0 [],(blk s sc 4).2,Xm.mk s [],aa_ m (ae_ (by simp[O]) rfl),aa_ ZY (ae_ (by simp[O]) rfl),by simp,λe=>absurd e O⟩
structure Small17(s:Xw):Prop where
 ul:s.Xf.Yz.length<=10
 um:∀u∈s.Xf.Yz,u.Yn.length<=10
 ql:s.Xf.Yx.length<=10
 nl:s.Xf.Xy.Xz.length<=12
 el:s.Xf.Xt.length<=20
 bl:s.Yk.Xn.length<=120
 sl:s.Xr.length<=6
theorem ri_{α:Type}{body:Int->Option (Step Int (Out Unit Bool))}(xs:List α)(p:α->Bool)(m:xs.length<BIG)(s:∀i (h:i<xs.length),body (i:Int)=some (if p xs[i]then .done (.ret false)else .next ((i+1:Nat):Int)))
  (q:body (xs.length:Int)=some (.done (.fall ()))):(am_ body BIG 0=some (.ret false))\/(am_ body BIG 0=some (.fall ())/\∀x∈xs,p x=false):=by
 have h:=bg_ xs (λ(_:Nat) x=>if p x then some false else none) m (λi hi=>by
  rw[s i hi];cases p xs[i]<;>rfl) q
 rw[hM_ p (λ_=>false)]at h;cases f:xs.find? p with
 | some x =>
  rw[f]at h;exact .inl h
 | none =>
  rw[f]at h;exact .inr ⟨h,λx j=>by
   have:=zr.1 f x j;simpa using this⟩
theorem small_eq(s:Xw):∃b,iR_ s=some b/\(b=true->Small17 s):=by
 unfold iR_;cases q:((((decide ((s.Xf.Yz.length:Int)>10)||decide ((s.Xf.Yx.length:Int)>10))||decide ((s.Xf.Xy.Xz.length:Int)>12))||decide ((s.Xf.Xt.length:Int)>20))||decide ((s.Yk.Xn.length:Int)>120))||(decide ((s.Xr.length:Int)>6))with
 | true=>exact⟨false,rfl,λh=>(nomatch h)⟩
 | false =>
  simp only[qP,qDf]at q;have f:=ri_ (body:=h2_ s) s.Xf.Yz (λu=>decide ((u.Yn.length:Int)>10)) (bB_ (by omega)) (λi hi=>by
   unfold h2_;refine ae_ (aT_ hi) (aa_ (ap_ hi) ?_);rw[as_ (by omega)];cases decide ((s.Xf.Yz[i].Yn.length:Int)>10)<;>rfl) (by unfold h2_;exact ab_ (be_ _) rfl)
  have l2:=ri_ (body:=h3_ s) s.Xf.Xy.Xz (λu=>decide ((u.Xl.length:Int)>3000)||decide ((u.Xg.length:Int)>200)) (bB_ (by omega)) (λi hi=>by
   unfold h3_;refine ae_ (aT_ hi) (aa_ (ap_ hi) ?_);rw[as_ (by omega),ap_ hi];simp only[qBs];cases decide ((s.Xf.Xy.Xz[i].Xl.length:Int)>3000)<;>cases decide ((s.Xf.Xy.Xz[i].Xg.length:Int)>200)<;>rfl) (by unfold h3_;exact ab_ (be_ _) rfl)
  have j:=ri_ (body:=h4_ s) s.Yk.Xn (λu=>decide ((u.Xl.length:Int)>2000)||decide ((u.Xi.length:Int)>100)) (bB_ (by omega)) (λi hi=>by
   unfold h4_;refine ae_ (aT_ hi) (aa_ (ap_ hi) ?_);rw[as_ (by omega),ap_ hi];simp only[qBs];cases decide ((s.Yk.Xn[i].Xl.length:Int)>2000)<;>cases decide ((s.Yk.Xn[i].Xi.length:Int)>100)<;>rfl) (by unfold h4_;exact ab_ (be_ _) rfl)
  have m:=ri_ (body:=h5_ s) s.Xr (λu=>decide ((u.Xi.length:Int)>100)) (bB_ (by omega)) (λi hi=>by
   unfold h5_;refine ae_ (aT_ hi) (aa_ (ap_ hi) ?_);rw[as_ (by omega)];cases decide ((s.Xr[i].Xi.length:Int)>100)<;>rfl) (by unfold h5_;exact ab_ (be_ _) rfl)
  rcases f with f|⟨f,hm⟩
  .exact⟨false,ab_ rfl (aa_ f rfl),λh=>(nomatch h)⟩
  rcases l2 with l2|⟨l2,_⟩
  .exact⟨false,ab_ rfl (aa_ f (aa_ l2 rfl)),λh=>(nomatch h)⟩
  rcases j with j|⟨j,_⟩
  .exact⟨false,ab_ rfl (aa_ f (aa_ l2 (aa_ j rfl))),λh=>(nomatch h)⟩
  rcases m with m|⟨m,_⟩
  .exact⟨false,ab_ rfl (aa_ f (aa_ l2 (aa_ j (aa_ m rfl)))),λh=>(nomatch h)⟩
  .refine⟨true,ab_ rfl (aa_ f (aa_ l2 (aa_ j (aa_ m rfl)))),λ_=>⟨by omega,λu p => ?_,by omega,by omega,by omega,by omega,by omega⟩⟩;have:=hm u p;simp only[qDf]at this;omega
theorem Small17.size{s:Xw}(h:Small17 s)(f:op_ s.Xf.Yz)(j:qa_ s.Xf.Yx):SizeOK s.Xf :=
 ⟨by have:=h.ul;omega,λu hm=>by have:=h.um u hm;omega,f,by have:=h.ql;omega,j,by have:=h.nl;omega,by have:=h.el;omega⟩
structure TreeAt(s:Xx)(sc:Str)(T:Xv)(E:Int):Prop where
 get:b0_ s sc=some (T,E)
 ref:er_ s sc=some (T,E)
 len:T.Xz.length<=1024
 ok:E=0->OkT T.Xz T.Xp
theorem ti_{s:Xx}(h:StOK s)(sc:Str):∃T E,TreeAt s sc T E:=by
 obtain⟨T,E,rd,f,t2,t3,t4⟩:=tree_both h sc;exact⟨T,E,by unfold b0_;exact aa_ f rfl,t2,t3,λe=>(t4 e).1⟩
structure Ok17(s:Xw):Prop where
 sl:s.Xr.length<=64
 files:FileOK s.Xf
 store:StOK s.Yk
 time:∀x∈s.Xr,0<=x.Yb/\x.Yb<=1099511627776
 asc:∀i x y,0<i->s.Xr[i]? = some x->s.Xr[i-1]? = some y->y.Yb<x.Yb
 tree:∀x∈s.Xr,∃T,TreeAt s.Yk x.Xi T 0
noncomputable def okTr(s:Xx)(sc:Str):Bool:=match er_ s sc with|some (_,e)=>e==0|none=>false
def gC_(l:List Zz)(i:Nat):Zz:=l.getD (i-1) (Zz.mk 0 [])
noncomputable def badS(s:Xw)(i:Nat)(x:Zz):Bool:=(decide (x.Yb<0)||decide (x.Yb>1099511627776))||(decide (0<i)&&decide ((gC_ s.Xr i).Yb>=x.Yb)) || !(okTr s.Yk x.Xi)
theorem oD_{T:Xv}(h:OkT T.Xz T.Xp):∀n∈T.Xz,n.Xk<=9223372036854775807/\n.Xg.length<=9223372036854775807:=λn f=>⟨h.hm f,by have:=h.name f;omega⟩
theorem bad_iff{s:Xw}(G:s.Xr.length<=64)(J:FileOK s.Xf)(D:StOK s.Yk):(∀i x,s.Xr[i]? = some x->badS s i x=false)↔Ok17 s:=by
 constructor
 .intro h;have m:∀i x,s.Xr[i]? = some x->(0<=x.Yb/\x.Yb<=1099511627776)/\(0<i->(gC_ s.Xr i).Yb<x.Yb)/\okTr s.Yk x.Xi=true:=λi x f=>by
   have:=h i x f;unfold badS at this;simp only[qP,qDf,Bool.not_eq_false',zh]at this;obtain⟨⟨⟨F,t2⟩,t3⟩,t4⟩:=this;exact⟨by omega,λj=>by omega,t4⟩
  refine⟨G,J,D,λx f => ?_,λi x y j f u => ?_,λx f => ?_⟩
  .obtain⟨i,hi⟩:=qM.1 f;exact(m i x hi).1
  .have:=(m i x f).2.1 j;have e:gC_ s.Xr i=y:=by
    unfold gC_;rw[za,u];rfl
   rwa [e]at this
  .obtain⟨i,hi⟩:=qM.1 f;have q:=(m i x hi).2.2;obtain⟨T,E,C⟩:=ti_ D x.Xi;unfold okTr at q;rw[C.ref]at q;have:E=0:=by simpa using q
   subst this;exact⟨T,C⟩
 .intro h i x f;have p:=qb f;obtain⟨F,t2⟩:=h.time x p;obtain⟨T,C⟩:=h.tree x p;have q:okTr s.Yk x.Xi=true:=by
   unfold okTr;rw[C.ref];rfl
  have M:0<i->(gC_ s.Xr i).Yb<x.Yb:=λj=>by
   have hi:i-1<s.Xr.length:=by
    have:i<s.Xr.length:=by
     rcases qN i s.Xr.length with m|m
     .exact m
     .rw[qR m]at f;cases f
    omega
   have u:=qQ hi;have e:gC_ s.Xr i=s.Xr[i-1]:=by
    unfold gC_;rw[za,u];rfl
   rw[e];exact h.asc i x _ j f u
  unfold badS;rw[q];simp only[qP,qDf,zh,jC];refine⟨⟨⟨by omega,by omega⟩,?_⟩,trivial⟩;by_cases j:0<i
  .exact .inr (by have:=M j;omega)
  .exact .inl j
theorem Right_eq(s:Xw)(z:SizeOK s.Xf)(hb:qb_ s.Xf)(ZZ:s.Yk.Xn.length<=120):∃b,iV_ s=some b/\(b=true↔Ok17 s):=by
 unfold iV_;by_cases O:s.Xr.length<=64
 .obtain⟨b1,J,V⟩:=vF_ s.Xf z hb;obtain⟨b2,Y,U⟩:=Right_iff (s:=s.Yk) (by omega);cases b1 with
  | false=>exact⟨false,aa_ (a:=true) (ab_ (by simp;omega) (aa_ J rfl)) (aa_ (a:=true) rfl rfl),λh=>(nomatch h),λh=>by rw[V.2 h.files]⟩
  | true =>
  cases b2 with
  | false=>exact⟨false,aa_ (a:=false) (ab_ (by simp;omega) (aa_ J rfl)) (aa_ (a:=true) (ab_ rfl (aa_ Y rfl)) rfl),λh=>(nomatch h),λh=>by rw[U.2 h.store]⟩
  | true =>
   have Z:=V.1 rfl;have M:=U.1 rfl;have D:=bg_ (body:=id_ s) s.Xr (λi x=>if badS s i x then some false else none) (bB_ (by omega)) (λi hi => ?_) (by unfold id_;exact ab_ (be_ _) rfl)
   .refine⟨(aO_ (λi x=>if badS s i x then some false else none) 0 s.Xr).getD true,aa_ (a:=false) (ab_ (by simp;omega) (aa_ J rfl)) (aa_ (a:=false) (ab_ rfl (aa_ Y rfl)) (bk_ D (λr=>rfl) rfl)),?_⟩;rw[oo_ (p:=λi x => !(badS s i x)) (λi x=>by cases badS s i x<;>rfl)];simp only[qg,qH];exact bad_iff O Z M
   .unfold id_;refine ae_ (aT_ hi) (aa_ (ap_ hi) ?_);obtain⟨T,E,q⟩:=ti_ M s.Xr[i].Xi;have C:okTr s.Yk s.Xr[i].Xi=(E==0):=by unfold okTr;rw[q.ref]
    have f:∀m:0<i,an_ s.Xr (w64 ((i:Int)-1))=some (gC_ s.Xr i):=λm=>jM_ _ m hi (by omega)
    have j:(Option.bind (bif decide ((i:Int)>0)then(an_ s.Xr (w64 ((i:Int)-1))).bind λy=>some (decide (y.Yb>=s.Xr[i].Yb))else some false) λ(u:Bool)=>some u)=some (decide (0<i)&&decide ((gC_ s.Xr i).Yb>=s.Xr[i].Yb)):=by
     by_cases m:0<i
     .have e:decide ((i:Int)>0)=true:=by simpa using m
      rw[e,f m];simp[m]
     .have e:decide ((i:Int)>0)=false:=by simp;omega
      rw[e];simp[m]
    refine aa_ (a:=(decide (s.Xr[i].Yb<0)||decide (s.Xr[i].Yb>1099511627776))||(decide (0<i)&&decide ((gC_ s.Xr i).Yb>=s.Xr[i].Yb))) ?_ ?_
    .cases hc:decide (s.Xr[i].Yb<0)||decide (s.Xr[i].Yb>1099511627776)with
     | true=>rfl
     | false=>exact ab_ rfl j
    .unfold badS;cases hc:(decide (s.Xr[i].Yb<0)||decide (s.Xr[i].Yb>1099511627776))||(decide (0<i)&&decide ((gC_ s.Xr i).Yb>=s.Xr[i].Yb))with
     | true=>rfl
     | false =>
      refine ab_ rfl (aa_ q.ref ?_);rw[C];by_cases G:E=0
      .subst G;obtain⟨b3,e3,g3⟩:=hp_ T q.len (oD_ (q.ok rfl));have F:=g3.2 (q.ok rfl);subst F;refine aa_ (a:=false) (ab_ rfl (aa_ e3 rfl)) ?_;rw[as_ (by omega)];rfl
      .refine aa_ (a:=true) (ae_ (by simpa using G) rfl) ?_;have:(E==0)=false:=by simpa using G
       rw[this];rfl
 .exact⟨false,aa_ (a:=true) (ae_ (by simp;omega) rfl) (aa_ (a:=true) rfl rfl),λh=>(nomatch h),λh=>absurd h.sl O⟩
theorem srv_fit{x:Xw}(h:Fit te (.st snapN) x):op_ x.Xf.Yz/\qa_ x.Xf.Yx/\qb_ x.Xf :=
 ⟨λu j=>((h 1).1.2 u j).1,λq m=>((h 1).2.1.2 q m).1,λn f=>⟨((h 1).2.2.2.1.2 n f).2.2.2.2.1.2,((h 1).2.2.2.1.2 n f).2.2.2.1⟩⟩
theorem ask17{x:Xw}{P:Option Bool}{p:Bool}(h:op_ x.Xf.Yz/\qa_ x.Xf.Yx/\qb_ x.Xf)(y:P=some p){A B:Option Bool}(j:A=some true)(C:p=false->Small17 x->SizeOK x.Xf->Ok17 x->B=some true) :
  (Option.bind (iR_ x) λ(u:Bool)=>Option.bind (bif !u then some true else P) λ(s:Bool)=>Option.bind (bif s then some true else(iV_ x).bind λq=>some (!q)) λ(m:Bool)=>bif m then A else B)=some true:=by
 obtain⟨b,F,D⟩:=small_eq x;refine aa_ F ?_;cases b with
 | false=>exact aa_ (a:=true) rfl (aa_ (a:=true) rfl j)
 | true =>
  have f:=D rfl;have z:=f.size h.1 h.2.1;refine aa_ (a:=p) y ?_;cases p with
  | true=>exact aa_ (a:=true) rfl j
  | false =>
   obtain⟨c,J,G⟩:=Right_eq x z h.2.2 f.bl;refine aa_ (a := !c) (aa_ J rfl) ?_;cases c with
   | false=>exact j
   | true=>exact C rfl f z (G.1 rfl)
theorem srv_at{s:Xw}(h:Ok17 s)(z:SizeOK s.Xf){k:Int}(k1:1<=k)(kl:k<=(s.Xr.length:Int)+1) :
  ∃F,FileOK F/\SizeOK F/\cE_ s k=some F/\((k=1/\F=s.Xf)\/(k>1/\∃x∈s.Xr,an_ s.Xr (w64 (k-2))=some x/\∃T,b0_ s.Yk x.Xi=some (T,0)/\F=Xj.mk s.Xf.Yz s.Xf.Yx T [])):=by
 have u:=h.sl;by_cases q:k=1
 .subst q;exact⟨s.Xf,h.files,z,rfl,.inl ⟨rfl,rfl⟩⟩
 .obtain⟨i,hi⟩:∃i:Nat,k=(i:Int)+2:=⟨(k-2).toNat,by omega⟩;have f:i<s.Xr.length:=by omega
  have j:an_ s.Xr (w64 (k-2))=some s.Xr[i]:=by
   rw[ao_ ⟨by omega,by omega⟩,show k-2=(i:Int)by omega];exact ap_ f
  have m:=qx f;obtain⟨T,p⟩:=h.tree _ m;refine⟨Xj.mk s.Xf.Yz s.Xf.Yx T [],⟨h.files.us,h.files.qs,p.ok rfl,by simp[cb_],λx m=>by cases m⟩,⟨z.ul,z.um,z.us,z.ql,z.qs,p.len,by simp⟩,?_,.inr ⟨by omega,_,m,j,T,p.get,rfl⟩⟩;unfold cE_;exact ab_ (by simpa using q) (aa_ j (aa_ p.ref rfl))
structure Found(s:Xw)(id:Int)(F:Xj)(k:Int):Prop where
 ge:1048576<=id
 kk:IntKind.i64.wrap (id.tdiv 1048576)=k
 k1:1<=k
 kl:k<=(s.Xr.length:Int)+1
 ok:FileOK F
 size:SizeOK F
 find:cn_ s id=some (Ye.mk F k (id.tmod 1048576),true)
 ex:cU_ s id=some true
 srv:cE_ s k=some F
 is:isS F (id.tmod 1048576)=true
 snap:k>1->∃x∈s.Xr,an_ s.Xr (w64 (k-2))=some x
def zeroP(t i:Int):Ye:=Ye.mk (Xj.mk [] [] (Xv.mk 0 []) []) t i
theorem look{s:Xw}(h:Ok17 s)(z:SizeOK s.Xf){id:Int}(O:I64 id) :
  ((id=1\/id=2)/\cn_ s id=some (zeroP 0 id,true)/\cU_ s id=some true)\/(¬(id=1\/id=2)/\(∃p,cn_ s id=some (p,false))/\cU_ s id=some false)\/∃F k,Found s id F k:=by
 have ZZ:=h.sl;by_cases q:id=1\/id=2
 .refine .inl ⟨q,?_,?_⟩
  .unfold cn_;exact ae_ (by rcases q with rfl|rfl<;>rfl) rfl
  .unfold cU_;exact ae_ (by rcases q with rfl|rfl<;>rfl) rfl
 .have m:((id==1)||(id==2))=false:=by
   simp only[not_or]at q;simp[q.1,q.2]
  have J:w64 ((s.Xr.length:Int)+1)=(s.Xr.length:Int)+1:=ao_ ⟨by omega,by omega⟩;have V:(1048576<=id->1<=IntKind.i64.wrap (id.tdiv 1048576))/\(id<1048576->IntKind.i64.wrap (id.tdiv 1048576)<1):=by
   obtain⟨i1,i2⟩:=O;by_cases h0:0<=id
   .rw[zC h0,dB_ ⟨by omega,by omega⟩];omega
   .obtain⟨u,rfl⟩:∃u:Nat,id = -(u:Int):=⟨(-id).toNat,by omega⟩;rw[Int.neg_tdiv,zC (by omega),dB_ ⟨by omega,by omega⟩];omega
  by_cases C:id<1048576\/IntKind.i64.wrap (id.tdiv 1048576)>(s.Xr.length:Int)+1
  .refine .inr (.inl ⟨q,⟨zeroP 0 0,?_⟩,?_⟩)
   .unfold cn_;refine ab_ m (ae_ ?_ rfl);rw[J];simpa using C
   .unfold cU_;refine ab_ m (ae_ ?_ rfl);rw[J];simp only[qT,qDe];rcases C with C|C
    .exact .inl (.inr (V.2 C))
    .exact .inr C
  .have G:1048576<=id:=by omega
   have k1:=V.1 G;have kl:IntKind.i64.wrap (id.tdiv 1048576)<=(s.Xr.length:Int)+1:=by omega
   have U:∀{F:Xj},SizeOK F->cE_ s (IntKind.i64.wrap (id.tdiv 1048576))=some F->cU_ s id=some (isS F (id.tmod 1048576)):=λzF hF=>by
    unfold cU_;refine ab_ m (ab_ ?_ (aa_ hF (aa_ (aK_ _ _ (nl2 zF)) rfl)));rw[J];simp only[qP,qDf];omega
   generalize D:IntKind.i64.wrap (id.tdiv 1048576)=k at *
   obtain⟨F,f1,f2,Z,Y⟩:=srv_at h z k1 kl;have j:=U f2 Z;have f:cn_ s id=some (Ye.mk F k (id.tmod 1048576),isS F (id.tmod 1048576)):=by
    unfold cn_;rw[D,J];refine ab_ m (ab_ (by simpa using C) ?_);rcases Y with⟨rfl,rfl⟩|⟨q1,x,_,M,T,q3,rfl⟩
    .exact aa_ (ab_ rfl rfl) (aa_ (cV_ _ _ (nl2 z)) rfl)
    .exact aa_ (ae_ (by simpa using q1) (aa_ M (aa_ q3 (ab_ rfl rfl)))) (aa_ (cV_ _ _ (nl2 f2)) rfl)
   cases y:isS F (id.tmod 1048576)with
   | false =>
    rw[y]at f j;exact .inr (.inl ⟨q,⟨_,f⟩,j⟩)
   | true =>
    rw[y]at f j;refine .inr (.inr ⟨F,k,G,D,k1,kl,f1,f2,f,j,Z,y,λZY => ?_⟩);rcases Y with⟨rfl,_⟩|⟨_,x,hx,M,_⟩
    .omega
    .exact⟨x,hx,M⟩
theorem svalid_eq{s:Xw}(h:Ok17 s)(z:SizeOK s.Xf)(user:Str)(f:user.length<=9223372036854775807):if_ s user=some (vU user):=by
 unfold if_;refine aa_ (walk_eq h.files z user 0 [] f) (qL some ?_);have m:isS s.Xf 0=false:=by
  cases hi:isS s.Xf 0 with
  | false=>rfl
  | true =>
   obtain⟨j,p⟩:=aA_ hi;have:=h.files.tr.ge j;omega
 unfold walkS dirC;rw[m];cases vU user<;>rfl
def dirF(F:Xj)(m:Int):Bool:=al_ (ak_ F m).Xk 31
theorem has17(x:Int)(f:x<=9223372036854775807):eb_ x 2147483648=some (al_ x 31):=p7_ x 31 (by omega) f
theorem Found.dir{s:Xw}{id:Int}{F:Xj}{k:Int}(f:Found s id F k):dQ_ (Ye.mk F k (id.tmod 1048576))=some (dirF F (id.tmod 1048576))/\el_ s id=some (dirF F (id.tmod 1048576)):=by
 have hm:=ch_ f.ok (id.tmod 1048576);constructor
 .unfold dQ_;have k1:=f.k1;refine ab_ (by simp;omega) (aa_ (cV_ _ _ (nl2 f.size)) (qL some ?_));exact eY_ (gB_ (f.ok.tr.flds _ (aA_ f.is).1)).1
 .unfold el_;have ge:=f.ge;refine ab_ (by simp;omega) ?_;rw[f.kk];exact aa_ f.srv (aa_ (aK_ _ _ (nl2 f.size)) (aa_ (has17 _ hm) rfl))
theorem zero_dir{s:Xw}{id:Int}(h:id=1\/id=2):dQ_ (zeroP 0 id)=some true/\el_ s id=some true:=by
 rcases h with rfl|rfl<;>exact⟨rfl,rfl⟩
theorem sP_{l:List Xq}{next:Int}(h:OkT l next)(f:Nat){id:Int}:∀{ks:List Int} {a b:Str×Xx},(∀k∈ks,k∈aQ_ l id)->StOK a.2->aX_ (fPN l (bl_ l f)) a ks = .inl b->StOK b.2/\StLe a.2 b.2
 | [],a,b,_,m,hr=>by
  simp only[aX_,Sum.inl.injEq]at hr;subst hr;exact⟨m,StLe.refl _⟩
 | k::ks,a,b,q,m,hr=>by
  obtain⟨c,x,_,_,_,j,_⟩:=ex_ h (q k qE);obtain⟨F,D,_⟩:=fd_ h f (s:=a.2) x m;simp only[aX_]at hr;unfold fPN at hr;rw[j]at hr;simp only at hr;by_cases u:(bl_ l f a.2 c).2.2=0
  .rw[qV u]at hr;obtain⟨C,y⟩:=sP_ h f (ks:=ks) (λk p=>q k (qC _ p)) (by exact F) hr;exact⟨C,D.trans y⟩
  .rw[qX u]at hr;cases hr
theorem fPN_err{l:List Xq}{f:Nat}:∀{ks:List Int} {a:Str×Xx} {e:Int},aX_ (fPN l (bl_ l f)) a ks = .inr e->e≠0
 | [],a,e,h=>by cases h
 | k::ks,a,e,h=>by
  simp only[aX_]at h;unfold fPN at h;by_cases j:(bl_ l f a.2 (ai_ l k).1).2.2=0
  .rw[qV j]at h;exact fPN_err (ks:=ks) h
  .rw[qX j]at h;simp only[Sum.inr.injEq]at h;rw[←h];exact j
theorem win_on{s p q:Str}{a w:Nat}(h:s.drop a=p++q)(f:p.length=w):win s a w=p/\s.drop (a+w)=q/\s.length-a=w+q.length:=by
 subst f;refine⟨?_,?_,?_⟩
 .unfold win;rw[h,List.take_left'];rfl
 .rw[←jV,h,List.drop_left'];rfl
 .have:=qL List.length h;rw[qc,qLa]at this;exact this
theorem ms_{s q:Str}{a w:Nat}{n:Int}(h:s.drop a=leB n w++q)(y:0<=n)(x:n<=9223372036854775807)(f:n.toNat<2^(8*w)):nD s w a=some (n,a+w)/\s.drop (a+w)=q:=by
 obtain⟨u,p,C⟩:=win_on h (aL_ _ _);obtain⟨m,rfl⟩:∃m:Nat,n=(m:Int):=⟨n.toNat,by omega⟩;rw[qTn]at f;have j:=leV_leL w m f;refine⟨?_,p⟩;unfold nD;rw[u,j,qX (by omega)]
theorem tD_on{s q t:Str}{a:Nat}(h:s.drop a=b1_ t++q)(u:t.length<=64):tD s a=some (t,a+(2+t.length))/\s.drop (a+(2+t.length))=q:=by
 unfold b1_ at h;rw[qe]at h;obtain⟨p,m,j⟩:=win_on h (aL_ _ _);have f:=leV_leL 2 t.length (by omega);obtain⟨f1,f2,x⟩:=win_on m rfl;rw[qLa]at j;refine⟨?_,by rw[←zO];exact f2⟩;unfold tD takeT;rw[p,f,qX (by omega),qX (by omega),f1,zO]
theorem sD_on{s q t:Str}{a:Nat}(h:s.drop a=t++q)(f:t.length=32):sD s a=some (t,a+32)/\s.drop (a+32)=q:=by
 obtain⟨m,j,p⟩:=win_on h f;refine⟨?_,j⟩;unfold sD;rw[m,qX (by omega)]
structure EntF(n:Xq)(r:Xb):Prop where (ok:EntOK n r) (at_:n.Yw<=1099511627776) (mt_:n.Xe<=1099511627776)
theorem entD_on{s q:Str}{a:Nat}{n:Xq}{r:Xb}(m:EntF n r)(j:s.drop a=ed_ n r++q):ga_ s a=some (bare n,r,a+(ed_ n r).length)/\s.drop (a+(ed_ n r).length)=q:=by
 have h:=m.ok;have O:(ed_ n r).length=4+4+4+4+8+8+(2+n.Xg.length)+(2+n.Yg.length)+(2+n.Yj.length)+(2+n.Ym.length)+4+1+32:=by
  simp only[ed_,qLa,aL_,b2_,h.score]
 rw[O];unfold ed_ at j;simp only[qe]at j;have ZW:=h.id;have ZX:=h.par;have ZY:=h.vers;have ZZ:=h.mode;have J:=h.len;have G:=h.lev;have Z:=h.atime;have Y:=h.mtime;have V:=m.at_;have U:=m.mt_;obtain⟨d1,g1⟩:=ms_ j (by omega) (by omega) (by omega);obtain⟨d2,g2⟩:=ms_ g1 (by omega) (by omega) (by omega);obtain⟨d3,g3⟩:=ms_ g2 (by omega) (by omega) (by omega);obtain⟨d4,g4⟩:=ms_ g3 (by omega) (by omega) (by omega);obtain⟨d5,g5⟩:=ms_ g4 (by omega) (by omega) (by omega);obtain⟨d6,g6⟩:=ms_ g5 (by omega) (by omega) (by omega);obtain⟨d7,g7⟩:=tD_on g6 h.name;obtain⟨d8,g8⟩:=tD_on g7 h.uid;obtain⟨d9,g9⟩:=tD_on g8 h.gid
 obtain⟨F,x⟩:=tD_on g9 h.muid;obtain⟨D,u⟩:=ms_ x (by omega) (by omega) (by omega);obtain⟨C,p⟩:=ms_ u (by omega) (by omega) (by omega);obtain⟨y,f⟩:=sD_on p h.score;have M:a+4+4+4+4+8+8+(2+n.Xg.length)+(2+n.Yg.length)+(2+n.Yj.length)+(2+n.Ym.length)+4+1+32=a+(4+4+4+4+8+8+(2+n.Xg.length)+(2+n.Yg.length)+(2+n.Yj.length)+(2+n.Ym.length)+4+1+32):=by omega
 rw[M]at f;refine⟨?_,f⟩;unfold ga_;simp only[d1,d2,d3,d4,d5,d6,d7,d8,d9,F,D,C,y,qBs,M];rfl
theorem ents_on{s:Str}:∀{es:List (Xq×Xb)} {f a:Nat},(∀q∈es,EntF q.1 q.2/\bare q.1=q.1)->s.drop a=(es.map λq=>ed_ q.1 q.2).flatten->s.length-a<f->ft_ s f a=some es
 | [],f,a,_,h,x=>by
  obtain⟨f,rfl⟩:∃g,f=g+1:=⟨f-1,by omega⟩;have:=qL List.length h;rw[qc]at this;unfold ft_;rw[qX];simp at this;omega
 | q::es,f,a,m,h,x=>by
  obtain⟨f,rfl⟩:∃g,f=g+1:=⟨f-1,by omega⟩;obtain⟨p,y⟩:=m q qE;rw[zB,qv]at h;obtain⟨D,C⟩:=entD_on p h;have F:=(fC_ p.ok).2;have:=qL List.length h;rw[qc,qLa]at this;have u:=ents_on (es:=es) (f:=f) (λq j=>m q (qC _ j)) C (by omega);unfold ft_;rw[qV (by omega),D];simp only[qBs];rw[u,y];rfl
theorem kids_on{s:Str}{es:List (Xq×Xb)}{id:Int}(h:∀q∈es,EntF q.1 q.2/\bare q.1=q.1/\q.1.Xh=id)(j:s=(es.map λq=>ed_ q.1 q.2).flatten):fv_ s id (s.length+1) 0=some es:=by
 unfold fv_;rw[ents_on (λq f=>⟨(h q f).1,(h q f).2.1⟩) (by rw[zo];exact j) (by omega)];have:(es.all λq=>q.1.Xh==id)=true:=qh.2 λq f=>by
  rw[(h q f).2.2];exact jX _
 simp only[qBs,this,jB]
theorem finP_back{s u:Xx}{k:Int}{d:Str}(p:1<=k/\k<=4)(m:StOK s)(q:d.length<=1048576)(j:(c8_ s k d).2.2=0)(h:StLe (c8_ s k d).1 u):(aw_ u k (c8_ s k d).2.1).1=d/\(aw_ u k (c8_ s k d).2.1).2.2=0:=by
 unfold c8_ at j h ⊢;by_cases f:(f9_ s k d).err=0
 .rw[qV f]at h ⊢;have x:=put_sto p m q f;obtain⟨y,_⟩:=upF_ok 3 p m (ps:=pieces d);exact fileR_sto q (sto_score y x) (x.le h)
 .rw[qX f]at j;exact absurd j f
def c9_(l:List Xq):Nat->Xq->List Xq | 0,_=>[]|f+1,n=>if al_ n.Xk 31 then n::(aQ_ l n.Id_).flatMap (λk=>c9_ l f (ai_ l k).1)else[n]
theorem sub_head{l:List Xq}{f:Nat}(n:Xq)(h:0<f):n∈c9_ l f n:=by
 obtain⟨f,rfl⟩:∃g,f=g+1:=⟨f-1,by omega⟩;unfold c9_;split
 .exact qE
 .exact qE
theorem iu_{l:List Xq}{next:Int}(h:OkT l next):∀(f:Nat) {n x:Xq},n∈l->x∈c9_ l f n->x∈l/\n.Id_<=x.Id_
 | 0,n,x,_,j=>by cases j
 | f+1,n,x,p,j=>by
  unfold c9_ at j;split at j
  .rcases qW.1 j with rfl|j
   .exact⟨p,Int.le_refl _⟩
   .obtain⟨k,s,j⟩:=jT.1 j;obtain⟨c,u,e,_,_,m,q⟩:=ex_ h s;rw[m]at j;obtain⟨y,C⟩:=iu_ h f u j;exact⟨y,by omega⟩
  .rw[qD]at j;rw[j];exact⟨p,Int.le_refl _⟩
theorem mem_child{l:List Xq}{c:Xq}{id:Int}(h:c∈l)(f:c.Xh=id)(j:c.Id_≠1):c.Id_∈aQ_ l id:=by
 unfold aQ_;refine qz.2 ⟨c,zR.2 ⟨h,?_⟩,rfl⟩;simp[f,j]
theorem v3_{l:List Xq}{next:Int}(h:OkT l next):∀(f:Nat) {n p c:Xq},(next-n.Id_).toNat<f->n∈l->p∈c9_ l f n->al_ p.Xk 31=true->c∈l->c.Id_≠1->c.Xh=p.Id_->p.Id_<c.Id_->c∈c9_ l f n
 | 0,n,p,c,J,_,_,_,_,_,_,_=>by omega
 | f+1,n,p,c,J,M,j,C,x,G,u,y=>by
  unfold c9_ at j ⊢;by_cases s:al_ n.Xk 31=true
  .rw[qV s]at j ⊢;refine qC _ (jT.2 ?_);rcases qW.1 j with rfl|j
   .refine⟨c.Id_,mem_child x u G,?_⟩;rw[ca_ h.srt x];have:=h.nxt c x;exact sub_head c (by omega)
   .obtain⟨k,F,j⟩:=jT.1 j;refine⟨k,F,?_⟩;obtain⟨m,hm,e,_,_,q,D⟩:=ex_ h F;rw[q]at j ⊢;have:=h.nxt m hm;exact v3_ h f (n:=m) (by omega) hm j C x G u y
  .rw[qX s]at j;rw[qD]at j;rw[j]at C;exact absurd C s
theorem sub_all{l:List Xq}{next:Int}(h:OkT l next){f:Nat}(D:(next-(b7_ l).Id_).toNat<f):∀(m:Nat) {x:Xq},x.Id_.toNat<=m->x∈l->x∈c9_ l f (b7_ l)
 | 0,x,hm,j=>by
  have:=h.ge j;omega
 | m+1,x,hm,j=>by
  obtain⟨y,F,_⟩:=nS_ h;have G:=h.ge j;by_cases u:x.Id_=1
  .have:x=b7_ l:=kX_ h.srt j y (by rw[u,F]);rw[this];exact sub_head _ (by omega)
  .obtain⟨p,C,e,s,J⟩:=h.par x j u;have q:=sub_all h D m (x:=p) (by have:=h.ge C;omega) C;exact v3_ h f D y q J j u e.symm s
theorem tj_{l:List Xq}{next:Int}(h:OkT l next):∀(f:Nat) {n x:Xq},n∈l->x∈c9_ l f n->x=n\/(x.Id_≠1/\∃p∈c9_ l f n,p.Id_=x.Xh)
 | 0,n,x,_,j=>by cases j
 | f+1,n,x,M,j=>by
  unfold c9_ at j ⊢;by_cases y:al_ n.Xk 31=true
  .rw[qV y]at j ⊢;rcases qW.1 j with rfl|j
   .exact .inl rfl
   .obtain⟨k,u,j⟩:=jT.1 j;obtain⟨c,F,e,q,s,m,D⟩:=ex_ h u;rw[m]at j;refine .inr ?_;rcases tj_ h f F j with rfl|⟨G,p,C,J⟩
    .exact⟨s,n,qE,q.symm⟩
    .exact⟨G,p,qC _ (jT.2 ⟨k,u,by rw[m];exact C⟩),J⟩
  .rw[qX y]at j;rw[qD]at j;exact .inl j
theorem sub_apart{l:List Xq}{next:Int}(h:OkT l next)(f:Nat){D C:Xq}(y:D∈l)(G:C∈l)(Z:D.Xh=C.Xh)(M:D.Xh<D.Id_)(J:C.Xh<C.Id_)(F:D≠C):∀(m:Nat) {x:Xq},x.Id_.toNat<=m->x∈c9_ l f D->x∈c9_ l f C->False
 | 0,x,hm,j,s=>by
  have:=h.ge (iu_ h f y j).1;omega
 | m+1,x,hm,j,s=>by
  rcases tj_ h f y j with rfl|⟨g1,U,u,e1⟩
  .rcases tj_ h f G s with rfl|⟨g2,O,q,Y⟩
   .exact F rfl
   .have:=(iu_ h f G q).2;omega
  .rcases tj_ h f G s with rfl|⟨g2,O,q,Y⟩
   .have:=(iu_ h f y u).2;omega
   .obtain⟨V,_⟩:=iu_ h f y u;obtain⟨i2,_⟩:=iu_ h f G q;have e:U=O:=kX_ h.srt V i2 (by rw[e1,Y]);subst e;obtain⟨p,_,e3,ZZ,_⟩:=h.par x (iu_ h f y j).1 g1;have:=h.ge V;exact sub_apart h f y G Z M J F m (x:=U) (by omega) u q
theorem child_nodup{l:List Xq}{next:Int}(h:OkT l next)(id:Int):(aQ_ l id).Nodup:=by
 unfold aQ_;rw[jP,List.pairwise_map];exact(h.srt.filter _).imp λf e=>by omega
theorem v4_{l:List Xq}{next:Int}(h:OkT l next){f:Nat}(IH:∀n∈l,(c9_ l f n).Nodup){id:Int}:∀{ks:List Int},(∀k∈ks,k∈aQ_ l id)->ks.Nodup->(ks.flatMap λk=>c9_ l f (ai_ l k).1).Nodup
 | [],_,_=>List.nodup_nil
 | k::ks,x,V=>by
  obtain⟨c,M,e,y,Z,m,Y⟩:=ex_ h (x k qE);obtain⟨F,O⟩:=List.nodup_cons.1 V;rw[List.flatMap_cons,m];refine List.nodup_append.2 ⟨IH c M,v4_ h IH (λk u=>x k (qC _ u)) O,λa ha b s D => ?_⟩;subst D;obtain⟨U,p,s⟩:=jT.1 s;obtain⟨c2,C,e2,q,J,j,G⟩:=ex_ h (x U (qC _ p));rw[j]at s;refine sub_apart h f M C (by rw[y,q]) (by omega) (by omega) (λee => ?_) _ (qA _) ha s;rw[←e,ee,e2]at F;exact F p
theorem sub_nodup{l:List Xq}{next:Int}(h:OkT l next):∀(f:Nat),∀n∈l,(c9_ l f n).Nodup
 | 0,n,_=>List.nodup_nil
 | f+1,n,y=>by
  unfold c9_;split
  .refine List.nodup_cons.2 ⟨λhm => ?_,v4_ h (sub_nodup h f) (λk m=>m) (child_nodup h _)⟩;obtain⟨k,m,p⟩:=jT.1 hm;obtain⟨c,x,e,s,u,j,q⟩:=ex_ h m;rw[j]at p;have:=(iu_ h f x p).2;omega
  .exact List.nodup_cons.2 ⟨by simp,List.nodup_nil⟩
theorem srt_nodup{l:List Xq}(h:l.Pairwise λa b=>a.Id_<b.Id_):l.Nodup:=by
 rw[jP];exact h.imp λf e=>by rw[e]at f;omega
theorem sub_perm{l:List Xq}{next:Int}(h:OkT l next){f:Nat}(p:(next-(b7_ l).Id_).toNat<f):(c9_ l f (b7_ l)).Perm l:=by
 obtain⟨m,_⟩:=nS_ h;exact(List.perm_ext_iff_of_nodup (sub_nodup h f _ m) (srt_nodup h.srt)).2 λx=>⟨λj=>(iu_ h f m j).1,λj=>sub_all h p _ (qA _) j⟩
theorem OkT.entF{l:List Xq}{next:Int}(h:OkT l next){n:Xq}(f:n∈l){r:Xb}(hr:RootF r):EntF (bare n) r:=by
 obtain⟨_,_,m,j,_⟩:=gB_ (h.flds n f);exact⟨(h.ent f hr).bare,m.2,j.2⟩
theorem bare_eq{n:Xq}(h:n.Xl=[]):bare n=n:=by
 cases n
 simp only at h;rw[h];rfl
def BackOK(l:List Xq)(f:Nat):Prop:=∀(s u:Xx) (n:Xq) (g:Nat) (left:Int),n∈l->StOK s->(bl_ l f s n).2.2=0->StLe (bl_ l f s n).1 u->((c9_ l f n).length:Int)<=left->left.toNat<g->∃seen,bc_ u g (bare n) (bl_ l f s n).2.1 left=(c9_ l f n,seen,0)
theorem kids_back{l:List Xq}{next:Int}(h:OkT l next){f:Nat}(IH:BackOK l f){id:Int}{u:Xx}:∀{ks:List Int} {a b:Str×Xx},(∀k∈ks,k∈aQ_ l id)->StOK a.2->aX_ (fPN l (bl_ l f)) a ks = .inl b->StLe b.2 u ->
  ∃es:List (Xq×Xb),b.1=a.1++(es.map λq=>ed_ q.1 q.2).flatten/\(∀q∈es,EntF q.1 q.2/\bare q.1=q.1/\q.1.Xh=id) /\
   ∀(g:Nat) (left:Int) (acc:List Xq×List Str),(acc.1.length:Int)+((ks.flatMap λk=>c9_ l f (ai_ l k).1).length:Int)<=left->(left-(acc.1.length:Int)).toNat<g->∃seen,aX_ (fG (bc_ u g) left) acc es = .inl (acc.1++ks.flatMap (λk=>c9_ l f (ai_ l k).1),seen)
 | [],a,b,_,C,hr,y=>by
  simp only[aX_,Sum.inl.injEq]at hr;subst hr;exact⟨[],by simp,λq m=>(by cases m),λg left acc _ _=>⟨acc.2,by simp[aX_]⟩⟩
 | k::ks,a,b,M,C,hr,y=>by
  obtain⟨c,G,e,F,Y,j,U⟩:=ex_ h (M k qE);obtain⟨O,b2,b3⟩:=fd_ h f (s:=a.2) G C;have p:∀k∈ks,k∈aQ_ l id:=λk D=>M k (qC _ D)
  simp only[aX_]at hr;unfold fPN at hr;rw[j]at hr;simp only at hr;by_cases x:(bl_ l f a.2 c).2.2=0
  .rw[qV x]at hr;obtain⟨_,c2⟩:=sP_ h f p (by exact O) hr;obtain⟨es,e1,e2,e3⟩:=kids_back h IH p (by exact O) hr y;refine⟨(bare c,(bl_ l f a.2 c).2.1)::es,?_,λq m => ?_,λg left acc J V => ?_⟩
   .rw[e1];simp only[zB,qv,sK_,qe]
   .rcases qW.1 m with rfl|m
    .exact⟨h.entF G (b3 x),rfl,F⟩
    .exact e2 q m
   .rw[List.flatMap_cons,j,qLa]at J
    dsimp only at J
    obtain⟨seen1,g1⟩:=IH a.2 u c g (left-(acc.1.length:Int)) G C x (StLe.trans c2 y) (by omega) V;obtain⟨seen2,Z⟩:=e3 g left (acc.1++c9_ l f c,acc.2++seen1) (by simp only[qLa];omega) (by simp only[qLa];omega);refine⟨seen2,?_⟩;simp only[aX_];unfold fG;simp only[g1,jB];refine Z.trans ?_;rw[List.flatMap_cons,j,qe]
  .rw[qX x]at hr;cases hr
theorem back_succ{l:List Xq}{next:Int}(h:OkT l next){f:Nat}(IH:BackOK l f):BackOK l (f+1):=by
 intro s u n g left hn M m F D hg;obtain⟨g,rfl⟩:∃g',g=g'+1:=⟨g-1,by omega⟩;obtain⟨o1,_,_,_,_,_,_,o8,o9⟩:=gB_ (h.flds n hn);have p:=eY_ o1;by_cases x:al_ n.Xk 31=true
 .rw [x,qDe]at p;have j:aS_ (bare n)=3:=qV p;have Z:c9_ l (f+1) n=n::(aQ_ l n.Id_).flatMap (λk=>c9_ l f (ai_ l k).1):=by rw[c9_,qV x]
  cases C:aX_ (fPN l (bl_ l f)) ([],s) (aQ_ l n.Id_)with
  | inr e =>
   have J:bl_ l (f+1) s n=(s,e5_,e):=by rw[bl_,qV x,C];rfl
   rw[J]at m;exact absurd m (fPN_err C)
  | inl a =>
   have J:bl_ l (f+1) s n=c8_ a.2 3 a.1:=by rw[bl_,qV x,C];rfl
   rw[J]at m F ⊢;rw[Z]at D ⊢;obtain⟨m1,m2⟩:=sP_ h f (λk V=>V) (by exact M) C;have O:StLe a.2 (c8_ a.2 3 a.1).1:=by
    unfold c8_;split
    .exact(upF_ok 3 (by omega) m1).2
    .exact StLe.refl _
   obtain⟨es,e1,e2,e3⟩:=kids_back h IH (λk V=>V) (by exact M) C (O.trans F);rw[zG]at e1;have G:a.1.length<=1048576:=by
    have hr:=fs_ (f:=fPN l (bl_ l f)) (λi a=>StOK a.2/\a.1.length<=333*i) (λe=>e≠0) (xs:=aQ_ l n.Id_) (k:=0) (s0:=([],s)) ⟨M,by simp⟩ λi a id Y ⟨a1,a3⟩=>by
     obtain⟨c,hc,_,_,_,y,_⟩:=ex_ h Y;obtain⟨b1,b2,b3⟩:=fd_ h f (s:=a.2) hc a1;unfold fPN;rw[y];simp only;refine⟨λs' m => ?_,λe m => ?_⟩
     .split at m
      .rename_i h0;obtain rfl:=zT m;have:=(fC_ (h.ent hc (b3 h0))).1;refine⟨b1,?_⟩;simp only[qLa];omega
      .cases m
     .split at m
      .cases m
      .rename_i h0;obtain rfl:=zm m;exact h0
    obtain⟨_,a2⟩:=hr.1 a C;have:=nL_ l n.Id_;have:=h.len;omega
   obtain⟨f1,f2⟩:=finP_back (by omega) m1 G m F;generalize(c8_ a.2 3 a.1).2.1=R at *
   have U:fv_ a.1 (bare n).Id_ (a.1.length+1) 0=some es:=kids_on e2 e1;obtain⟨seen,g1⟩:=e3 g left ([n],(aw_ u 3 R).2.1) (by simp only[qLc,zp]at D ⊢;omega) (by simp only[qLc,zp]at D ⊢;omega);refine⟨seen,?_⟩;rw[bc_,qX (by simp only[qLc]at D;omega),j,qV f2,qV (by exact p),f1,U];simp only;rw[bare_eq (o9 x),g1];rfl
 .have q:¬n.Xk>=2147483648:=λhm=>x (by rw[←p];exact decide_eq_true hm)
  have j:aS_ (bare n)=1:=qX q;have Z:c9_ l (f+1) n=[n]:=by rw[c9_,qX x]
  have J:bl_ l (f+1) s n=c8_ s 1 n.Xl:=by rw[bl_,qX x]
  rw[J]at m F ⊢;rw[Z]at D ⊢;obtain⟨f1,f2⟩:=finP_back (by omega) M (by omega) m F;generalize(c8_ s 1 n.Xl).2.1=R at *
  refine⟨(aw_ u 1 R).2.1,?_⟩;rw[bc_,qX (by simp only[jj]at D;omega),j,qV f2,qX (by exact q),f1];rfl
theorem putN_back{l:List Xq}{next:Int}(h:OkT l next):∀f,BackOK l f
 | 0=>λs u n g left _ _ j _ _ _=>by cases j
 | f+1=>back_succ h (putN_back h f)
abbrev InSt(s:Xx)(x:Str):Prop:=∃b,cA_ s x=some b
theorem rdF_seen {s:Xx} (k:Int):∀(l:Nat) {sc:Str} {len a b:Nat},∀x∈(rdF s k l sc len a b).2.1,InSt s x
 | 0,sc,len,a,b,x,h=>by
  unfold rdF at h;split at h
  .rename_i p;split at h
   .rw[qD]at h;rw[h];exact lO_ p
   .rw[qD]at h;rw[h];exact lO_ p
  .cases h
 | l + 1,sc,len,a,b,x,h=>by
  rw[rdF]at h;split at h
  .rename_i p;split at h
   .have hr:=lN_ (f:=fRd (rdF s k l) (blk s sc 2).1 (ag_ l) len a b) (λ_ acc=>∀y∈acc.2,InSt s y) (λr=>∀y∈r.2.1,InSt s y) (n:=(len+ag_ l-1)/ag_ l) (s0:=([],[sc])) (λy j=>by rw[qD]at j;rw[j];exact lO_ p) λi acc hi u=>by
     have C:=rdF_seen (s:=s) k l (sc:=((blk s sc 2).1.drop (32*i)).take 32) (len:=av_ (ag_ l) len i) (a:=min (a-i*ag_ l) (av_ (ag_ l) len i)) (b:=min (b-i*ag_ l) (av_ (ag_ l) len i));unfold fRd;refine⟨λs' m => ?_,λe m => ?_⟩
     .split at m
      .obtain rfl:=zT m;exact u
      .simp only at m;split at m
       .obtain rfl:=zT m;intro y j;rcases qY.1 j with j|j
        .exact u y j
        .exact C y j
       .cases m
     .split at m
      .cases m
      .simp only at m;split at m
       .cases m
       .obtain rfl:=zm m;intro y j;rcases qY.1 j with j|j
        .exact u y j
        .exact C y j
    cases q:aX_ (fRd (rdF s k l) (blk s sc 2).1 (ag_ l) len a b) ([],[sc]) (List.range ((len+ag_ l-1)/ag_ l))with
    | inl acc =>
     rw[q]at h;exact hr.1 acc q x h
    | inr r =>
     rw[q]at h;exact hr.2 r q x h
   .rw[qD]at h;rw[h];exact lO_ p
  .cases h
theorem fileR_seen{s:Xx}(k:Int)(r:Xb):∀x∈(aw_ s k r).2.1,InSt s x:=by
 intro x f;unfold aw_ at f;split at f
 .exact rdF_seen k _ x f
 .cases f
theorem getN_seen {s:Xx}:∀(f:Nat) {n:Xq} {r:Xb} {left:Int},∀x∈(bc_ s f n r left).2.1,InSt s x
 | 0,n,r,left,x,h=>by cases h
 | f + 1,n,r,left,x,h=>by
  have u:=fileR_seen (s:=s) (aS_ n) r;rw[bc_]at h;split at h
  .cases h
  .split at h
   .split at h
    .split at h
     .exact u x h
     .rename_i l _;have hr:=fs_ (f:=fG (bc_ s f) left) (λ_ acc=>∀y∈acc.2,InSt s y) (λr=>∀y∈r.2.1,InSt s y) (xs:=l) (k:=0) (s0:=([n],(aw_ s (aS_ n) r).2.1)) u λi acc q _ D=>by
       have C:=getN_seen (s:=s) f (n:=q.1) (r:=q.2) (left:=left-(acc.1.length:Int));unfold fG;refine⟨λs' m => ?_,λe m => ?_⟩
       .split at m
        .obtain rfl:=zT m;intro y j;rcases qY.1 j with j|j
         .exact D y j
         .exact C y j
        .cases m
       .split at m
        .cases m
        .obtain rfl:=zm m;intro y j;rcases qY.1 j with j|j
         .exact D y j
         .exact C y j
      cases p:aX_ (fG (bc_ s f) left) ([n],(aw_ s (aS_ n) r).2.1) l with
      | inl acc =>
       rw[p]at h;exact hr.1 acc p x h
      | inr e =>
       rw[p]at h;exact hr.2 e p x h
    .exact u x h
   .exact u x h
theorem headD_on{t:Xv}{n:Xq}{r:Xb}(h:EntF n r)(m:0<=t.Xp/\t.Xp<=1048576)(y:t.Xz.length<=1024):headD (d6_ t n r)=some (t.Xp,(t.Xz.length:Int),bare n,r,(d6_ t n r).length):=by
 have j:(d6_ t n r).drop 0=leB t.Xp 4++(leB (t.Xz.length:Int) 4++(ed_ n r++[])):=by
  rw[zo];unfold d6_;simp only[qe,zl]
 obtain⟨x,q⟩:=ms_ j m.1 (by omega) (by omega);obtain⟨u,p⟩:=ms_ q (by omega) (by omega) (by omega);obtain⟨s,_⟩:=entD_on h p;have f:(d6_ t n r).length=0+4+4+(ed_ n r).length:=by
  simp only[d6_,qLa,aL_]
 unfold headD;simp only[x,u,s,qBs,qO];rw[f]
theorem tree_back{u:Xx}(C:StOK u){sc d:Str}{next:Int}{n:Xq}{r:Xb}{l ns:List Xq}{seen:List Str}(F:blk u sc 4=(d,0))(U:headD d=some (next,(l.length:Int),n,r,d.length))(hg:bc_ u 1025 n r (l.length:Int)=(ns,seen,0))(m:ns.Perm l)(h:OkT l next) :
  ct_ (Xm.mk u []) sc=some (Xv.mk next l,0,Xm.mk u ([sc]++seen)):=by
 have j:=nR_ C sc 4;have f:=fq_ C sc 4 (seen:=[]) (by simp);rw[F]at j f;rw[qV rfl]at f;obtain⟨v1,d1,v2,d2,x,d3,p1,p2,p3,G⟩:=P_head j;rw[U]at G;obtain⟨p5,p6,rfl,rfl,rfl⟩:=G;have hl:=h.len;have ZY:1<=l.length:=by
  obtain⟨_,_,rfl,_⟩:=h.root;simp
 obtain⟨e,b,rd,k1,q,J⟩:=add_P C 1025 BIG (ns:=[]) (seen:=[]++[sc]) (most:=(l.length:Int)) (n:=n) (r:=r) (by decide) (by simp;omega) (by omega) (by simp);have hz:(l.length:Int)-(([]:List Xq).length:Int)=(l.length:Int):=by simp
 rw[hz,hg]at q J;obtain⟨rfl,rfl⟩:=J q;have ZZ:=m.length_eq;simp only[zG]at k1;obtain⟨y,M⟩:∃y,gF_ (λn:Xq=>n.Id_) ns=some y:=⟨_,by unfold gF_;rw[qV (by omega)]⟩;obtain⟨p,Z⟩:=pC_ M;have s:y=l:=by
  refine lL_ (p.trans m) Z (h.srt.imp λU => ?_) λa ha b F Y V => ?_
  .unfold leK;simp only[qDe];omega
  .unfold leK at Y V;simp only[qDe]at Y V;exact kX_ h.srt ((p.trans m).subset ha) ((p.trans m).subset F) (by omega)
 subst s;obtain⟨b1,t1,t2⟩:=f2_ (Xv.mk v1 y) (by show y.length<=1024;omega) (λx O=>⟨h.hm O,by have:=h.name O;omega⟩);have D:=t2.2 h;subst D;unfold ct_;refine aa_ f (ab_ rfl (aa_ p1 (aa_ p2 (aa_ p3 (ab_ ?_ (aa_ k1 (ab_ (by rw[q];rfl) (aa_ M (aa_ (a:=false) (ab_ ?_ (aa_ t1 rfl)) rfl)))))))))
 .simp[p5,p6];omega
 .simp
@[irreducible] def subT (l:List Xq):List Xq:=c9_ l BIG (b7_ l)
theorem subT_eq(l:List Xq):c9_ l BIG (b7_ l)=subT l:=by unfold subT;rfl
theorem restored{s u:Xx}{a:Xv}(O:StOK s)(M:StOK u)(h:OkT a.Xz a.Xp)(q:(dG_ s a).2.2=0)(j:StLe (dG_ s a).1 u) :
  ∃seen,ct_ (Xm.mk u []) (dG_ s a).2.1=some (a,0,Xm.mk u ([(dG_ s a).2.1]++seen))/\seen.length<=1057*1024/\∀x∈[(dG_ s a).2.1]++seen,InSt u x:=by
 obtain⟨y,r2,_⟩:=nS_ h;obtain⟨b1,b2,Z⟩:=fd_ h BIG (s:=s) y O;have m:=putN_back h BIG s u (b7_ a.Xz) 1025 (a.Xz.length:Int) y O;have f:=sub_perm h (uw_ h y);have hl:=h.len;have p:=h.nxt _ y;have ZZ:=h.nx2;rw[qh_]at b1 b2 Z;rw[qh_,subT_eq]at m;rw[subT_eq]at f;have ZY:=f.length_eq;unfold dG_ at q j ⊢;by_cases F:(putT a.Xz s).2.2=0
 .rw[qV F]at q j ⊢;generalize putT a.Xz s=R at *
  have C:=h.entF y (Z F);have hd:d6_ a (bare (b7_ a.Xz)) R.2.1=d6_ a (b7_ a.Xz) R.2.1:=rfl;generalize ZX:d6_ a (b7_ a.Xz) R.2.1=d at *
  by_cases J:(aI_ R.1 4 d).2.2=0
  .rw[qV J]at q j ⊢;obtain⟨c1,c2,c3⟩:=nQ_ (s:=R.1) (k:=4) (d:=d) b1 (by omega);obtain⟨Y,c5,c6⟩:=c3 J;have V:=j.find c6;obtain⟨seen,G⟩:=m F (c2.trans j) (by omega) (by omega);have hb:=sJ_ V;have U:=headD_on (t:=a) C (by omega) hl;rw[hd]at U;have ht:=tree_back M hb U G f h;have D:=k9_ M 1025 (n:=bare (b7_ a.Xz)) (r:=R.2.1) (left:=(a.Xz.length:Int)) (by rw[G]);rw[G]at D
   dsimp only at D
   refine⟨seen,by rw[Y];exact ht,by omega,λx p => ?_⟩;rcases qY.1 p with p|p
   .rw[qD]at p;rw[p,Y];exact⟨_,V⟩
   .have:=getN_seen (s:=u) 1025 (n:=bare (b7_ a.Xz)) (r:=R.2.1) (left:=(a.Xz.length:Int)) x;rw[G]at this;exact this p
  .rw[qX J]at q;exact absurd q J
 .rw[qX F]at q;exact absurd q F
theorem runS_le{α σ ε:Type}{f g:σ->α->σ ⊕ ε}:∀{xs:List α} {s r:σ},(∀a x b,x∈xs->f a x = .inl b->g a x = .inl b)->aX_ f s xs = .inl r->aX_ g s xs = .inl r
 | [],s,r,_,h=>h
 | x::xs,s,r,m,h=>by
  simp only[aX_]at h ⊢;cases j:f s x with
  | inl b =>
   rw[j]at h;rw[m s x b qE j];exact runS_le (λa y c p=>m a y c (qC _ p)) h
  | inr e =>
   rw[j]at h;cases h
theorem rdF_le{s t:Xx}(p:StLe s t)(k:Int):∀(l:Nat) {sc:Str} {len a b:Nat},(rdF s k l sc len a b).2.2=0->rdF t k l sc len a b=rdF s k l sc len a b
 | 0,sc,len,a,b,h=>by
  unfold rdF at h ⊢;by_cases j:(blk s sc k).2=0
  .rw[p.blk j]
  .rw[qX j]at h;exact absurd h j
 | l + 1,sc,len,a,b,h=>by
  rw[rdF]at h;rw[rdF,rdF];by_cases j:(blk s sc 2).2=0
  .rw [p.blk j];rw[qV j]at h;rw[qV j];split
   .rename_i G;rw[qV G]at h;have C:=lN_ (f:=fRd (rdF s k l) (blk s sc 2).1 (ag_ l) len a b) (λ_ _=>True) (λr=>r.2.2≠0) (n:=(len+ag_ l-1)/ag_ l) (s0:=([],[sc])) trivial λi acc hi _=>⟨λ_ _=>trivial,λe u=>by
     unfold fRd at u;split at u
     .cases u
     .simp only at u;split at u
      .cases u
      .rename_i y;obtain rfl:=zm u;exact y⟩
    cases hr:aX_ (fRd (rdF s k l) (blk s sc 2).1 (ag_ l) len a b) ([],[sc]) (List.range ((len+ag_ l-1)/ag_ l))with
    | inl acc =>
     rw[runS_le (g:=fRd (rdF t k l) (blk s sc 2).1 (ag_ l) len a b) (λq x c _ m => ?_) hr];have F:=rdF_le p k l (sc:=((blk s sc 2).1.drop (32*x)).take 32) (len:=av_ (ag_ l) len x) (a:=min (a-x*ag_ l) (av_ (ag_ l) len x)) (b:=min (b-x*ag_ l) (av_ (ag_ l) len x));unfold fRd at m ⊢;split at m
     .rename_i y;rw[qV y];exact m
     .rename_i y;rw[qX y];simp only at m ⊢;split at m
      .rename_i D;rw[F D,qV D];exact m
      .cases m
    | inr e =>
     rw[hr]at h;exact absurd h (C.2 e hr)
   .rfl
  .rw[qX j]at h;exact absurd h j
theorem fileR_le{s t:Xx}(f:StLe s t)(k:Int)(r:Xb)(h:(aw_ s k r).2.2=0):aw_ t k r=aw_ s k r:=by
 unfold aw_ at h ⊢;split
 .rename_i j;rw[qV j]at h;exact rdF_le f k _ h
 .rfl
theorem getN_le {s t:Xx} (j:StLe s t):∀(f:Nat) {n:Xq} {r:Xb} {left:Int},(bc_ s f n r left).2.2=0->bc_ t f n r left=bc_ s f n r left
 | 0,n,r,left,_=>rfl
 | f + 1,n,r,left,h=>by
  rw[bc_]at h;rw[bc_,bc_];split
  .rfl
  .rename_i F;rw[qX F]at h;by_cases m:(aw_ s (aS_ n) r).2.2=0
   .rw [fileR_le j _ _ m];rw[qV m]at h;rw[qV m];split
    .rename_i J;rw[qV J]at h;cases G:fv_ (aw_ s (aS_ n) r).1 n.Id_ ((aw_ s (aS_ n) r).1.length+1) 0 with
     | none=>rfl
     | some l =>
      rw[G]at h;simp only at h ⊢;have y:=fs_ (f:=fG (bc_ s f) left) (λ_ _=>True) (λe=>e.2.2≠0) (xs:=l) (k:=0) (s0:=([n],(aw_ s (aS_ n) r).2.1)) trivial λi acc q _ _=>⟨λ_ _=>trivial,λe u=>by
       unfold fG at u;split at u
       .cases u
       .rename_i M;obtain rfl:=zm u;exact M⟩
      cases hr:aX_ (fG (bc_ s f) left) ([n],(aw_ s (aS_ n) r).2.1) l with
      | inl acc =>
       rw[runS_le (g:=fG (bc_ t f) left) (λa x c _ p => ?_) hr];have D:=getN_le j f (n:=x.1) (r:=x.2) (left:=left-(a.1.length:Int));unfold fG at p ⊢;split at p
       .rename_i C;rw[D C,qV C];exact p
       .cases p
      | inr e =>
       rw[hr]at h;exact absurd h (y.2 e hr)
    .rfl
   .rw[qX m]at h;exact absurd h m
theorem TreeAt.le{s t:Xx}{sc:Str}{T:Xv}(h:TreeAt s sc T 0)(u:StOK s)(q:StOK t)(f:StLe s t):b0_ t sc=some (T,0):=by
 obtain⟨T',E,rd,G,t2,t3,t4⟩:=tree_both u sc;have C:T'=T/\E=0:=by
  have:=h.ref.symm.trans t2;simp only[qOi,qG]at this;exact⟨this.1.symm,this.2.symm⟩
 obtain⟨rfl,rfl⟩:=C;obtain⟨F,next,many,n,r,a3,p,y,hm,m,_,rfl,rfl,rfl,x⟩:=t4 rfl;have D:blk t sc 4=((blk s sc 4).1,0):=by
  rw[f.blk p,←p]
 have j:=getN_le f 1025 m;have:=tree_back q (sc:=sc) (d:=(blk s sc 4).1) (next:=T'.Xp) (n:=n) (r:=r) (l:=T'.Xz) (ns:=(bc_ s 1025 n r (T'.Xz.length:Int)).1) (seen:=(bc_ s 1025 n r (T'.Xz.length:Int)).2.1) D y (by rw[j,←m]) x F;unfold b0_;exact aa_ this rfl
structure Tot(s:Xw):Prop where (files:FileOK s.Xf) (size:SizeOK s.Xf) (store:StOK s.Yk) (sl:s.Xr.length<=100)
theorem copied_loop(l:List Xc)(f:l.length<=1000)(hm:smallM l):am_ (dE_ l) BIG (0,l)=some l:=by
 refine copy_loop l f (λi hi => ?_) ?_
 .unfold dE_;simp only;rw[aT_ hi,ap_ hi,as_ (by omega)];refine ae_ rfl (aa_ rfl (aa_ (px_ (hm _ (qx hi))) (aa_ rfl ?_)));exact qL (λq=>some (Step.next (((i+1:Nat):Int),q))) (set_self (qQ hi))
 .unfold dE_;simp only;rw[be_];rfl
theorem xh_{f:Xj}(z:SizeOK f):ds_ f=some f:=by
 have:=z.nl;have:=z.el;unfold ds_;exact aa_ (tE_ z.ul) (aa_ (copied_loop _ z.ul z.um) (aa_ (sx_ z.ql) (aa_ (tF_ (by omega)) (aa_ (nF_ (by omega)) rfl))))
theorem clone_snaps{xs:List Zz}(h:xs.length<=1000):cP_ xs=some xs:=hN_ (n:=24) (by omega) (by omega)
theorem gg_{s:Xw}(h:Tot s):au_ s=some s:=by
 have:=h.store.size;have:=h.sl;unfold au_;exact aa_ (xh_ h.size) (aa_ (ut_ (by omega)) (aa_ (clone_snaps (by omega)) rfl))
theorem lP_{s:Xw}(h:Tot s)(f:Xj):c0_ s f=some (Xw.mk f s.Yk s.Xr):=by
 unfold c0_;exact aa_ (gg_ h) rfl
structure Taken(s:Xw)(now:Int)(t:Xw):Prop where
 ok:(dG_ s.Yk s.Xf.Xy).2.2=0
 store:t.Yk=(dG_ s.Yk s.Xf.Xy).1
 snaps:t.Xr=s.Xr++[Zz.mk now (dG_ s.Yk s.Xf.Xy).2.1]
 files:t.Xf=s.Xf
 last:∀x,s.Xr.getLast? = some x->x.Yb<now
theorem v6_{s:Xw}(h:Tot s):dv_ s.Xf.Xy=some true:=by
 obtain⟨b,f,j⟩:=f2_ s.Xf.Xy h.size.nl (oD_ h.files.tr);rw[j.2 h.files.tr]at f;exact f
structure Op17(o:Zk):Prop where (user:o.Yt.length<=200) (name:o.Xg.length<=200) (data:o.Xl.length<=3000) (mode:I64 o.Xk) (perm:o.Ze<=9223372036854775807) (dir:DirB o.Zf)
theorem any_score(l:List Yv)(sc:Str):(l.map (·.Xi)).any (eqS sc)=(l.find? (c7_ sc)).isSome:=by
 rw[qK,zg,List.find?_isSome];simp only[eqS,c7_,qz,qF];constructor
 .rintro⟨_,⟨b,f,rfl⟩,e⟩;exact⟨b,f,e.symm⟩
 .rintro⟨b,f,e⟩;exact⟨_,⟨b,f,rfl⟩,e.symm⟩
theorem count_step{l:List Yv}(sc:Str):(decide (aE_ eqS (l.map (·.Xi)) (List.replicate l.length (1:Int)) sc 0>0)=(l.find? (c7_ sc)).isSome)/\((l.find? (c7_ sc)).isSome=false ->
  aY_ eqS (l.map (·.Xi)) sc=l.map (·.Xi)++[sc]/\bs_ eqS (l.map (·.Xi)) (List.replicate l.length (1:Int)) sc (w64 (aE_ eqS (l.map (·.Xi)) (List.replicate l.length (1:Int)) sc 0+1))=List.replicate (l.length+1) 1):=by
 have p:=any_score l sc;cases hi:cj_ eqS sc (l.map (·.Xi))with
 | none =>
  have f:=oJ_ hi;have m:aE_ eqS (l.map (·.Xi)) (List.replicate l.length (1:Int)) sc 0=0:=m9_ hi;rw[m,←p,f];refine⟨rfl,λ_=>⟨?_,?_⟩⟩
  .unfold aY_;rw[f];rfl
  .rw[qk_ hi (by simp)];exact List.replicate_succ'.symm
 | some j =>
  obtain⟨f,y,q,_⟩:=jW_ hi;have s:j<l.length:=by
   rcases qN j l.length with h|h
   .exact h
   .rw[qR (by simpa using h)]at q;cases q
  have m:aE_ eqS (l.map (·.Xi)) (List.replicate l.length (1:Int)) sc 0=1:=na_ hi (by rw[List.getElem?_replicate,qV s]);rw[m,←p,f];exact⟨rfl,λh=>nomatch h⟩
theorem block_loop{s:Xx}(C:s.Xn.length<=4096):am_ (eR_ s) BIG (0,[],[])=some (di_ (aO_ (λi b=>if badB s.Xn i b then some false else none) 0 s.Xn)):=by
 refine ev_ (J:=λi st b=>st=((i:Int),(s.Xn.take i).map (·.Xi),List.replicate i (1:Int))/\b=di_ (aO_ (λi b=>if badB s.Xn i b then some false else none) i (s.Xn.drop i))) s.Xn.length (bB_ (by omega)) (λst b m => ?_) (λi st b hi m => ?_) ⟨rfl,rfl⟩
 .obtain⟨rfl,rfl⟩:=m;unfold eR_;rw[List.drop_length];exact ab_ (be_ _) rfl
 .obtain⟨rfl,rfl⟩:=m;have f:(s.Xn.take i).length=i:=by rw[qS];omega
  obtain⟨p,q⟩:=count_step (l:=s.Xn.take i) s.Xn[i].Xi;rw[f]at p q;have u:badB s.Xn i s.Xn[i]=((((!(decide (s.Xn[i].Ya>=1)&&decide (s.Xn[i].Ya<=4)))||decide ((s.Xn[i].Xl.length:Int)>1024))||((s.Xn[i].Xi.length:Int) != 32))||((s.Xn.take i).find? (c7_ s.Xn[i].Xi)).isSome):=by
   unfold badB;rw[at_ge]
  rw[qw hi];simp only[aO_];rw[u];cases j:((!(decide (s.Xn[i].Ya>=1)&&decide (s.Xn[i].Ya<=4)))||decide ((s.Xn[i].Xl.length:Int)>1024))||((s.Xn[i].Xi.length:Int) != 32)with
  | true =>
   refine .inl ?_;unfold eR_;exact ae_ (aT_ hi) (aa_ (ap_ hi) (aa_ rfl (aa_ (a:=true) (ae_ j rfl) rfl)))
  | false =>
   cases h:((s.Xn.take i).find? (c7_ s.Xn[i].Xi)).isSome with
   | true =>
    refine .inl ?_;unfold eR_;exact ae_ (aT_ hi) (aa_ (ap_ hi) (aa_ rfl (aa_ (a:=true) (ab_ j (qL some (p.trans h))) rfl)))
   | false =>
    obtain⟨y,x⟩:=q h;refine .inr ⟨_,?_,rfl,rfl⟩;unfold eR_;refine ae_ (aT_ hi) (aa_ (ap_ hi) (aa_ rfl (aa_ (a:=false) (ab_ j (qL some (p.trans h))) ?_)));simp only[qr];rw[as_ (by omega),y,x,List.take_succ_eq_append_getElem hi,jc];rfl
theorem v7_{s:Xx}(f:s.Xn.length<=4096):∃b,l5_ s=some b/\(b=true↔StOK s):=by
 obtain⟨b,j,h⟩:=Right_iff (s:=s) (by omega);refine⟨b,?_,h⟩;rw[←j,vW_ (by omega)];unfold l5_;cases m:decide (s.Yl<1)||decide (s.Yl>4096)||decide ((s.Xn.length:Int)>s.Yl)with
 | true=>rfl
 | false=>exact bk_ (block_loop f) (λr=>rfl) rfl
def prevT(l:List Zz)(i:Nat):Int:=if i=0 then -1 else(gC_ l i).Yb
theorem snaps_loop{s:Xw}(M:s.Xr.length<=64)(C:StOK s.Yk):am_ (dA_ s) BIG (-1,0)=some (di_ (aO_ (λi x=>if badS s i x then some false else none) 0 s.Xr)):=by
 refine ev_ (J:=λi st b=>st=(prevT s.Xr i,(i:Int))/\(-1<=prevT s.Xr i)/\b=di_ (aO_ (λi x=>if badS s i x then some false else none) i (s.Xr.drop i))) s.Xr.length (bB_ (by omega)) (λst b p => ?_) (λi st b hi p => ?_) ⟨rfl,Int.le_refl _,rfl⟩
 .obtain⟨rfl,_,rfl⟩:=p;unfold dA_;rw[List.drop_length];exact ab_ (be_ _) rfl
 .obtain⟨rfl,y,rfl⟩:=p;obtain⟨T,E,f⟩:=ti_ C s.Xr[i].Xi;have j:okTr s.Yk s.Xr[i].Xi=(E==0):=by unfold okTr;rw[f.ref]
  have D:(decide (s.Xr[i].Yb<=prevT s.Xr i)||decide (s.Xr[i].Yb>1099511627776))=((decide (s.Xr[i].Yb<0)||decide (s.Xr[i].Yb>1099511627776))||(decide (0<i)&&decide ((gC_ s.Xr i).Yb>=s.Xr[i].Yb))):=by
   unfold prevT at y ⊢;rw[qK];simp only[qT,qAn,qDe];split at y
   .rename_i u;rw[qV u];omega
   .rename_i u;rw[qX u];omega
  rw[qw hi];simp only[aO_];unfold badS;rw[j,←D];cases h:decide (s.Xr[i].Yb<=prevT s.Xr i)||decide (s.Xr[i].Yb>1099511627776)with
  | true =>
   refine .inl ?_;unfold dA_;exact ae_ (aT_ hi) (aa_ (ap_ hi) (ae_ h rfl))
  | false =>
   by_cases q:E=0
   .subst q;obtain⟨O,G,F⟩:=f2_ T f.len (oD_ (f.ok rfl));have m:=F.2 (f.ok rfl);subst m;refine .inr ⟨((s.Xr[i].Yb,((i+1:Nat):Int)):Int×Int),?_,?_,?_,rfl⟩
    .unfold dA_;refine ae_ (aT_ hi) (aa_ (ap_ hi) (ab_ h (aa_ f.get (aa_ (a:=false) (ab_ rfl (aa_ G rfl)) ?_))));simp only[qr];rw[as_ (by omega)]
    .unfold prevT gC_;rw[qX (by omega),jH,za,qQ hi];rfl
    .unfold prevT gC_ at *
     rw[qX (by omega),jH,za,qQ hi];simp only[qP,qDf]at h;simp only[zt];omega
   .refine .inl ?_;have:(E==0)=false:=by simpa using q
    rw[this];unfold dA_;exact ae_ (aT_ hi) (aa_ (ap_ hi) (ab_ h (aa_ f.get (aa_ (a:=true) (ae_ (by simpa using q) rfl) rfl))))
theorem PRight_eq(s:Xw)(z:SizeOK s.Xf)(D:qb_ s.Xf)(q:s.Yk.Xn.length<=4096):∃b,ik_ s=some b/\(b=true↔Ok17 s):=by
 unfold ik_;obtain⟨G,f,C⟩:=tp_ s.Xf z D;obtain⟨F,y,u⟩:=v7_ (s:=s.Yk) q;cases G with
 | false=>exact⟨false,aa_ f (aa_ (a:=true) rfl rfl),λh=>(nomatch h),λh=>by rw[C.2 h.files]⟩
 | true =>
 cases F with
 | false=>exact⟨false,aa_ f (aa_ (a:=true) (ab_ rfl (aa_ y rfl)) rfl),λh=>(nomatch h),λh=>by rw[u.2 h.store]⟩
 | true =>
  by_cases m:s.Xr.length<=64
  .have j:=snaps_loop m (u.1 rfl);refine⟨(aO_ (λi x=>if badS s i x then some false else none) 0 s.Xr).getD true,aa_ f (aa_ (a:=false) (ab_ rfl (aa_ y rfl)) (ab_ (by simp;omega) (bk_ j (λr=>rfl) rfl))),?_⟩;rw[oo_ (p:=λi x => !(badS s i x)) (λi x=>by cases badS s i x<;>rfl)];simp only[qg,qH];exact bad_iff m (C.1 rfl) (u.1 rfl)
  .exact⟨false,aa_ f (aa_ (a:=false) (ab_ rfl (aa_ y rfl)) (ae_ (by simp;omega) rfl)),λh=>(nomatch h),λh=>absurd h.sl m⟩
def lightB(o:Zk):Bool:=(decide ((o.Xl.length:Int)<=3000)&&decide ((o.Xg.length:Int)<=200))&&decide ((o.Yt.length:Int)<=200)
theorem op_ok{o:Zk}(h:Fit te (.st op17N) o)(f:lightB o=true):Op17 o:=by
 unfold lightB at f;simp only[qAn,qDe]at f;exact⟨by omega,by omega,by omega,(h 0).2.2.2.2.2.1,(h 0).2.2.2.2.1.2,(h 0).2.2.2.2.2.2.2.2.2.2.1.2,(h 0).2.2.2.2.2.2.2.2.2.2.2.2.2.1.2,(h 0).2.2.2.2.2.2.2.2.2.2.2.2.2.2.2.2.2.1⟩
theorem Ok17.tot{s:Xw}(h:Ok17 s)(z:SizeOK s.Xf):Tot s:=⟨h.files,z,h.store,by have:=h.sl;omega⟩
theorem same17{s:Xw}(h:Tot s)(p:s.Xf.Xy.Xz.length<=1000):kA_ s s=some true:=by
 have j:=h.store.size;have m:=h.sl;have q:=h.size.el;unfold kA_;refine aa_ (same_eq s.Xf h.size.ul h.size.um h.size.ql p (by omega)) (aa_ (a:=false) (ab_ rfl (aa_ (a:=true) ?_ rfl)) (ab_ (by simp) ?_))
 .unfold kz_;refine ab_ (by simp) ?_;have f:=bf_ (body:=fl_ s.Yk s.Yk) (T:=λi=>(i:Int)) (b:=Out.fall ()) s.Yk.Xn.length (bB_ (by omega)) (λi hi => ?_) ?_
  .exact aa_ f rfl
  .unfold fl_;refine ae_ (aT_ hi) (aa_ (ap_ hi) (aa_ (ap_ hi) (ab_ (by simp) ?_)));rw[as_ (by omega)]
  .unfold fl_;exact ab_ (be_ _) rfl
 .have f:=bf_ (body:=jn_ s s) (T:=λi=>(i:Int)) (b:=Out.fall ()) s.Xr.length (bB_ (by omega)) (λi hi => ?_) ?_
  .exact aa_ f rfl
  .unfold jn_;refine ae_ (aT_ hi) (aa_ (ap_ hi) (aa_ (ap_ hi) (ab_ (by simp) ?_)));rw[as_ (by omega)]
  .unfold jn_;exact ab_ (be_ _) rfl
theorem lb_{s:Xw}(h:Ok17 s)(z:SizeOK s.Xf)(user:Str){id:Int}(x:I64 id)(y:user.length<=9223372036854775807) :
  (∃p e,b9_ s user id=some (p,e)/\dm_ s user id=some e/\e≠0) \/
  ((id=1\/id=2)/\b9_ s user id=some (zeroP 0 id,0)/\dm_ s user id=some 0) \/
  ∃F k,Found s id F k/\b9_ s user id=some (Ye.mk F k (id.tmod 1048576),0)/\dm_ s user id=some 0:=by
 have q:=svalid_eq h z user y;have j:=eP_ user y;unfold b9_ dm_;cases m:vU user with
 | false =>
  rw[m]at q j;exact .inl ⟨_,25,aa_ q (ae_ rfl rfl),aa_ j (ae_ rfl rfl),by decide⟩
 | true =>
  rw[m]at q j;rcases look h z x with⟨C,u,l2⟩|⟨_,⟨p,u⟩,l2⟩|⟨F,k,f⟩
  .exact .inr (.inl ⟨C,aa_ q (ab_ rfl (aa_ u (ab_ rfl rfl))),aa_ j (ab_ rfl (aa_ l2 (ab_ rfl rfl)))⟩)
  .exact .inl ⟨_,8,aa_ q (ab_ rfl (aa_ u (ae_ rfl rfl))),aa_ j (ab_ rfl (aa_ l2 (ae_ rfl rfl))),by decide⟩
  .exact .inr (.inr ⟨F,k,f,aa_ q (ab_ rfl (aa_ f.find (ab_ rfl rfl))),aa_ j (ab_ rfl (aa_ f.ex (ab_ rfl rfl)))⟩)
theorem Found.one{s:Xw}{id:Int}{F:Xj}(f:Found s id F 1)(h:I64 id):F=s.Xf/\w64 (id-1048576)=id.tmod 1048576:=by
 have j:=f.srv;have ge:=f.ge;have m:=f.kk;rw[zC (by omega),dB_ ⟨by omega,by have:=h.2;omega⟩]at m;refine⟨?_,?_⟩
 .unfold cE_ at j;exact(qSj j).symm
 .rw[ao_ ⟨by omega,by have:=h.2;omega⟩,zj (by omega)];omega
theorem oE_{id:Int}(f:id=1\/id=2):IntKind.i64.wrap (id.tdiv 1048576)=0:=by rcases f with rfl|rfl<;>rfl
structure Both2(s:Xw)(x y:Option (Xw×Int)):Prop where
 both:∃f e,x=some (Xw.mk f s.Yk s.Xr,e)/\y=some (Xw.mk f s.Yk s.Xr,e)/\After s.Xf f
theorem Both2.same{s:Xw}{x y:Option (Xw×Int)}(h:Ok17 s)(e:Int)(j:x=some (s,e))(f:y=some (s,e)):Both2 s x y:=⟨s.Xf,e,j,f,After.refl h.files⟩
structure Both3(s:Xw)(x y:Option (Xw×Int×Int)):Prop where
 both:∃f n e,x=some (Xw.mk f s.Yk s.Xr,n,e)/\y=some (Xw.mk f s.Yk s.Xr,n,e)/\After s.Xf f
theorem Both3.same{s:Xw}{x y:Option (Xw×Int×Int)}(h:Ok17 s)(n e:Int)(j:x=some (s,n,e))(f:y=some (s,n,e)):Both3 s x y:=⟨s.Xf,n,e,j,f,After.refl h.files⟩
theorem ne0{e:Int}(h:e≠0):(e != 0)=true:=by simpa using h
theorem open_arch:((List.range 128).all λn=>match d9_ (n:Int)with
  | some r=>(eb_ r.1 2==some (bL_ .i64 r.1 2 != 0))&&(eb_ (n:Int) 64==some (decide ((n:Int)>=64)))
  | none=>true)=true:=by kernel_rfl
theorem open_arch_eq{m:Int}(h:((bS_ m).2 != 0)=false):eb_ (bS_ m).1 2=some (bL_ .i64 (bS_ m).1 2 != 0)/\eb_ m 64=some (decide (m>=64)):=by
 have f:=o8_ h;obtain⟨n,rfl⟩:∃n:Nat,m=(n:Int):=⟨m.toNat,by omega⟩;have:=qh.1 open_arch n (List.mem_range.2 (by omega));have e:=cq_ (n:Int) ⟨by omega,by omega⟩;rw[e]at this;simp only[qAn,qF]at this;exact this
theorem openS_err(s:Xj)(user:Str)(id mode now:Int)(h:((k3_ s user id mode now).2 != 0)=true):(k3_ s user id mode now).1=s:=by
 revert h;unfold k3_;cases fo_ s user id mode != 0 with
 | true=>exact λ_=>rfl
 | false=>exact λh=>nomatch h
theorem open_both{s:Xw}(h:Ok17 s)(z:SizeOK s.Xf)(user:Str){id:Int}(Y:I64 id)(mode now:Int)(hu:user.length<=9223372036854775807)(hm:I64 mode):Both2 s (gK_ s user id mode now) (nz_ s user id mode now):=by
 have u:=gg_ (h.tot z);unfold gK_ nz_;rcases lb_ h z user Y hu with⟨p,e,q,m,he⟩|⟨hA,q,m⟩|⟨F,k,f,q,m⟩
 .exact Both2.same h e (aa_ q (ae_ (ne0 he) (aa_ u rfl))) (aa_ m (ae_ (ne0 he) rfl))
 .rw[oE_ hA];obtain⟨O,M⟩:=zero_dir (s:=s) hA;cases j:(bS_ mode).2 != 0 with
  | true=>exact Both2.same h _ (aa_ q (ab_ rfl (ab_ rfl (aa_ (cq_ mode hm) (ae_ j (aa_ u rfl)))))) (aa_ m (ab_ rfl (ab_ rfl (aa_ (cJ_ mode hm) (ae_ j rfl)))))
  | false =>
   cases D:mode != 0 with
   | true=>exact Both2.same h 10 (aa_ q (ab_ rfl (ab_ rfl (aa_ (cq_ mode hm) (ab_ j (aa_ O (ae_ rfl (aa_ u rfl)))))))) (aa_ m (ab_ rfl (ab_ rfl (aa_ (cJ_ mode hm) (ab_ j (aa_ M (ae_ rfl rfl)))))))
   | false=>exact Both2.same h 0 (aa_ q (ab_ rfl (ab_ rfl (aa_ (cq_ mode hm) (ab_ j (aa_ O (ab_ rfl (ae_ rfl (aa_ u rfl))))))))) (aa_ m (ab_ rfl (ab_ rfl (aa_ (cJ_ mode hm) (ab_ j (aa_ M (ab_ rfl (ae_ (by rcases hA with rfl|rfl<;>rfl) rfl))))))))
 .rw [f.kk];by_cases hk:k=1
  .subst hk;obtain⟨rfl,hw⟩:=f.one Y;rw[hw];have p1:=open_eq h.files z user (id.tmod 1048576) mode now hu hm;have p2:=ref_open_eq h.files z user (id.tmod 1048576) mode now hu hm;cases j:(k3_ s.Xf user (id.tmod 1048576) mode now).2 != 0 with
   | true =>
    refine Both2.same h _ (aa_ q (ab_ rfl (ae_ rfl (aa_ p1 (ae_ j (aa_ u rfl)))))) (aa_ m (ab_ rfl (ae_ rfl (aa_ p2 ?_))));rw[openS_err _ _ _ _ _ j]
   | false =>
    have h0:(k3_ s.Xf user (id.tmod 1048576) mode now).2=0:=by simpa using j
    refine⟨_,0,aa_ q (ab_ rfl (ae_ rfl (aa_ p1 (ab_ j (aa_ (lP_ (h.tot z) _) rfl))))),aa_ m (ab_ rfl (ae_ rfl (aa_ p2 ?_))),open_after h.files user (id.tmod 1048576) mode now⟩;rw[h0]
  .have k1:=f.k1;have ge:=f.ge;have x:(k==1)=false:=by simpa using hk
   have e0:(k==0)=false:=by simp;omega
   cases j:(bS_ mode).2 != 0 with
   | true=>exact Both2.same h _ (aa_ q (ab_ rfl (ab_ x (aa_ (cq_ mode hm) (ae_ j (aa_ u rfl)))))) (aa_ m (ab_ rfl (ab_ x (aa_ (cJ_ mode hm) (ae_ j rfl)))))
   | false =>
    obtain⟨O,M⟩:=f.dir;obtain⟨a1,a2⟩:=open_arch_eq j;have J:decide (id<1048576)=false:=by simp;omega
    cases D:dirF F (id.tmod 1048576)&&(mode != 0)with
    | true=>exact Both2.same h 10 (aa_ q (ab_ rfl (ab_ x (aa_ (cq_ mode hm) (ab_ j (aa_ O (ae_ D (aa_ u rfl)))))))) (aa_ m (ab_ rfl (ab_ x (aa_ (cJ_ mode hm) (ab_ j (aa_ M (ae_ D rfl)))))))
    | false =>
     have y:(Option.bind (bif(bL_ .i64 (bS_ mode).1 2 != 0)then some true else(eb_ mode 64).bind λy6=>some y6) λ(y7:Bool)=>some y7)=some ((bL_ .i64 (bS_ mode).1 2 != 0)||decide (mode>=64)):=by
      rw[a2];cases bL_ .i64 (bS_ mode).1 2 != 0<;>rfl
     cases C:(bL_ .i64 (bS_ mode).1 2 != 0)||decide (mode>=64)with
     | true =>
      rw[C]at y;refine Both2.same h 33 (aa_ q (ab_ rfl (ab_ x (aa_ (cq_ mode hm) (ab_ j (aa_ O (ab_ D (ab_ e0 (ae_ C (aa_ u rfl)))))))))) (aa_ m (ab_ rfl (ab_ x (aa_ (cJ_ mode hm) (ab_ j (aa_ M (ab_ D (ab_ J (aa_ a1 (aa_ (a:=true) ?_ (ae_ rfl rfl)))))))))));cases G:bL_ .i64 (bS_ mode).1 2 != 0 with
      | true=>rfl
      | false=>rw[G]at y;simpa using y
     | false =>
      rw[C]at y;have hn:=cV_ F.Xy (id.tmod 1048576) (nl2 f.size);have U:=aK_ F.Xy (id.tmod 1048576) (nl2 f.size);have V:=ch_ f.ok (id.tmod 1048576);have w1:=p9_ s.Xf.Yz user (ak_ F (id.tmod 1048576)).Yg (ak_ F (id.tmod 1048576)).Yj (ak_ F (id.tmod 1048576)).Xk (bS_ mode).1 z.ul z.um V;have Z:=o6_ s.Xf.Yz user (ak_ F (id.tmod 1048576)).Yg (ak_ F (id.tmod 1048576)).Yj (ak_ F (id.tmod 1048576)).Xk (bS_ mode).1 z.ul z.um V;have hb:Option.bind (bif(bL_ .i64 (bS_ mode).1 2 != 0)then some true else(eb_ mode 64).bind λy6=>some y6) (λ(y7:Bool)=>some y7)=some false:=y;cases h5:nP_ s.Xf.Yz user (ak_ F (id.tmod 1048576)).Yg (ak_ F (id.tmod 1048576)).Yj (ak_ F (id.tmod 1048576)).Xk (bS_ mode).1 with
      | false =>
       rw[h5]at w1 Z;refine Both2.same h 11 (aa_ q (ab_ rfl (ab_ x (aa_ (cq_ mode hm) (ab_ j (aa_ O (ab_ D (ab_ e0 (ab_ C (aa_ hn (aa_ w1 (ae_ rfl (aa_ u rfl))))))))))))) (aa_ m (ab_ rfl (ab_ x (aa_ (cJ_ mode hm) (ab_ j (aa_ M (ab_ D (ab_ J (aa_ a1 (aa_ (a:=false) ?_ (ab_ rfl (aa_ f.srv (aa_ U (aa_ Z (ae_ rfl rfl)))))))))))))));cases G:bL_ .i64 (bS_ mode).1 2 != 0 with
       | true=>rw[G]at C;cases C
       | false=>rw[G]at y;simpa using y
      | true =>
       rw[h5]at w1 Z;refine Both2.same h 0 (aa_ q (ab_ rfl (ab_ x (aa_ (cq_ mode hm) (ab_ j (aa_ O (ab_ D (ab_ e0 (ab_ C (aa_ hn (aa_ w1 (ab_ rfl (aa_ u rfl))))))))))))) (aa_ m (ab_ rfl (ab_ x (aa_ (cJ_ mode hm) (ab_ j (aa_ M (ab_ D (ab_ J (aa_ a1 (aa_ (a:=false) ?_ (ab_ rfl (aa_ f.srv (aa_ U (aa_ Z (ab_ rfl rfl)))))))))))))));cases G:bL_ .i64 (bS_ mode).1 2 != 0 with
       | true=>rw[G]at C;cases C
       | false=>rw[G]at y;simpa using y
theorem create_both{s:Xw}(h:Ok17 s)(z:SizeOK s.Xf)(user:Str){id:Int}(q:I64 id)(name:Str)(perm mode now:Int)(y:user.length<=9223372036854775807)(hm:I64 mode)(G:perm<=9223372036854775807)(J:name.length<=9223372036854775807):Both3 s (fk_ s user id name perm mode now) (kL_ s user id name perm mode now):=by
 have u:=gg_ (h.tot z);unfold fk_ kL_;rcases lb_ h z user q y with⟨p,e,m,j,O⟩|⟨Y,m,j⟩|⟨F,k,f,m,j⟩
 .exact Both3.same h 0 e (aa_ m (ae_ (ne0 O) (aa_ u rfl))) (aa_ j (ae_ (ne0 O) rfl))
 .rw[oE_ Y];exact Both3.same h 0 33 (aa_ m (ab_ rfl (ae_ rfl (aa_ u rfl)))) (aa_ j (ab_ rfl (ae_ rfl rfl)))
 .rw[f.kk];by_cases M:k=1
  .subst M;obtain⟨rfl,V⟩:=f.one q;rw[V];have D:=create_eq h.files z user (id.tmod 1048576) name perm mode now y hm G J;have C:=yI_ h.files z user (id.tmod 1048576) name perm mode now y hm G J;cases x:(lJ_ s.Xf user (id.tmod 1048576) name perm mode now).2.2 != 0 with
   | true=>exact Both3.same h 0 _ (aa_ m (ab_ rfl (ab_ rfl (aa_ D (ae_ x (aa_ u rfl)))))) (aa_ j (ab_ rfl (ab_ rfl (aa_ C (ae_ x rfl)))))
   | false=>exact⟨_,_,0,aa_ m (ab_ rfl (ab_ rfl (aa_ D (ab_ x (aa_ (lP_ (h.tot z) _) rfl))))),aa_ j (ab_ rfl (ab_ rfl (aa_ C (ab_ x rfl)))),create_after h.files user (id.tmod 1048576) name perm mode now⟩
  .have U:(k != 1)=true:=by simpa using M
   exact Both3.same h 0 33 (aa_ m (ab_ rfl (ae_ U (aa_ u rfl)))) (aa_ j (ab_ rfl (ae_ U rfl)))
theorem write_both{s:Xw}(h:Ok17 s)(z:SizeOK s.Xf)(user:Str){id:Int}(y:I64 id)(offset:Int)(data:Str)(now:Int)(D:user.length<=9223372036854775807)(U:data.length<=9223372036854775807):Both3 s (fR_ s user id offset data now) (mb_ s user id offset data now):=by
 have x:=gg_ (h.tot z);unfold fR_ mb_;rcases lb_ h z user y D with⟨p,e,u,q,O⟩|⟨hA,u,q⟩|⟨F,k,f,u,q⟩
 .exact Both3.same h 0 e (aa_ u (ae_ (ne0 O) (aa_ x rfl))) (aa_ q (ae_ (ne0 O) rfl))
 .obtain⟨m,j⟩:=zero_dir (s:=s) hA;exact Both3.same h 0 10 (aa_ u (ab_ rfl (aa_ m (ae_ rfl (aa_ x rfl))))) (aa_ q (ab_ rfl (aa_ j (ae_ rfl rfl))))
 .obtain⟨m,j⟩:=f.dir;rw[f.kk];cases V:dirF F (id.tmod 1048576)with
  | true =>
   rw[V]at m j;exact Both3.same h 0 10 (aa_ u (ab_ rfl (aa_ m (ae_ rfl (aa_ x rfl))))) (aa_ q (ab_ rfl (aa_ j (ae_ rfl rfl))))
  | false =>
  rw[V]at m j;cases decide (offset<0)with
  | true=>exact Both3.same h 0 1 (aa_ u (ab_ rfl (aa_ m (ab_ rfl (ae_ rfl (aa_ x rfl)))))) (aa_ q (ab_ rfl (aa_ j (ab_ rfl (ae_ rfl rfl)))))
  | false =>
  by_cases M:k=1
  .subst M;obtain⟨rfl,Z⟩:=f.one y;rw[Z];have J:=write_eq h.files z user (id.tmod 1048576) offset data now D U;have G:=ref_write_eq h.files z user (id.tmod 1048576) offset data now D U;cases C:(ow_ s.Xf user (id.tmod 1048576) offset data now).2.2 != 0 with
   | true=>exact Both3.same h 0 _ (aa_ u (ab_ rfl (aa_ m (ab_ rfl (ab_ rfl (ab_ rfl (aa_ J (ae_ C (aa_ x rfl))))))))) (aa_ q (ab_ rfl (aa_ j (ab_ rfl (ab_ rfl (ab_ rfl (aa_ G (ae_ C rfl))))))))
   | false=>exact⟨_,_,0,aa_ u (ab_ rfl (aa_ m (ab_ rfl (ab_ rfl (ab_ rfl (aa_ J (ab_ C (aa_ (lP_ (h.tot z) _) rfl)))))))),aa_ q (ab_ rfl (aa_ j (ab_ rfl (ab_ rfl (ab_ rfl (aa_ G (ab_ C rfl))))))),write_after h.files user (id.tmod 1048576) offset data now⟩
  .have Y:(k != 1)=true:=by simpa using M
   exact Both3.same h 0 33 (aa_ u (ab_ rfl (aa_ m (ab_ rfl (ab_ rfl (ae_ Y (aa_ x rfl))))))) (aa_ q (ab_ rfl (aa_ j (ab_ rfl (ab_ rfl (ae_ Y rfl))))))
theorem wstatS_err(s:Xj)(user:Str)(id:Int)(d:Yf)(now:Int)(h:((hT_ s user id d now).2 != 0)=true):(hT_ s user id d now).1=s:=by
 revert h;unfold hT_;cases dz_ s user id d != 0 with
 | true=>exact λ_=>rfl
 | false=>exact λh=>nomatch h
theorem remove_both{s:Xw}(h:Ok17 s)(z:SizeOK s.Xf)(user:Str){id:Int}(q:I64 id)(now:Int)(y:user.length<=9223372036854775807):Both2 s (hk_ s user id now) (kO_ s user id now):=by
 have u:=gg_ (h.tot z);unfold hk_ kO_;rcases lb_ h z user q y with⟨p,e,m,j,C⟩|⟨U,m,j⟩|⟨F,k,f,m,j⟩
 .have Y:(e==0)=false:=by simpa using C
  exact Both2.same h e (aa_ m (aa_ (a:=e) (ab_ (by simp only[Y,Bool.false_and]) rfl) (ae_ (ne0 C) (aa_ u rfl)))) (aa_ j (ae_ (ne0 C) rfl))
 .rw[oE_ U];exact Both2.same h 33 (aa_ m (aa_ (a:=33) (ae_ rfl rfl) (ae_ rfl (aa_ u rfl)))) (aa_ j (ab_ rfl (ae_ rfl rfl)))
 .rw[f.kk];by_cases J:k=1
  .subst J;obtain⟨rfl,O⟩:=f.one q;rw[O];have G:=remove_eq h.files z user (id.tmod 1048576) now y;have D:=rz_ h.files z user (id.tmod 1048576) now y;cases x:(dT_ s.Xf user (id.tmod 1048576) now).2 != 0 with
   | true =>
    refine Both2.same h _ (aa_ m (aa_ (a:=0) (ab_ rfl rfl) (ab_ rfl (aa_ G (ae_ x (aa_ u rfl)))))) (aa_ j (ab_ rfl (ab_ rfl (aa_ D ?_))));rw[tK_ _ _ _ _ (by simpa using x)]
   | false =>
    have V:(dT_ s.Xf user (id.tmod 1048576) now).2=0:=by simpa using x
    refine⟨_,0,aa_ m (aa_ (a:=0) (ab_ rfl rfl) (ab_ rfl (aa_ G (ab_ x (aa_ (lP_ (h.tot z) _) rfl))))),aa_ j (ab_ rfl (ab_ rfl (aa_ D ?_))),sE_ h.files user (id.tmod 1048576) now⟩;rw[V]
  .have M:(k != 1)=true:=by simpa using J
   exact Both2.same h 33 (aa_ m (aa_ (a:=33) (ae_ (by simp only[M];rfl) rfl) (ae_ rfl (aa_ u rfl)))) (aa_ j (ab_ rfl (ae_ M rfl)))
theorem wstat_both{s:Xw}(h:Ok17 s)(z:SizeOK s.Xf)(user:Str){id:Int}(q:I64 id)(d:Yf)(now:Int)(y:user.length<=9223372036854775807)(M:DirB d):Both2 s (io_ s user id d now) (mh_ s user id d now):=by
 have u:=gg_ (h.tot z);unfold io_ mh_;rcases lb_ h z user q y with⟨p,e,m,j,C⟩|⟨V,m,j⟩|⟨F,k,f,m,j⟩
 .have Z:(e==0)=false:=by simpa using C
  exact Both2.same h e (aa_ m (aa_ (a:=e) (ab_ (by simp only[Z,Bool.false_and]) rfl) (ae_ (ne0 C) (aa_ u rfl)))) (aa_ j (ae_ (ne0 C) rfl))
 .rw[oE_ V];exact Both2.same h 33 (aa_ m (aa_ (a:=33) (ae_ rfl rfl) (ae_ rfl (aa_ u rfl)))) (aa_ j (ab_ rfl (ae_ rfl rfl)))
 .rw[f.kk];by_cases J:k=1
  .subst J;obtain⟨rfl,U⟩:=f.one q;rw[U];have G:=wstat_eq h.files z user (id.tmod 1048576) d now y M;have D:=ref_wstat_eq h.files z user (id.tmod 1048576) d now y M;cases x:(hT_ s.Xf user (id.tmod 1048576) d now).2 != 0 with
   | true =>
    refine Both2.same h _ (aa_ m (aa_ (a:=0) (ab_ rfl rfl) (ab_ rfl (aa_ G (ae_ x (aa_ u rfl)))))) (aa_ j (ab_ rfl (ab_ rfl (aa_ D ?_))));rw[wstatS_err _ _ _ _ _ x]
   | false =>
    have Y:(hT_ s.Xf user (id.tmod 1048576) d now).2=0:=by simpa using x
    refine⟨_,0,aa_ m (aa_ (a:=0) (ab_ rfl rfl) (ab_ rfl (aa_ G (ab_ x (aa_ (lP_ (h.tot z) _) rfl))))),aa_ j (ab_ rfl (ab_ rfl (aa_ D ?_))),wstat_after h.files user (id.tmod 1048576) d now⟩;rw[Y]
  .have O:(k != 1)=true:=by simpa using J
   exact Both2.same h 33 (aa_ m (aa_ (a:=33) (ae_ (by simp only[O];rfl) rfl) (ae_ rfl (aa_ u rfl)))) (aa_ j (ab_ rfl (ae_ O rfl)))
theorem closeS_none{s:Xj}(f:FileOK s){id:Int}(hi:isS s id=false)(user:Str)(mode now:Int):mK_ s user id mode now=s:=by
 have m:cM_ s.Xt id=s.Xt:=outX_not λh=>by
  have:=(f.exc id h).1;unfold isS at hi;rw[this]at hi;cases hi
 have j:setX s (cM_ s.Xt id)=s:=by rw[m];rfl
 unfold mK_;rw[j];cases al_ mode 6 with
 | false=>rfl
 | true =>
  have p:(bR_ s user id != 0)=true:=by
   unfold bR_;rw[hi];cases vU user<;>rfl
  show(dT_ s user id now).1=s;unfold dT_;rw[p];rfl
theorem close_both{s:Xw}(h:Ok17 s)(z:SizeOK s.Xf)(user:Str){id:Int}(j:I64 id)(mode now:Int)(D:user.length<=9223372036854775807)(hm:mode<=9223372036854775807) :
  ∃f,im_ s user id mode now=some (Xw.mk f s.Yk s.Xr)/\md_ s user id mode now=some (Xw.mk f s.Yk s.Xr)/\After s.Xf f:=by
 have G:=gg_ (h.tot z);unfold im_ md_;rcases look h z j with⟨u,y,l2⟩|⟨u,⟨p,y⟩,l2⟩|⟨F,k,f⟩
 .rw[oE_ u];exact⟨s.Xf,aa_ y (ae_ rfl (aa_ G rfl)),aa_ (a:=s) (ab_ (by simp) rfl) rfl,After.refl h.files⟩
 .refine⟨s.Xf,aa_ y (ae_ rfl (aa_ G rfl)),aa_ (a:=s) ?_ rfl,After.refl h.files⟩;cases m:decide (id>0)&&(IntKind.i64.wrap (id.tdiv 1048576)==1)with
  | false=>rfl
  | true =>
   simp only[qAn,qDe,qF]at m;obtain⟨h0,M⟩:=m;obtain⟨i1,i2⟩:=j;have Z:id.tdiv 1048576=1:=by
    rw[zC (by omega)]at M ⊢
    rwa [dB_ ⟨by omega,by omega⟩]at M
   have C:w64 (id-1048576)=id.tmod 1048576:=by
    rw[zC (by omega)]at Z;rw[ao_ ⟨by omega,by omega⟩,zj (by omega)];omega
   have Y:isS s.Xf (id.tmod 1048576)=false:=by
    unfold cU_ at l2;have J:((id==1)||(id==2))=false:=by
     simp only[not_or]at u;simp[u.1,u.2]
    have V:=h.sl;rw[J,M]at l2;have hb:(decide (id<0)||decide ((1:Int)<1)||decide ((1:Int)>w64 ((s.Xr.length:Int)+1)))=false:=by
     rw[ao_ ⟨by omega,by omega⟩];simp;omega
    have O:(Option.bind (cE_ s 1) λx=>(aP_ x.Xy (id.tmod 1048576)).bind λq=>some q.2)=some false:=by
     rw[←l2];exact(ab_ rfl (ab_ hb rfl)).symm
    have U:=aa_ (f:=λ(x:Xj)=>(aP_ x.Xy (id.tmod 1048576)).bind λq=>some q.2) (show cE_ s 1=some s.Xf from rfl) (aa_ (f:=λ(q:Xq×Bool)=>some q.2) (aK_ s.Xf.Xy (id.tmod 1048576) (nl2 z)) rfl);rw[U]at O;exact qSj O
   rw[C];refine ae_ rfl (aa_ (sF_ h.files z user (id.tmod 1048576) mode now D hm) ?_);rw[closeS_none h.files Y]
 .rw[f.kk];have ge:=f.ge;by_cases m:k=1
  .subst m;obtain⟨rfl,C⟩:=f.one j;rw[C];exact⟨_,aa_ f.find (ab_ rfl (aa_ (close_eq h.files z user (id.tmod 1048576) mode now D hm) (aa_ (lP_ (h.tot z) _) rfl))),aa_ (ae_ (by simp;omega) (aa_ (sF_ h.files z user (id.tmod 1048576) mode now D hm) rfl)) rfl,close_after h.files user (id.tmod 1048576) mode now⟩
  .have e1:(k != 1)=true:=by simpa using m
   have e2:(k==1)=false:=by simpa using m
   exact⟨s.Xf,aa_ f.find (ae_ (by simp only[e1];rfl) (aa_ G rfl)),aa_ (a:=s) (ab_ (by rw[e2,Bool.and_false]) rfl) rfl,After.refl h.files⟩
theorem taken_ok{s t:Xw}{now:Int}(h:Ok17 s)(O:s.Xr.length<64)(M:0<=now)(J:now<=1099511627776)(k:Taken s now t):Ok17 t:=by
 obtain⟨k1,C⟩:=treeS_ok h.store (t:=s.Xf.Xy) h.files.tr;have st:StOK t.Yk:=by rw[k.store];exact k1
 have le:StLe s.Yk t.Yk:=by rw[k.store];exact C
 have ks:=k.snaps;refine⟨by rw[ks];simp;omega,by rw[k.files];exact h.files,st,λx f => ?_,λi x y hi f j => ?_,λx f => ?_⟩
 .rw[ks]at f;rcases qY.1 f with f|f
  .exact h.time x f
  .obtain rfl:=qD.1 f;exact⟨M,J⟩
 .rw[ks]at f j;rcases qN i s.Xr.length with m|D
  .rw[zP m]at f;rw[zP (by omega)]at j;exact h.asc i x y hi f j
  .have p:i=s.Xr.length:=by
    rcases qN s.Xr.length i with G|G
    .rw[qR (by simp;omega)]at f;cases f
    .omega
   subst p;rw[zP (by omega)]at j;rw[List.getElem?_concat_length]at f;obtain rfl:=qSj f;exact k.last y (by rw[List.getLast?_eq_getElem?];exact j)
 .obtain⟨U,E,u⟩:=ti_ st x.Xi;rw[ks]at f;have F:∃T,b0_ t.Yk x.Xi=some (T,0):=by
   rcases qY.1 f with f|f
   .obtain⟨T,q⟩:=h.tree x f;exact⟨T,q.le h.store st le⟩
   .obtain rfl:=qD.1 f;obtain⟨seen,s1,_⟩:=restored h.store st h.files.tr k.ok (by rw[←k.store];exact StLe.refl _);exact⟨s.Xf.Xy,by unfold b0_;exact aa_ s1 rfl⟩
  obtain⟨T,q⟩:=F;have:=u.get.symm.trans q;simp only[qOi,qG]at this;obtain⟨rfl,rfl⟩:=this;exact⟨U,u⟩
theorem take_both{s:Xw}(h:Ok17 s)(z:SizeOK s.Xf)(now:Int):∃t e,cp_ s now=some (t,e)/\d2_ s now=some (t,e)/\Ok17 t/\t.Xf=s.Xf:=by
 have ZZ:=h.sl;have u:=gg_ (h.tot z);have hr:cS_ s.Xf.Xy=some true:=by
  obtain⟨b,F,J⟩:=hp_ s.Xf.Xy z.nl (oD_ h.files.tr);rw[J.2 h.files.tr]at F;exact F
 have U:=PutTree_eq h.store h.files.tr (v6_ (h.tot z));have O:=xf_ h.store h.files.tr hr;have p:∃c,(Option.bind (bif decide ((s.Xr.length:Int)>0)then(an_ s.Xr (w64 ((s.Xr.length:Int)-1))).bind λY=>some (decide (now<=Y.Yb))else some false) λ(V:Bool)=>some V)=some c/\(c=false->∀x,s.Xr.getLast? = some x->x.Yb<now):=by
  rcases qn s.Xr.length with C|C
  .have he:s.Xr=[]:=zu.1 C;rw[he];exact⟨false,rfl,λ_ x D=>by cases D⟩
  .have hi:s.Xr.length-1<s.Xr.length:=by omega
   have hg:an_ s.Xr (w64 ((s.Xr.length:Int)-1))=some s.Xr[s.Xr.length-1]:=by
    rw[ao_ ⟨by omega,by omega⟩,show(s.Xr.length:Int)-1=((s.Xr.length-1:Nat):Int)by omega];exact ap_ hi
   have hd:decide ((s.Xr.length:Int)>0)=true:=by simpa using C
   rw[hd,hg];refine⟨decide (now<=s.Xr[s.Xr.length-1].Yb),rfl,λhf x D => ?_⟩;rw[List.getLast?_eq_getElem?,qQ hi]at D;obtain rfl:=qSj D;simpa using hf
 obtain⟨c,q,l2⟩:=p;have same:∀e,cp_ s now=some (s,e)->d2_ s now=some (s,e)->∃t e,cp_ s now=some (t,e)/\d2_ s now=some (t,e)/\Ok17 t/\t.Xf=s.Xf:=λe F J=>⟨s,e,F,J,h,rfl⟩
 cases f:decide ((s.Xr.length:Int)>=64)with
 | true=>exact same 22 (by unfold cp_;exact ae_ f (aa_ u rfl)) (by unfold d2_;exact ae_ f rfl)
 | false =>
 have G:s.Xr.length<64:=by
  simp only[qDf]at f;omega
 cases m:decide (now<0)||decide (now>1099511627776)with
 | true=>exact same 1 (by unfold cp_;exact ab_ f (aa_ (a:=true) (ae_ m rfl) (ae_ rfl (aa_ u rfl)))) (by unfold d2_;exact ab_ f (aa_ (a:=true) (ae_ m rfl) (ae_ rfl rfl)))
 | false =>
 cases c with
 | true=>exact same 1 (by unfold cp_;exact ab_ f (aa_ (a:=true) (ab_ m q) (ae_ rfl (aa_ u rfl)))) (by unfold d2_;exact ab_ f (aa_ (a:=true) (ab_ m q) (ae_ rfl rfl)))
 | false =>
 simp only[qP,qDf]at m;have j:(decide (now<0)||decide (now>1099511627776))=false:=by simp;omega
 cases y:(dG_ s.Yk s.Xf.Xy).2.2 != 0 with
 | true=>exact same _ (by unfold cp_;exact ab_ f (aa_ (a:=false) (ab_ j q) (ab_ rfl (aa_ U (ae_ y (aa_ u rfl)))))) (by unfold d2_;exact ab_ f (aa_ (a:=false) (ab_ j q) (ab_ rfl (aa_ O (ae_ y rfl)))))
 | false =>
  have C:(dG_ s.Yk s.Xf.Xy).2.2=0:=by simpa using y
  have M:room 24 s.Xr [Zz.mk now (dG_ s.Yk s.Xf.Xy).2.1]=some (s.Xr++[Zz.mk now (dG_ s.Yk s.Xf.Xy).2.1]):=bm_ (by simp;omega) (by simp;omega);have Z:room 24 ([]:List Zz) s.Xr=some s.Xr:=bm_ (by simp;omega) (by simp;omega);refine⟨Xw.mk s.Xf (dG_ s.Yk s.Xf.Xy).1 (s.Xr++[Zz.mk now (dG_ s.Yk s.Xf.Xy).2.1]),0,?_,?_,taken_ok h G (by omega) (by omega) ⟨C,rfl,rfl,rfl,l2 rfl⟩,rfl⟩
  .unfold cp_;exact ab_ f (aa_ (a:=false) (ab_ j q) (ab_ rfl (aa_ U (ab_ y (aa_ u (aa_ M rfl))))))
  .unfold d2_;exact ab_ f (aa_ (a:=false) (ab_ j q) (ab_ rfl (aa_ O (ab_ y (aa_ Z (aa_ M rfl))))))
theorem after17{s:Xw}{f:Xj}(h:Ok17 s)(a:After s.Xf f):Ok17 (Xw.mk f s.Yk s.Xr):=⟨h.sl,a.ok h.files,h.store,h.time,h.asc,h.tree⟩
structure Next17(s t:Xw):Prop where
 ok:Ok17 t
 users:t.Xf.Yz=s.Xf.Yz
 quotas:t.Xf.Yx=s.Xf.Yx
 nl:t.Xf.Xy.Xz.length<=s.Xf.Xy.Xz.length+1
 el:t.Xf.Xt.length<=s.Xf.Xt.length+1
theorem oF_{s:Xw}{f:Xj}(h:Ok17 s)(a:After s.Xf f):Next17 s (Xw.mk f s.Yk s.Xr):=⟨after17 h a,a.users,a.quotas,a.nl,a.el⟩
theorem Next17.size{s t:Xw}(n:Next17 s t)(z:SizeOK s.Xf)(f:s.Xf.Xy.Xz.length<=1000)(h:s.Xf.Xt.length<=400):SizeOK t.Xf :=
 ⟨by rw[n.users];exact z.ul,by rw[n.users];exact z.um,by rw[n.users];exact z.us,by rw[n.quotas];exact z.ql,by rw[n.quotas];exact z.qs,by have:=n.nl;omega,by have:=n.el;omega⟩
theorem calls_both{s:Xw}(h:Ok17 s)(z:SizeOK s.Xf){o:Zk}(C:Op17 o)(m:I64 o.Id_):∃t n e,o0_ s o=some (t,n,e)/\nC_ s o=some (t,n,e)/\Next17 s t:=by
 have F:o.Yt.length<=9223372036854775807:=by have:=C.user;omega
 have O:o.Xg.length<=9223372036854775807:=by have:=C.name;omega
 have U:o.Xl.length<=9223372036854775807:=by have:=C.data;omega
 unfold o0_ nC_;by_cases k1:o.Ya=1
 .obtain⟨f,e,q,p,a⟩:=(open_both h z o.Yt m o.Xk o.Zv F C.mode).both;exact⟨_,_,_,aa_ (ae_ (by simp[k1]) (aa_ q rfl)) rfl,aa_ (ae_ (by simp[k1]) (aa_ p rfl)) rfl,oF_ h a⟩
 by_cases j:o.Ya=2
 .obtain⟨f,n,e,q,p,a⟩:=(create_both h z o.Yt m o.Xg o.Ze o.Xk o.Zv F C.mode C.perm O).both;exact⟨_,_,_,aa_ (ab_ (by simp[k1]) (ae_ (by simp[j]) (aa_ q rfl))) rfl,aa_ (ab_ (by simp[k1]) (ae_ (by simp[j]) (aa_ p rfl))) rfl,oF_ h a⟩
 by_cases u:o.Ya=3
 .obtain⟨f,n,e,q,p,a⟩:=(write_both h z o.Yt m o.Zs o.Xl o.Zv F U).both;exact⟨_,_,_,aa_ (ab_ (by simp[k1]) (ab_ (by simp[j]) (ae_ (by simp[u]) (aa_ q rfl)))) rfl,aa_ (ab_ (by simp[k1]) (ab_ (by simp[j]) (ae_ (by simp[u]) (aa_ p rfl)))) rfl,oF_ h a⟩
 by_cases x:o.Ya=4
 .obtain⟨f,q,p,a⟩:=close_both h z o.Yt m o.Xk o.Zv F C.mode.2;exact⟨_,_,_,aa_ (ab_ (by simp[k1]) (ab_ (by simp[j]) (ab_ (by simp[u]) (ae_ (by simp[x]) (aa_ q rfl))))) rfl,aa_ (ab_ (by simp[k1]) (ab_ (by simp[j]) (ab_ (by simp[u]) (ae_ (by simp[x]) (aa_ p rfl))))) rfl,oF_ h a⟩
 by_cases y:o.Ya=5
 .obtain⟨f,e,q,p,a⟩:=(remove_both h z o.Yt m o.Zv F).both;exact⟨_,_,_,aa_ (ab_ (by simp[k1]) (ab_ (by simp[j]) (ab_ (by simp[u]) (ab_ (by simp[x]) (ae_ (by simp[y]) (aa_ q rfl)))))) rfl,aa_ (ab_ (by simp[k1]) (ab_ (by simp[j]) (ab_ (by simp[u]) (ab_ (by simp[x]) (ae_ (by simp[y]) (aa_ p rfl)))))) rfl,oF_ h a⟩
 by_cases D:o.Ya=6
 .obtain⟨f,e,q,p,a⟩:=(wstat_both h z o.Yt m o.Zf o.Zv F C.dir).both;exact⟨_,_,_,aa_ (ab_ (by simp[k1]) (ab_ (by simp[j]) (ab_ (by simp[u]) (ab_ (by simp[x]) (ab_ (by simp[y]) (ae_ (by simp[D]) (aa_ q rfl))))))) rfl,aa_ (ab_ (by simp[k1]) (ab_ (by simp[j]) (ab_ (by simp[u]) (ab_ (by simp[x]) (ab_ (by simp[y]) (ae_ (by simp[D]) (aa_ p rfl))))))) rfl,oF_ h a⟩
 by_cases J:o.Ya=7
 .obtain⟨t,e,q,p,M,G⟩:=take_both h z o.Zv;exact⟨t,_,_,aa_ (ab_ (by simp[k1]) (ab_ (by simp[j]) (ab_ (by simp[u]) (ab_ (by simp[x]) (ab_ (by simp[y]) (ab_ (by simp[D]) (ae_ (by simp[J]) (aa_ q rfl)))))))) rfl,aa_ (ab_ (by simp[k1]) (ab_ (by simp[j]) (ab_ (by simp[u]) (ab_ (by simp[x]) (ab_ (by simp[y]) (ab_ (by simp[D]) (ae_ (by simp[J]) (aa_ p rfl)))))))) rfl,⟨M,by rw[G],by rw[G],by rw[G];exact jf _,by rw[G];exact jf _⟩⟩
 .exact⟨s,0,0,aa_ (ab_ (by simp[k1]) (ab_ (by simp[j]) (ab_ (by simp[u]) (ab_ (by simp[x]) (ab_ (by simp[y]) (ab_ (by simp[D]) (ab_ (by simp[J]) rfl))))))) rfl,aa_ (ab_ (by simp[k1]) (ab_ (by simp[j]) (ab_ (by simp[u]) (ab_ (by simp[x]) (ab_ (by simp[y]) (ab_ (by simp[D]) (ab_ (by simp[J]) rfl))))))) rfl,oF_ h (After.refl h.files)⟩
theorem op_id{o:Zk}(h:Fit te (.st op17N) o):I64 o.Id_:=(h 0).2.2.1
theorem rC_(x0:Xw)(m:Zk)(F:Fit te (.st snapN) x0)(u:Fit te (.st op17N) m):e2_ x0 m=some true:=by
 unfold e2_;rw[awake_eq];have s:((some true:Option Bool).bind λy=>some y)=some true:=rfl;refine ask17 (srv_fit F) (p := !(lightB m)) rfl s λC q z h => ?_
 obtain⟨t,n,e,M,J,j⟩:=calls_both h z (op_ok u (by simpa using C)) (op_id u);have O:=q.nl;have U:=q.el;have D:=j.nl;have z2:=j.size z (by omega) (by omega);obtain⟨b,x,G⟩:=PRight_eq t z2 (oD_ j.ok.files.tr) j.ok.store.size;rw[G.2 j.ok]at x;have f:kA_ t t=some true:=same17 (j.ok.tot z2) (by omega);exact aa_ M (aa_ J (aa_ (a:=true) (ae_ (by simp) (aa_ f rfl)) (aa_ (a:=true) (ae_ rfl (aa_ x rfl)) (aa_ (a:=true) (ae_ rfl s) rfl))))
end Go.Proofs.YtebokaoegomboaaGreatDoor
