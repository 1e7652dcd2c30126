/-
 What the statements of this seat hang on,part 10: Hzc Hzd Uc Ug Uh Hzh Hzi Hzj Hzk Hzl Ud Ue Uj Uf Uk Ul Um Un.
-/
import Derived.Test.YtebokaoegomboaaGreatDoorZH9
import Derived.Sort.Walk0
namespace Go.Proofs.YtebokaoegomboaaGreatDoor
open Go.Rt Go.RowKit
theorem get_R {s:Xx} (hs:StOK s):∀(f m:Nat) {n:Xq} {r:Xp} {left:Int},f<=m->left.toNat<f->left<=1024 ->
  ∃q,cY_ m s n r left=some q/\q.2=(bb_ s f n r left).2.2/\(q.2=0->q.1=(bb_ s f n r left).1)
 | 0,_,n,r,left,_,hf,_=>by omega
 | f + 1, m,n,r,left,hm,hf,ZW=>by
  obtain⟨m,rfl⟩:∃m',m=m'+1:=⟨m-1,by omega⟩;show ∃q,dr_ (cY_ m) s n r left=some q/\_;unfold bb_;by_cases hl:left<1
  .rw[qV hl];refine⟨([],2),?_,rfl,λe=>by cases e⟩;unfold dr_;exact aa_ (a:=true) (af_ (by simpa using hl) rfl) (af_ rfl rfl)
  .rw [qX hl];obtain⟨ZT,ZU⟩:=mb_ hs (aT_ n) r;cases M:eD_ r with
   | false =>
    have ZV:az_ s (aT_ n) r=([],[],2):=by unfold az_;rw[M];rfl
    rw[ZV];refine⟨([],2),?_,rfl,λe=>by cases e⟩;unfold dr_;exact aa_ (a:=true) (ab_ (by simpa using hl) (aa_ (om_ r) (by rw[M];rfl))) (af_ rfl rfl)
   | true =>
    have u:∀{R},((bf_ n.Xv).bind λy3=>(bif(!y3)then(dO_ s 1 r).bind λy4=>some ([s5_ n y4.1],y4.2)else(dO_ s 3 r).bind λy5=>(bif(y5.2 != 0)then some ([],y5.2)else Option.bind (am_ (cF_ y5 n) BIG ([],[],(Yn.mk y5.1 0 false))) λ(ZX:Out ((List Xq)×(List Xp)) ((List Xq)×Int))=>match ZX with
      | .ret r1=>some r1
      | .fall o1=>(am_ (dP_ (cY_ m) s left) BIG (0,o1.1,o1.2,[n])).bind λZY=>match ZY with
       | .ret r2=>some r2
       | .fall o2=>some (o2,0))))=R->dr_ (cY_ m) s n r left=R:=λhR=>by
     unfold dr_;exact aa_ (a:=false) (ab_ (by simpa using hl) (aa_ (om_ r) (by rw[M];rfl))) (ab_ rfl hR)
    by_cases Z:n.Xv>=2147483648
    .have hk:aT_ n=3:=qV Z;have h:bf_ n.Xv=some true:=by unfold bf_;simp[Z]
     rw[hk]at ZT ZU ⊢;have j:=o0_ hs (k:=3) (by omega) r;by_cases F:(az_ s 3 r).2.2=0
     .rw [qV F,qV Z];have D:=gE_ (R_entries (s:=(az_ s 3 r).1) (by omega) n (az_ s 3 r).2.2 ((az_ s 3 r).1.length+1) 0 [] [] (d:=Yn.mk (az_ s 3 r).1 0 false) ⟨rfl,rfl,0,rfl,qq _,λb hb=>qSj hb⟩ (qq _) (by omega) (by simp) (by simp)) (show(az_ s 3 r).1.length+1<=BIG from Nat.le_of_lt (b6_ (by omega)));cases G:fy_ (az_ s 3 r).1 n.Id_ ((az_ s 3 r).1.length+1) 0 with
      | none =>
       rw[G]at D;exact⟨([],2),u (aa_ h (ab_ rfl (aa_ j (ab_ (by simp[F]) (aa_ D rfl))))),rfl,λe=>by cases e⟩
      | some l =>
       rw[G]at D;have ZS:l.length<=(az_ s 3 r).1.length+1:=by
        unfold fy_ at G;obtain⟨l',h1,h2⟩:=qOb.1 G;split at h2
        .obtain rfl:=qSj h2;exact sz_ _ _ _ h1
        .cases h2
       have O:∀(V:List (Xq×Xp)) (i:Nat) (acc:List Xq×List Str),l.drop i=V->i<=l.length->1<=acc.1.length->(acc.1.length:Int)<=left ->
         ∃w,am_ (dP_ (cY_ m) s left) (V.length+1) ((i:Int),l.map (·.1),l.map (·.2),acc.1)=some w/\(match aW_ (fG (bb_ s f) left) acc V with
          | .inl a=>w = .fall a.1
          | .inr e=>e.2.2≠0/\w = .ret ([],e.2.2)):=by
        intro V
        induction V with
        | nil =>
         intro i acc U hi _ _;have:i=l.length:=by
          have:=qH List.length U;simp at this;omega
         subst this;refine⟨.fall acc.1,aS_ ?_,by simp[aW_]⟩;unfold dP_;exact ab_ (by simp) rfl
        | cons q V ih =>
         intro i acc U hi a1 a2;obtain⟨g1,g2,g3⟩:=sy_ U;have x:w64 (left-(acc.1.length:Int))=left-(acc.1.length:Int):=aq_ ⟨by omega,by omega⟩;obtain⟨p,k1,k2,k3⟩:=get_R hs f m (n:=q.1) (r:=q.2) (left:=left-(acc.1.length:Int)) (by omega) (by omega) (by omega);have C:an_ (l.map (·.1)) (i:Int)=some q.1:=by rw[bx_,qm,g1];rfl
         have y:an_ (l.map (·.2)) (i:Int)=some q.2:=by rw[bx_,qm,g1];rfl
         simp only[aW_];unfold fG;by_cases J:(bb_ s f q.1 q.2 (left-(acc.1.length:Int))).2.2=0
         .rw[qV J];have k4:=k3 (k2.trans J);obtain⟨c1,c2,c3⟩:=kS_ hs f J;obtain⟨w,w1,Y⟩:=ih (i+1) (acc.1++(bb_ s f q.1 q.2 (left-(acc.1.length:Int))).1,acc.2++(bb_ s f q.1 q.2 (left-(acc.1.length:Int))).2.1) g2 (by omega) (by simp;omega) (by simp;omega);refine⟨w,bh_ ?_ w1,Y⟩;unfold dP_;refine af_ (by simp;omega) (aa_ C (aa_ y (aa_ (by rw[x];exact k1) (ab_ (by rw[k2,J];rfl) (aa_ (a:=acc.1++(bb_ s f q.1 q.2 (left-(acc.1.length:Int))).1) (by rw[k4];exact bj_ (show acc.1.length+_<=_ by omega) (show(acc.1.length+_)*128<=_ by omega)) ?_)))));rw[aw_ (by omega)]
         .rw[qX J];refine⟨.ret ([],p.2),aS_ ?_,J,by rw[k2]⟩;unfold dP_;exact af_ (by simp;omega) (aa_ C (aa_ y (aa_ (by rw[x];exact k1) (af_ (by rw[k2];simpa using J) rfl))))
       obtain⟨w,w1,Y⟩:=O l 0 ([n],(az_ s 3 r).2.1) (by simp) (qq _) (by simp) (by simp;omega);have ZZ:=gE_ w1 (show l.length+1<=BIG from Nat.le_of_lt (b6_ (by omega)));cases hr:aW_ (fG (bb_ s f) left) ([n],(az_ s 3 r).2.1) l with
       | inl a =>
        rw[hr]at Y;subst Y;simp only[hr,outS];exact⟨(a.1,0),u (aa_ h (ab_ rfl (aa_ j (ab_ (by simp[F]) (aa_ D (aa_ ZZ rfl)))))),rfl,λ_=>rfl⟩
       | inr e =>
        rw[hr]at Y;obtain⟨J,rfl⟩:=Y;simp only[hr,outS];exact⟨([],e.2.2),u (aa_ h (ab_ rfl (aa_ j (ab_ (by simp[F]) (aa_ D (aa_ ZZ rfl)))))),rfl,λe0=>absurd e0 J⟩
     .rw[qX F];exact⟨([],(az_ s 3 r).2.2),u (aa_ h (ab_ rfl (aa_ j (af_ (by simpa using F) rfl)))),rfl,λe=>absurd e F⟩
    .have hk:aT_ n=1:=qX Z;have h:bf_ n.Xv=some false:=by unfold bf_;simp[Z]
     rw[hk];have j:=o0_ hs (k:=1) (by omega) r;refine⟨([s5_ n (az_ s 1 r).1],(az_ s 1 r).2.2),u (aa_ h (af_ rfl (aa_ j rfl))),?_,λe => ?_⟩
     .split
      .rename_i F;exact F
      .rfl
     .have F:(az_ s 1 r).2.2=0:=e;rw[qV F,qX Z]
def leN(x:Xq):List Xq->Nat | []=>0|y::l=>if y.Id_<=x.Id_ then leN x l+1 else 0
theorem leN_le(x:Xq):∀l,leN x l<=l.length
 | []=>qA _
 | y::l=>by
  unfold leN;have:=leN_le x l;split<;>simp<;>omega
theorem leN_lt(x:Xq):∀{l:List Xq} {i:Nat} (h:i<l.length),i<leN x l->l[i].Id_<=x.Id_
 | y::l,0,_,hi=>by
  unfold leN at hi;split at hi
  .assumption
  .omega
 | y::l,i+1,h,hi=>by
  unfold leN at hi;split at hi
  .exact leN_lt x (l:=l) (i:=i) (by simpa using h) (by omega)
  .omega
theorem leN_at(x:Xq):∀{l:List Xq} (h:leN x l<l.length),¬l[leN x l].Id_<=x.Id_
 | y::l,h=>by
  by_cases f:y.Id_<=x.Id_
  .have e:leN x (y::l)=leN x l+1:=by simp[leN,f]
   simp only[e]at h ⊢;exact leN_at x (l:=l) (by simpa using h)
  .have e:leN x (y::l)=0:=by simp[leN,f]
   simp only[e];exact f
def insA(out:List Xq)(x:Xq):List Xq:=out.take (leN x out)++[x]++out.drop (leN x out)
theorem insA_len(out:List Xq)(x:Xq):(insA out x).length=out.length+1:=by
 have:=leN_le x out;unfold insA;simp;omega
theorem insA_perm(out:List Xq)(x:Xq):(insA out x).Perm (x::out):=by
 unfold insA;rw[qT];have h:=List.perm_middle (a:=x) (l₁ := out.take (leN x out)) (l₂ := out.drop (leN x out));rw[zl]at h;exact h
theorem insA_sorted{out:List Xq}(x:Xq)(h:out.Pairwise λa b=>leK (λn:Xq=>n.Id_) a b=true):(insA out x).Pairwise λa b=>leK (λn:Xq=>n.Id_) a b=true:=by
 have C:=leN_le x out;unfold insA;have f:=zK.1 h;rw[qT];refine List.pairwise_append.2 ⟨h.sublist (List.take_sublist _ _),List.pairwise_append.2 ⟨by simp,h.sublist (List.drop_sublist _ _),λa p b m => ?_⟩,λa p b m => ?_⟩
 .rw[qE]at p;subst p;obtain⟨j,q,e⟩:=List.getElem_of_mem m;rw[qS]at q;rw[List.getElem_drop]at e;have s:=leN_at a (l:=out) (by omega);unfold leK;simp only[qDe];rw[←e];rcases qt j with u|u
  .subst u;simp only[jF];omega
  .have:=f (leN a out) (leN a out+j) (by omega) (by omega) (by omega);unfold leK at this;simp only[qDe]at this;omega
 .obtain⟨i,hi,e⟩:=List.getElem_of_mem p;rw[qb]at hi;rw[List.getElem_take]at e;have s:=leN_lt x (l:=out) (i:=i) (by omega) (by omega);rcases qY.1 m with m|m
  .rw[qE]at m;subst m;unfold leK;simp only[qDe];rw[←e];exact s
  .obtain⟨j,q,y⟩:=List.getElem_of_mem m;rw[qS]at q;rw[List.getElem_drop]at y;rw[←e,←y];exact f i (leN x out+j) (by omega) (by omega) (by omega)
theorem sorted_step{out l:List Xq}{i:Nat}(hi:i<l.length)(q:out.length<=1000000):am_ (hg_ (out,(i:Int)) l) BIG 0=some ((leN l[i] out:Nat):Int):=by
 have m:=leN_le l[i] out;refine be_ (T:=λj=>(j:Int)) (leN l[i] out) (b6_ (by omega)) (λj p => ?_) ?_
 .have f:j<out.length:=by omega
  unfold hg_;refine aa_ (a:=true) (af_ (bm_ f) (aa_ (au_ f) (aa_ (au_ hi) ?_))) (af_ rfl (by rw[aw_ (by omega)]));exact qH some (decide_eq_true (leN_lt l[i] f p))
 .unfold hg_;refine aa_ (a:=false) ?_ rfl;by_cases h:leN l[i] out<out.length
  .refine af_ (bm_ h) (aa_ (au_ h) (aa_ (au_ hi) ?_));exact qH some (decide_eq_false (leN_at l[i] h))
  .have:leN l[i] out=out.length:=by omega
   rw[this];exact ab_ (bC_ _) rfl
theorem rr_{l:List Xq}(F:l.length<=100000):∃y,kg_ l=some y/\y.Perm l/\y.Pairwise λa b=>leK (λn:Xq=>n.Id_) a b=true:=by
 have h:=d4_ (body:=hh_ l) l (λout _ x=>insA out x) (λi s=>(s,(i:Int))) (λi s=>s.length=i) (λs=>s) [] (b6_ (by omega)) rfl (λi s hi m => ?_) (λs m => ?_)
 .refine⟨_,aa_ h rfl,?_⟩;have C:∀(xs acc:List Xq) (k:Nat),(acc.Pairwise λa b=>leK (λn:Xq=>n.Id_) a b=true)->(bH_ (λout _ x=>insA out x) acc k xs).Perm (xs++acc)/\(bH_ (λout _ x=>insA out x) acc k xs).Pairwise λa b=>leK (λn:Xq=>n.Id_) a b=true:=λxs=>by
   induction xs with
   | nil=>exact λacc k f=>⟨List.Perm.refl _,f⟩
   | cons x xs q =>
    intro acc k f;obtain⟨u,i2⟩:=q (insA acc x) (k+1) (insA_sorted x f);refine⟨u.trans ?_,i2⟩;refine((insA_perm acc x).append_left xs).trans ?_;exact List.perm_middle
  obtain⟨j,p⟩:=C l [] 0 List.Pairwise.nil;rw[zj]at j;exact⟨j,p⟩
 .have D:=leN_le l[i] s;refine⟨?_,by rw[insA_len,m]⟩;unfold hh_;refine af_ (bm_ hi) (aa_ (sorted_step (out:=s) hi (by omega)) (aa_ (a:=s.take (leN l[i] s)) ?_ (aa_ (a:=s.take (leN l[i] s)) ?_ (aa_ (au_ hi) (aa_ (a:=s.take (leN l[i] s)++[l[i]]) ?_ (aa_ (a:=s.drop (leN l[i] s)) ?_ (aa_ (a:=insA s l[i]) ?_ (by rw[aw_ (by omega)]))))))))
  .show bI_ s 0 ((leN l[i] s:Nat):Int)=_;rw[b5_ (by omega) (by omega) (by omega),qTn];rfl
  .rw[bj_ (by simp;omega) (by simp;omega)];rfl
  .rw[bj_ (by simp;omega) (by simp;omega)]
  .show bI_ s ((leN l[i] s:Nat):Int) (s.length:Int)=_;rw[b5_ (by omega) (by omega) (by omega),qTn,qTn,jm]
  .rw[bj_ (by simp;omega) (by simp;omega)];rfl
 .unfold hh_;exact ab_ (bC_ _) rfl
theorem sorts_agree{l y z:List Xq}(x:gI_ (λn:Xq=>n.Id_) l=some y)(u:kg_ l=some z)(D:l.length<=100000)(C:(l.map (·.Id_)).Nodup):y=z:=by
 obtain⟨f,s⟩:=pp_ x;obtain⟨z',m,q,p⟩:=rr_ D;rw[u]at m;obtain rfl:=qSj m;refine lv_ (f.trans q.symm) s p λa G b F j h => ?_
 refine key_inj C a (f.subset G) b (f.subset F) ?_;unfold leK at j h;simp only[qDe]at j h;omega
def headD(d:Str):Option (Int×Int×Xq×Xp×Nat):=(nD d 4 0).bind λj=>(nD d 4 j.2).bind λh=>(gd_ d h.2).map λf=>(j.1,h.1,f.1,f.2.1,f.2.2)
theorem P_head{d:Str}(hd:d.length<=1024):∃j p v2 m x h,aG_ (Yw.mk d 0 false) 4=some (j,p)/\aG_ p 4=some (v2,m)/\de_ m=some (x,h)/\(match headD d with
  | none=>h.Zw=true
  | some q=>h.Zw=false/\h.at_=(q.2.2.2.2:Int)/\j=q.1/\v2=q.2.1/\x=Xr.mk q.2.2.1 q.2.2.2.1):=by
 have O:DS d (some 0) (Yw.mk d 0 false):=⟨rfl,rfl,0,rfl,qq _,λb M=>qSj M⟩;obtain⟨j,p,a1,b1,Z⟩:=ma_ (by omega) O (w:=4) (by omega) (by omega);obtain⟨v2,m,a2,b2,G⟩:=ma_ (by omega) b1 (w:=4) (by omega) (by omega);obtain⟨x,h,a3,f,F⟩:=d_entry (by omega) b2;refine⟨j,p,v2,m,x,h,a1,a2,a3,?_⟩;unfold headD;cases D:nD d 4 0 with
 | none =>
  simp only[qBs,D,ze,Option.bind_none]at f;exact f.2.1
 | some u =>
  simp only[qBs,D,qM]at f G F ⊢;cases C:nD d 4 u.2 with
  | none =>
   simp only[C,ze,Option.bind_none]at f;exact f.2.1
  | some s =>
   simp only[qBs,C,qM]at f F ⊢;cases y:gd_ d s.2 with
   | none =>
    simp only[y,ze]at f;exact f.2.1
   | some J =>
    simp only[y,qM]at f ⊢;obtain⟨_,Y,a,V,_,U⟩:=f;exact⟨Y,by rw[V,U _ rfl],Z 0 u rfl D,G u.2 s rfl C,F s.2 J rfl y⟩
theorem R_head{d:Str}(hd:d.length<=1024):∃j p v2 m n r h,aE_ (Yn.mk d 0 false) 4=some (j,p)/\aE_ p 4=some (v2,m)/\eV_ m=some (n,r,h)/\(match headD d with
  | none=>h.Zg=true
  | some q=>h.Zg=false/\h.At_=(q.2.2.2.2:Int)/\j=q.1/\v2=q.2.1/\n=q.2.2.1/\r=q.2.2.2.1):=by
 have M:RS d (some 0) (Yn.mk d 0 false):=⟨rfl,rfl,0,rfl,qq _,λb J=>qSj J⟩;obtain⟨j,p,a1,b1,Y⟩:=kR_ (by omega) M (w:=4) (by omega) (by omega);obtain⟨v2,m,a2,Z,F⟩:=kR_ (by omega) b1 (w:=4) (by omega) (by omega);obtain⟨n,r,h,a3,f,D⟩:=r_entry (by omega) Z;refine⟨j,p,v2,m,n,r,h,a1,a2,a3,?_⟩;unfold headD;cases C:nD d 4 0 with
 | none =>
  simp only[qBs,C,ze,Option.bind_none]at f;exact f.2.1
 | some u =>
  simp only[qBs,C,qM]at f F D ⊢;cases y:nD d 4 u.2 with
  | none =>
   simp only[y,ze,Option.bind_none]at f;exact f.2.1
  | some s =>
   simp only[qBs,y,qM]at f D ⊢;cases x:gd_ d s.2 with
   | none =>
    simp only[x,ze]at f;exact f.2.1
   | some G =>
    simp only[x,qM]at f ⊢;obtain⟨_,V,a,U,_,O⟩:=f;obtain⟨f1,f2⟩:=D s.2 G rfl x;exact⟨V,by rw[U,O _ rfl],Y 0 u rfl C,F u.2 s rfl y,f1,f2⟩
theorem entsF_all(s:Str):∀(f a:Nat) {l:List (Xq×Xp)},a<=s.length->fw_ s f a=some l->∀q∈l,q.1.Xv<=9223372036854775807/\q.1.Xh.length<=s.length
 | 0,a,l,_,h=>by cases h
 | f+1,a,l,u,h=>by
  unfold fw_ at h;split at h
  .obtain⟨q,m,h⟩:=qOb.1 h;obtain⟨F,x,rfl⟩:=Option.map_eq_some_iff.1 h;obtain⟨D,G,C,y⟩:=s4_ u m;intro p j;rcases qW.1 j with rfl|j
   .exact⟨C,y⟩
   .exact entsF_all s f _ D x p j
  .obtain rfl:=qSj h;intro p j;cases j
abbrev SmN(n:Xq):Prop:=n.Xv<=9223372036854775807/\n.Xh.length<=9223372036854775807
theorem getN_all {s:Xx} (D:StOK s):∀(f:Nat) {n:Xq} {r:Xp} {left:Int},SmN n->∀x∈(bb_ s f n r left).1,SmN x
 | 0,n,r,left,_,x,h=>by cases h
 | f + 1,n,r,left,F,x,h=>by
  obtain⟨J,_⟩:=mb_ D (aT_ n) r;unfold bb_ at h;split at h
  .cases h
  .split at h
   .split at h
    .split at h
     .cases h
     .rename_i l G;have u:∀q∈l,SmN q.1:=by
       unfold fy_ at G;obtain⟨U,M,C⟩:=qOb.1 G;split at C
       .obtain rfl:=qSj C;intro q p;have:=entsF_all _ _ _ (qq _) M q p;exact⟨this.1,by omega⟩
       .cases C
      have hi:=fv_ (f:=fG (bb_ s f) left) (λ_ acc=>∀y∈acc.1,SmN y) (λe=>e.1=[]) (xs:=l) (k:=0) (s0:=([n],(az_ s (aT_ n) r).2.1)) (λy m=>by rw[qE]at m;rw[m];exact F) λi acc q p O=>by
       unfold fG;refine⟨λs' j => ?_,λe j => ?_⟩
       .split at j
        .obtain rfl:=zU j;intro y m;rcases qY.1 m with m|m
         .exact O y m
         .exact getN_all D f (u q p) y m
        .cases j
       .split at j
        .cases j
        .obtain rfl:=zk j;rfl
      cases hr:aW_ (fG (bb_ s f) left) ([n],(az_ s (aT_ n) r).2.1) l with
      | inl acc =>
       rw[hr]at h;exact hi.1 acc hr x h
      | inr e =>
       rw[hr]at h;have j:=hi.2 e hr;simp only[outS,j]at h;cases h
    .rw[qE]at h;rw[h];exact F
   .cases h
theorem entD_small{s:Str}{a:Nat}{q:Xq×Xp×Nat}(f:a<=s.length)(j:s.length<=9223372036854775807)(h:gd_ s a=some q):SmN q.1:=by
 have:=s4_ f h;exact⟨this.2.2.1,by omega⟩
theorem tree_both {s:Xx} (M:StOK s) (sc:Str):∃T E rd,cw_ (Xm.mk s []) sc=some (T,E,rd)/\gJ_ s sc=some (T,E)/\T.Xz.length<=1024 /\
  (E=0->OkT T.Xz T.Xn/\∃next many n r a3,(blk s sc 4).2=0/\headD (blk s sc 4).1=some (next,many,n,r,a3)/\many<=1024/\(bb_ s 1025 n r many).2.2=0/\rd=Xm.mk s ([sc]++(bb_ s 1025 n r many).2.1)/\next=T.Xn/\many=(T.Xz.length:Int)/\a3=(blk s sc 4).1.length/\(bb_ s 1025 n r many).1.Perm T.Xz):=by
 have ZW:=nC_ M sc 4;have m:=ft_ M sc 4 (seen:=[]) (by simp);have ZY:=ol_ M sc (k:=4) (by omega);unfold cw_ gJ_;by_cases O:(blk s sc 4).2=0
 .rw [qV O]at m;obtain⟨v1,d1,v2,d2,x,d3,p1,p2,p3,p4⟩:=P_head ZW;obtain⟨w1,e1,f,e2,n,r,e3,q1,q2,q3,q4⟩:=R_head ZW;have err:∀{X:Option (Xk×Int×Xm)} {Y:Option (Xk×Int)},((d3.Zw||(d3.at_ != ((blk s sc 4).1.length:Int)))||decide (v2<1)||decide (v2>1024))=true->((e3.Zg||(e3.At_ != ((blk s sc 4).1.length:Int)))||decide (f<1)||decide (f>1024))=true ->
    ∃T E rd,(bif((d3.Zw||(d3.at_ != ((blk s sc 4).1.length:Int)))||decide (v2<1)||decide (v2>1024))then some (Xk.mk 0 [],2,Xm.mk s ([]++[sc]))else X)=some (T,E,rd)/\(bif((e3.Zg||(e3.At_ != ((blk s sc 4).1.length:Int)))||decide (f<1)||decide (f>1024))then some (Xk.mk 0 [],(2:Int))else Y)=some (T,E)/\T.Xz.length<=1024 /\
     (E=0->OkT T.Xz T.Xn/\∃next many n r a3,(blk s sc 4).2=0/\headD (blk s sc 4).1=some (next,many,n,r,a3)/\many<=1024/\(bb_ s 1025 n r many).2.2=0/\rd=Xm.mk s ([sc]++(bb_ s 1025 n r many).2.1)/\next=T.Xn/\many=(T.Xz.length:Int)/\a3=(blk s sc 4).1.length/\(bb_ s 1025 n r many).1.Perm T.Xz):=λha V =>
   ⟨Xk.mk 0 [],2,Xm.mk s ([]++[sc]),af_ ha rfl,af_ V rfl,by simp,λe=>by cases e⟩
  have pre:∀{A:Option (Xk×Int×Xm)} {B:Option (Xk×Int)} {A':Option (Xk×Int×Xm)} {B':Option (Xk×Int)} {P:Xk->Int->Xm->Prop},A=A'->B=B'->(∃T E rd,A'=some (T,E,rd)/\B'=some (T,E)/\P T E rd)->∃T E rd,A=some (T,E,rd)/\B=some (T,E)/\P T E rd:=λha V h=>by rw[ha,V];exact h
  refine pre (aa_ m (ab_ rfl (aa_ p1 (aa_ p2 (aa_ p3 rfl))))) (aa_ ZY (ab_ (by simp[O]) (aa_ q1 (aa_ q2 (aa_ q3 rfl))))) ?_;cases j:headD (blk s sc 4).1 with
  | none =>
   rw[j]at p4 q4;exact j▸err (by simp[p4]) (by simp[q4])
  | some q =>
   obtain⟨next,many,n',r',a3⟩:=q;rw[j]at p4 q4;obtain⟨p5,p6,rfl,rfl,rfl⟩:=p4;obtain⟨q5,q6,rfl,rfl,rfl,rfl⟩:=q4;simp only at *
   by_cases hc:(a3:Int)≠((blk s sc 4).1.length:Int)\/f<1\/f>1024
   .refine pre (af_ ?_ rfl) (af_ ?_ rfl) ⟨Xk.mk 0 [],2,_,rfl,rfl,by simp,λe=>by cases e⟩
    .simp[p5,p6];omega
    .simp[q5,q6];omega
   .refine pre (ab_ ?_ rfl) (ab_ ?_ rfl) ?_
    .simp[p5,p6];omega
    .simp[q5,q6];omega
    .have ZU:SmN n:=by
      unfold headD at j;obtain⟨z1,U,j⟩:=qOb.1 j;obtain⟨z2,y2,j⟩:=qOb.1 j;obtain⟨z3,y3,j⟩:=Option.map_eq_some_iff.1 j;simp only[qF]at j;rw[←j.2.2.1];have F:=l9_ (qq _) U;have b2:=l9_ F.1 y2;exact entD_small b2.1 (by omega) y3
     obtain⟨e,b,rd,k1,Z,k3⟩:=add_P M 1025 BIG (ns:=[]) (seen:=[]++[sc]) (most:=f) (n:=n) (r:=r) (by decide) (by simp;omega) (by omega) (by simp);obtain⟨p,g1,g2,g3⟩:=get_R M 1025 BIG (n:=n) (r:=r) (left:=f) (by decide) (by omega) (by omega);have hz:f-(([]:List Xq).length:Int)=f:=by simp
     rw[hz]at Z k3;by_cases u:(bb_ s 1025 n r f).2.2=0
     .obtain⟨rfl,rfl⟩:=k3 (Z.trans u);have g4:=g3 (g2.trans u);obtain⟨c1,c2,c3⟩:=kS_ M 1025 u;have D:=getN_all M 1025 (r:=r) (left:=f) ZU;simp only[zG]at k1;obtain⟨y,hy⟩:∃y,gI_ (λn:Xq=>n.Id_) (bb_ s 1025 n r f).1=some y:=⟨_,by unfold gI_;rw[qV (by omega)]⟩;obtain⟨z,ZZ,G,ZQ⟩:=rr_ (l:=(bb_ s 1025 n r f).1) (by omega);obtain⟨U,y2⟩:=pp_ hy;have ZP:=U.length_eq;have ZR:=G.length_eq;refine pre (aa_ k1 (ab_ (by rw[Z,u];rfl) (aa_ hy rfl))) (aa_ g1 (ab_ (by rw[g2,u];rfl) (aa_ (by rw[g4];exact ZZ) rfl))) ?_;by_cases ZS:((bb_ s 1025 n r f).1.length:Int)=f
      .obtain⟨F,t1,t2⟩:=ln_ (Xk.mk w1 y) (by show y.length<=1024;omega) (λx hx=>D x (U.subset hx));obtain⟨b2,t3,t4⟩:=oQ_ (Xk.mk w1 z) (by show z.length<=1024;omega) (λx hx=>D x (G.subset hx));have ZX:∀{l:List Xq} {nx:Int},OkT l nx->(l.map (·.Id_)).Nodup:=λh=>by
        rw[List.nodup_iff_pairwise_ne,List.pairwise_map];exact h.srt.imp λh e=>by omega
       have J:(F=true\/b2=true)->y=z:=λh=>by
        refine sorts_agree hy ZZ (by omega) ?_;rcases h with h|h
        .exact(U.map _).nodup_iff.1 (ZX (t2.1 h))
        .exact(G.map _).nodup_iff.1 (ZX (t4.1 h))
       have ZT:F=b2:=by
        cases C:F with
        | true =>
         have:=J (.inl C);subst this;exact(t4.2 (t2.1 C)).symm
        | false =>
         cases ZV:b2 with
         | false=>rfl
         | true =>
          have:=J (.inr ZV);subst this;rw[t2.2 (t4.1 ZV)]at C;cases C
       subst ZT;refine pre (aa_ (a := !F) (ab_ (by simp;omega) (aa_ t1 rfl)) rfl) (aa_ (a := !F) (ab_ (by rw[g4];simp;omega) (aa_ t3 rfl)) rfl) ?_;cases V:F with
       | false=>exact⟨Xk.mk 0 [],2,_,rfl,rfl,by simp,λe=>by cases e⟩
       | true =>
        have:=J (.inl V);subst this;exact⟨Xk.mk w1 y,0,_,rfl,rfl,by show y.length<=1024;omega,λ_=>⟨t2.1 V,w1,f,n,r,a3,O,rfl,by omega,u,rfl,rfl,by show f=(y.length:Int);omega,by omega,U.symm⟩⟩
      .refine pre (aa_ (a:=true) (af_ (by simp;omega) rfl) rfl) (aa_ (a:=true) (af_ (by rw[g4];simp;omega) rfl) rfl) ⟨Xk.mk 0 [],2,_,rfl,rfl,by simp,λe=>by cases e⟩
     .refine pre (aa_ k1 (af_ (by rw[Z];simpa using u) rfl)) (aa_ g1 (af_ (by rw[g2];simpa using u) rfl)) ⟨Xk.mk 0 [],(bb_ s 1025 n r f).2.2,rd,by rw[Z],by rw[g2],by simp,λe=>absurd e u⟩
 .rw[qX O]at m;exact⟨Xk.mk 0 [],(blk s sc 4).2,Xm.mk s [],aa_ m (af_ (by simp[O]) rfl),aa_ ZY (af_ (by simp[O]) rfl),by simp,λe=>absurd e O⟩
structure TreeAt(s:Xx)(sc:Str)(T:Xk)(E:Int):Prop where
 get:cd_ s sc=some (T,E)
 ref:gJ_ s sc=some (T,E)
 len:T.Xz.length<=1024
 ok:E=0->OkT T.Xz T.Xn
theorem tree_at{s:Xx}(h:StOK s)(sc:Str):∃T E,TreeAt s sc T E:=by
 obtain⟨T,E,rd,f,t2,t3,t4⟩:=tree_both h sc;exact⟨T,E,by unfold cd_;exact aa_ f rfl,t2,t3,λe=>(t4 e).1⟩
structure Ok17(s:Xw):Prop where
 sl:s.Xu.length<=64
 files:FileOK s.Xf
 store:StOK s.Yh
 time:∀x∈s.Xu,0<=x.Zk/\x.Zk<=1099511627776
 asc:∀i x y,0<i->s.Xu[i]? = some x->s.Xu[i-1]? = some y->y.Zk<x.Zk
 tree:∀x∈s.Xu,∃T,TreeAt s.Yh x.Yy T 0
theorem ok_modes{T:Xk}(h:OkT T.Xz T.Xn):∀n∈T.Xz,n.Xv<=9223372036854775807/\n.Xh.length<=9223372036854775807:=λn f=>⟨h.hm f,by have:=h.name f;omega⟩
theorem srv_at{s:Xw}(h:Ok17 s)(z:SizeOK s.Xf){k:Int}(k1:1<=k)(kl:k<=(s.Xu.length:Int)+1) :
  ∃F,FileOK F/\SizeOK F/\cH_ s k=some F/\((k=1/\F=s.Xf)\/(k>1/\∃x∈s.Xu,an_ s.Xu (w64 (k-2))=some x/\∃T,cd_ s.Yh x.Yy=some (T,0)/\F=Xj.mk s.Xf.Yz s.Xf.Yx T [])):=by
 have u:=h.sl;by_cases q:k=1
 .subst q;exact⟨s.Xf,h.files,z,rfl,.inl ⟨rfl,rfl⟩⟩
 .obtain⟨i,hi⟩:∃i:Nat,k=(i:Int)+2:=⟨(k-2).toNat,by omega⟩;have f:i<s.Xu.length:=by omega
  have j:an_ s.Xu (w64 (k-2))=some s.Xu[i]:=by
   rw[aq_ ⟨by omega,by omega⟩,show k-2=(i:Int)by omega];exact au_ f
  have m:=qr f;obtain⟨T,p⟩:=h.tree _ m;refine⟨Xj.mk s.Xf.Yz s.Xf.Yx T [],⟨h.files.us,h.files.qs,p.ok rfl,by simp[cP_],λx m=>by cases m⟩,⟨z.ul,z.um,z.us,z.ql,z.qs,p.len,by simp⟩,?_,.inr ⟨by omega,_,m,j,T,p.get,rfl⟩⟩;unfold cH_;exact ab_ (by simpa using q) (aa_ j (aa_ p.ref rfl))
structure Found(s:Xw)(id:Int)(F:Xj)(k:Int):Prop where
 ge:1048576<=id
 kk:IntKind.i64.wrap (id.tdiv 1048576)=k
 k1:1<=k
 kl:k<=(s.Xu.length:Int)+1
 ok:FileOK F
 size:SizeOK F
 find:co_ s id=some (Yl.mk F k (id.tmod 1048576),true)
 ex:cV_ s id=some true
 srv:cH_ s k=some F
 is:isS F (id.tmod 1048576)=true
 snap:k>1->∃x∈s.Xu,an_ s.Xu (w64 (k-2))=some x
def zeroP(t i:Int):Yl:=Yl.mk (Xj.mk [] [] (Xk.mk 0 []) []) t i
theorem look{s:Xw}(h:Ok17 s)(z:SizeOK s.Xf){id:Int}(O:I64 id) :
  ((id=1\/id=2)/\co_ s id=some (zeroP 0 id,true)/\cV_ s id=some true)\/(¬(id=1\/id=2)/\(∃p,co_ s id=some (p,false))/\cV_ s id=some false)\/∃F k,Found s id F k:=by
 have ZZ:=h.sl;by_cases q:id=1\/id=2
 .refine .inl ⟨q,?_,?_⟩
  .unfold co_;exact af_ (by rcases q with rfl|rfl<;>rfl) rfl
  .unfold cV_;exact af_ (by rcases q with rfl|rfl<;>rfl) rfl
 .have m:((id==1)||(id==2))=false:=by
   simp only[not_or]at q;simp[q.1,q.2]
  have J:w64 ((s.Xu.length:Int)+1)=(s.Xu.length:Int)+1:=aq_ ⟨by omega,by omega⟩;have V:(1048576<=id->1<=IntKind.i64.wrap (id.tdiv 1048576))/\(id<1048576->IntKind.i64.wrap (id.tdiv 1048576)<1):=by
   obtain⟨i1,i2⟩:=O;by_cases h0:0<=id
   .rw[zC h0,dA_ ⟨by omega,by omega⟩];omega
   .obtain⟨u,rfl⟩:∃u:Nat,id = -(u:Int):=⟨(-id).toNat,by omega⟩;rw[Int.neg_tdiv,zC (by omega),dA_ ⟨by omega,by omega⟩];omega
  by_cases C:id<1048576\/IntKind.i64.wrap (id.tdiv 1048576)>(s.Xu.length:Int)+1
  .refine .inr (.inl ⟨q,⟨zeroP 0 0,?_⟩,?_⟩)
   .unfold co_;refine ab_ m (af_ ?_ rfl);rw[J];simpa using C
   .unfold cV_;refine ab_ m (af_ ?_ rfl);rw[J];simp only[qP,qDe];rcases C with C|C
    .exact .inl (.inr (V.2 C))
    .exact .inr C
  .have G:1048576<=id:=by omega
   have k1:=V.1 G;have kl:IntKind.i64.wrap (id.tdiv 1048576)<=(s.Xu.length:Int)+1:=by omega
   have U:∀{F:Xj},SizeOK F->cH_ s (IntKind.i64.wrap (id.tdiv 1048576))=some F->cV_ s id=some (isS F (id.tmod 1048576)):=λzF hF=>by
    unfold cV_;refine ab_ m (ab_ ?_ (aa_ hF (aa_ (aO_ _ _ (nl2 zF)) rfl)));rw[J];simp only[qh,qDf];omega
   generalize D:IntKind.i64.wrap (id.tdiv 1048576)=k at *
   obtain⟨F,f1,f2,Z,Y⟩:=srv_at h z k1 kl;have j:=U f2 Z;have f:co_ s id=some (Yl.mk F k (id.tmod 1048576),isS F (id.tmod 1048576)):=by
    unfold co_;rw[D,J];refine ab_ m (ab_ (by simpa using C) ?_);rcases Y with⟨rfl,rfl⟩|⟨q1,x,_,M,T,q3,rfl⟩
    .exact aa_ (ab_ rfl rfl) (aa_ (dw_ _ _ (nl2 z)) rfl)
    .exact aa_ (af_ (by simpa using q1) (aa_ M (aa_ q3 (ab_ rfl rfl)))) (aa_ (dw_ _ _ (nl2 f2)) rfl)
   cases y:isS F (id.tmod 1048576)with
   | false =>
    rw[y]at f j;exact .inr (.inl ⟨q,⟨_,f⟩,j⟩)
   | true =>
    rw[y]at f j;refine .inr (.inr ⟨F,k,G,D,k1,kl,f1,f2,f,j,Z,y,λZY => ?_⟩);rcases Y with⟨rfl,_⟩|⟨_,x,hx,M,_⟩
    .omega
    .exact⟨x,hx,M⟩
theorem svalid_eq{s:Xw}(h:Ok17 s)(z:SizeOK s.Xf)(user:Str)(f:user.length<=9223372036854775807):id_ s user=some (vU user):=by
 unfold id_;refine aa_ (walk_eq h.files z user 0 [] f) (qH some ?_);have m:isS s.Xf 0=false:=by
  cases hi:isS s.Xf 0 with
  | false=>rfl
  | true =>
   obtain⟨j,p⟩:=aH_ hi;have:=h.files.tr.ge j;omega
 unfold walkS dirC;rw[m];cases vU user<;>rfl
def dirF(F:Xj)(m:Int):Bool:=al_ (ak_ F m).Xv 31
theorem has17(x:Int)(f:x<=9223372036854775807):ec_ x 2147483648=some (al_ x 31):=pU_ x 31 (by omega) f
theorem Found.dir{s:Xw}{id:Int}{F:Xj}{k:Int}(f:Found s id F k):dR_ (Yl.mk F k (id.tmod 1048576))=some (dirF F (id.tmod 1048576))/\em_ s id=some (dirF F (id.tmod 1048576)):=by
 have hm:=cj_ f.ok (id.tmod 1048576);constructor
 .unfold dR_;have k1:=f.k1;refine ab_ (by simp;omega) (aa_ (dw_ _ _ (nl2 f.size)) (qH some ?_));exact eY_ (gF_ (f.ok.tr.flds _ (aH_ f.is).1)).1
 .unfold em_;have ge:=f.ge;refine ab_ (by simp;omega) ?_;rw[f.kk];exact aa_ f.srv (aa_ (aO_ _ _ (nl2 f.size)) (aa_ (has17 _ hm) rfl))
theorem zero_dir{s:Xw}{id:Int}(h:id=1\/id=2):dR_ (zeroP 0 id)=some true/\em_ s id=some true:=by
 rcases h with rfl|rfl<;>exact⟨rfl,rfl⟩
theorem sB_{l:List Xq}{next:Int}(h:OkT l next)(f:Nat){id:Int}:∀{ks:List Int} {a b:Str×Xx},(∀k∈ks,k∈aQ_ l id)->StOK a.2->aW_ (fPN l (bi_ l f)) a ks = .inl b->StOK b.2/\StLe a.2 b.2
 | [],a,b,_,m,hr=>by
  simp only[aW_,Sum.inl.injEq]at hr;subst hr;exact⟨m,StLe.refl _⟩
 | k::ks,a,b,q,m,hr=>by
  obtain⟨c,x,_,_,_,j,_⟩:=ey_ h (q k qD);obtain⟨F,D,_⟩:=fe_ h f (s:=a.2) x m;simp only[aW_]at hr;unfold fPN at hr;rw[j]at hr;simp only at hr;by_cases u:(bi_ l f a.2 c).2.2=0
  .rw[qV u]at hr;obtain⟨C,y⟩:=sB_ h f (ks:=ks) (λk p=>q k (qC _ p)) (by exact F) hr;exact⟨C,D.trans y⟩
  .rw[qX u]at hr;cases hr
theorem fPN_err{l:List Xq}{f:Nat}:∀{ks:List Int} {a:Str×Xx} {e:Int},aW_ (fPN l (bi_ l f)) a ks = .inr e->e≠0
 | [],a,e,h=>by cases h
 | k::ks,a,e,h=>by
  simp only[aW_]at h;unfold fPN at h;by_cases j:(bi_ l f a.2 (ai_ l k).1).2.2=0
  .rw[qV j]at h;exact fPN_err (ks:=ks) h
  .rw[qX j]at h;simp only[Sum.inr.injEq]at h;rw[←h];exact j
theorem win_on{s p q:Str}{a w:Nat}(h:s.drop a=p++q)(f:p.length=w):win s a w=p/\s.drop (a+w)=q/\s.length-a=w+q.length:=by
 subst f;refine⟨?_,?_,?_⟩
 .unfold win;rw[h,List.take_left'];rfl
 .rw[←jV,h,List.drop_left'];rfl
 .have:=qH List.length h;rw[qS,qLa]at this;exact this
theorem mc_{s q:Str}{a w:Nat}{n:Int}(h:s.drop a=leB n w++q)(y:0<=n)(x:n<=9223372036854775807)(f:n.toNat<2^(8*w)):nD s w a=some (n,a+w)/\s.drop (a+w)=q:=by
 obtain⟨u,p,C⟩:=win_on h (aM_ _ _);obtain⟨m,rfl⟩:∃m:Nat,n=(m:Int):=⟨n.toNat,by omega⟩;rw[qTn]at f;have j:=leV_leL w m f;refine⟨?_,p⟩;unfold nD;rw[u,j,qX (by omega)]
theorem tD_on{s q t:Str}{a:Nat}(h:s.drop a=b1_ t++q)(u:t.length<=64):tD s a=some (t,a+(2+t.length))/\s.drop (a+(2+t.length))=q:=by
 unfold b1_ at h;rw[qT]at h;obtain⟨p,m,j⟩:=win_on h (aM_ _ _);have f:=leV_leL 2 t.length (by omega);obtain⟨f1,f2,x⟩:=win_on m rfl;rw[qLa]at j;refine⟨?_,by rw[←zP];exact f2⟩;unfold tD takeT;rw[p,f,qX (by omega),qX (by omega),f1,zP]
theorem sD_on{s q t:Str}{a:Nat}(h:s.drop a=t++q)(f:t.length=32):sD s a=some (t,a+32)/\s.drop (a+32)=q:=by
 obtain⟨m,j,p⟩:=win_on h f;refine⟨?_,j⟩;unfold sD;rw[m,qX (by omega)]
structure EntF(n:Xq)(r:Xp):Prop where (ok:EntOK n r) (at_:n.Yj<=1099511627776) (mt_:n.Xl<=1099511627776)
theorem entD_on{s q:Str}{a:Nat}{n:Xq}{r:Xp}(m:EntF n r)(j:s.drop a=ee_ n r++q):gd_ s a=some (bare n,r,a+(ee_ n r).length)/\s.drop (a+(ee_ n r).length)=q:=by
 have h:=m.ok;have O:(ee_ n r).length=4+4+4+4+8+8+(2+n.Xh.length)+(2+n.Yg.length)+(2+n.Yq.length)+(2+n.Ym.length)+4+1+32:=by
  simp only[ee_,qLa,aM_,b2_,h.score]
 rw[O];unfold ee_ at j;simp only[qT]at j;have ZW:=h.id;have ZX:=h.par;have ZY:=h.vers;have ZZ:=h.mode;have J:=h.len;have G:=h.lev;have Z:=h.atime;have Y:=h.mtime;have V:=m.at_;have U:=m.mt_;obtain⟨d1,g1⟩:=mc_ j (by omega) (by omega) (by omega);obtain⟨d2,g2⟩:=mc_ g1 (by omega) (by omega) (by omega);obtain⟨d3,g3⟩:=mc_ g2 (by omega) (by omega) (by omega);obtain⟨d4,g4⟩:=mc_ g3 (by omega) (by omega) (by omega);obtain⟨d5,g5⟩:=mc_ g4 (by omega) (by omega) (by omega);obtain⟨d6,g6⟩:=mc_ g5 (by omega) (by omega) (by omega);obtain⟨d7,g7⟩:=tD_on g6 h.name;obtain⟨d8,g8⟩:=tD_on g7 h.uid;obtain⟨d9,g9⟩:=tD_on g8 h.gid
 obtain⟨F,x⟩:=tD_on g9 h.muid;obtain⟨D,u⟩:=mc_ x (by omega) (by omega) (by omega);obtain⟨C,p⟩:=mc_ u (by omega) (by omega) (by omega);obtain⟨y,f⟩:=sD_on p h.score;have M:a+4+4+4+4+8+8+(2+n.Xh.length)+(2+n.Yg.length)+(2+n.Yq.length)+(2+n.Ym.length)+4+1+32=a+(4+4+4+4+8+8+(2+n.Xh.length)+(2+n.Yg.length)+(2+n.Yq.length)+(2+n.Ym.length)+4+1+32):=by omega
 rw[M]at f;refine⟨?_,f⟩;unfold gd_;simp only[d1,d2,d3,d4,d5,d6,d7,d8,d9,F,D,C,y,qBs,M];rfl
theorem ents_on{s:Str}:∀{es:List (Xq×Xp)} {f a:Nat},(∀q∈es,EntF q.1 q.2/\bare q.1=q.1)->s.drop a=(es.map λq=>ee_ q.1 q.2).flatten->s.length-a<f->fw_ s f a=some es
 | [],f,a,_,h,x=>by
  obtain⟨f,rfl⟩:∃g,f=g+1:=⟨f-1,by omega⟩;have:=qH List.length h;rw[qS]at this;unfold fw_;rw[qX];simp at this;omega
 | q::es,f,a,m,h,x=>by
  obtain⟨f,rfl⟩:∃g,f=g+1:=⟨f-1,by omega⟩;obtain⟨p,y⟩:=m q qD;rw[zB,qv]at h;obtain⟨D,C⟩:=entD_on p h;have F:=(fH_ p.ok).2;have:=qH List.length h;rw[qS,qLa]at this;have u:=ents_on (es:=es) (f:=f) (λq j=>m q (qC _ j)) C (by omega);unfold fw_;rw[qV (by omega),D];simp only[qBs];rw[u,y];rfl
theorem kids_on{s:Str}{es:List (Xq×Xp)}{id:Int}(h:∀q∈es,EntF q.1 q.2/\bare q.1=q.1/\q.1.Xy=id)(j:s=(es.map λq=>ee_ q.1 q.2).flatten):fy_ s id (s.length+1) 0=some es:=by
 unfold fy_;rw[ents_on (λq f=>⟨(h q f).1,(h q f).2.1⟩) (by rw[zm];exact j) (by omega)];have:(es.all λq=>q.1.Xy==id)=true:=qf.2 λq f=>by
  rw[(h q f).2.2];exact jX _
 simp only[qBs,this,jB]
theorem finP_back{s u:Xx}{k:Int}{d:Str}(p:1<=k/\k<=4)(m:StOK s)(q:d.length<=1048576)(j:(da_ s k d).2.2=0)(h:StLe (da_ s k d).1 u):(az_ u k (da_ s k d).2.1).1=d/\(az_ u k (da_ s k d).2.1).2.2=0:=by
 unfold da_ at j h ⊢;by_cases f:(gc_ s k d).err=0
 .rw[qV f]at h ⊢;have x:=put_sto p m q f;obtain⟨y,_⟩:=upF_ok 3 p m (ps:=pieces d);exact fileR_sto q (sto_score y x) (x.le h)
 .rw[qX f]at j;exact absurd j f
def db_(l:List Xq):Nat->Xq->List Xq | 0,_=>[]|f+1,n=>if al_ n.Xv 31 then n::(aQ_ l n.Id_).flatMap (λk=>db_ l f (ai_ l k).1)else[n]
theorem sub_head{l:List Xq}{f:Nat}(n:Xq)(h:0<f):n∈db_ l f n:=by
 obtain⟨f,rfl⟩:∃g,f=g+1:=⟨f-1,by omega⟩;unfold db_;split
 .exact qD
 .exact qD
theorem ir_{l:List Xq}{next:Int}(h:OkT l next):∀(f:Nat) {n x:Xq},n∈l->x∈db_ l f n->x∈l/\n.Id_<=x.Id_
 | 0,n,x,_,j=>by cases j
 | f+1,n,x,p,j=>by
  unfold db_ at j;split at j
  .rcases qW.1 j with rfl|j
   .exact⟨p,Int.le_refl _⟩
   .obtain⟨k,s,j⟩:=jS.1 j;obtain⟨c,u,e,_,_,m,q⟩:=ey_ h s;rw[m]at j;obtain⟨y,C⟩:=ir_ h f u j;exact⟨y,by omega⟩
  .rw[qE]at j;rw[j];exact⟨p,Int.le_refl _⟩
theorem mem_child{l:List Xq}{c:Xq}{id:Int}(h:c∈l)(f:c.Xy=id)(j:c.Id_≠1):c.Id_∈aQ_ l id:=by
 unfold aQ_;refine zQ.2 ⟨c,zS.2 ⟨h,?_⟩,rfl⟩;simp[f,j]
theorem vN_{l:List Xq}{next:Int}(h:OkT l next):∀(f:Nat) {n p c:Xq},(next-n.Id_).toNat<f->n∈l->p∈db_ l f n->al_ p.Xv 31=true->c∈l->c.Id_≠1->c.Xy=p.Id_->p.Id_<c.Id_->c∈db_ l f n
 | 0,n,p,c,J,_,_,_,_,_,_,_=>by omega
 | f+1,n,p,c,J,M,j,C,x,G,u,y=>by
  unfold db_ at j ⊢;by_cases s:al_ n.Xv 31=true
  .rw[qV s]at j ⊢;refine qC _ (jS.2 ?_);rcases qW.1 j with rfl|j
   .refine⟨c.Id_,mem_child x u G,?_⟩;rw[cc_ h.srt x];have:=h.nxt c x;exact sub_head c (by omega)
   .obtain⟨k,F,j⟩:=jS.1 j;refine⟨k,F,?_⟩;obtain⟨m,hm,e,_,_,q,D⟩:=ey_ h F;rw[q]at j ⊢;have:=h.nxt m hm;exact vN_ h f (n:=m) (by omega) hm j C x G u y
  .rw[qX s]at j;rw[qE]at j;rw[j]at C;exact absurd C s
theorem sub_all{l:List Xq}{next:Int}(h:OkT l next){f:Nat}(D:(next-(b9_ l).Id_).toNat<f):∀(m:Nat) {x:Xq},x.Id_.toNat<=m->x∈l->x∈db_ l f (b9_ l)
 | 0,x,hm,j=>by
  have:=h.ge j;omega
 | m+1,x,hm,j=>by
  obtain⟨y,F,_⟩:=nD_ h;have G:=h.ge j;by_cases u:x.Id_=1
  .have:x=b9_ l:=kI_ h.srt j y (by rw[u,F]);rw[this];exact sub_head _ (by omega)
  .obtain⟨p,C,e,s,J⟩:=h.par x j u;have q:=sub_all h D m (x:=p) (by have:=h.ge C;omega) C;exact vN_ h f D y q J j u e.symm s
theorem s6_{l:List Xq}{next:Int}(h:OkT l next):∀(f:Nat) {n x:Xq},n∈l->x∈db_ l f n->x=n\/(x.Id_≠1/\∃p∈db_ l f n,p.Id_=x.Xy)
 | 0,n,x,_,j=>by cases j
 | f+1,n,x,M,j=>by
  unfold db_ at j ⊢;by_cases y:al_ n.Xv 31=true
  .rw[qV y]at j ⊢;rcases qW.1 j with rfl|j
   .exact .inl rfl
   .obtain⟨k,u,j⟩:=jS.1 j;obtain⟨c,F,e,q,s,m,D⟩:=ey_ h u;rw[m]at j;refine .inr ?_;rcases s6_ h f F j with rfl|⟨G,p,C,J⟩
    .exact⟨s,n,qD,q.symm⟩
    .exact⟨G,p,qC _ (jS.2 ⟨k,u,by rw[m];exact C⟩),J⟩
  .rw[qX y]at j;rw[qE]at j;exact .inl j
theorem sub_apart{l:List Xq}{next:Int}(h:OkT l next)(f:Nat){D C:Xq}(y:D∈l)(G:C∈l)(Z:D.Xy=C.Xy)(M:D.Xy<D.Id_)(J:C.Xy<C.Id_)(F:D≠C):∀(m:Nat) {x:Xq},x.Id_.toNat<=m->x∈db_ l f D->x∈db_ l f C->False
 | 0,x,hm,j,s=>by
  have:=h.ge (ir_ h f y j).1;omega
 | m+1,x,hm,j,s=>by
  rcases s6_ h f y j with rfl|⟨g1,U,u,e1⟩
  .rcases s6_ h f G s with rfl|⟨g2,O,q,Y⟩
   .exact F rfl
   .have:=(ir_ h f G q).2;omega
  .rcases s6_ h f G s with rfl|⟨g2,O,q,Y⟩
   .have:=(ir_ h f y u).2;omega
   .obtain⟨V,_⟩:=ir_ h f y u;obtain⟨i2,_⟩:=ir_ h f G q;have e:U=O:=kI_ h.srt V i2 (by rw[e1,Y]);subst e;obtain⟨p,_,e3,ZZ,_⟩:=h.par x (ir_ h f y j).1 g1;have:=h.ge V;exact sub_apart h f y G Z M J F m (x:=U) (by omega) u q
theorem child_nodup{l:List Xq}{next:Int}(h:OkT l next)(id:Int):(aQ_ l id).Nodup:=by
 unfold aQ_;rw[List.nodup_iff_pairwise_ne,List.pairwise_map];exact(h.srt.filter _).imp λf e=>by omega
theorem vO_{l:List Xq}{next:Int}(h:OkT l next){f:Nat}(IH:∀n∈l,(db_ l f n).Nodup){id:Int}:∀{ks:List Int},(∀k∈ks,k∈aQ_ l id)->ks.Nodup->(ks.flatMap λk=>db_ l f (ai_ l k).1).Nodup
 | [],_,_=>List.nodup_nil
 | k::ks,x,V=>by
  obtain⟨c,M,e,y,Z,m,Y⟩:=ey_ h (x k qD);obtain⟨F,O⟩:=jb.1 V;rw[List.flatMap_cons,m];refine List.nodup_append.2 ⟨IH c M,vO_ h IH (λk u=>x k (qC _ u)) O,λa ha b s D => ?_⟩;subst D;obtain⟨U,p,s⟩:=jS.1 s;obtain⟨c2,C,e2,q,J,j,G⟩:=ey_ h (x U (qC _ p));rw[j]at s;refine sub_apart h f M C (by rw[y,q]) (by omega) (by omega) (λee => ?_) _ (qA _) ha s;rw[←e,ee,e2]at F;exact F p
theorem sub_nodup{l:List Xq}{next:Int}(h:OkT l next):∀(f:Nat),∀n∈l,(db_ l f n).Nodup
 | 0,n,_=>List.nodup_nil
 | f+1,n,y=>by
  unfold db_;split
  .refine jb.2 ⟨λhm => ?_,vO_ h (sub_nodup h f) (λk m=>m) (child_nodup h _)⟩;obtain⟨k,m,p⟩:=jS.1 hm;obtain⟨c,x,e,s,u,j,q⟩:=ey_ h m;rw[j]at p;have:=(ir_ h f x p).2;omega
  .exact jb.2 ⟨by simp,List.nodup_nil⟩
theorem srt_nodup{l:List Xq}(h:l.Pairwise λa b=>a.Id_<b.Id_):l.Nodup:=by
 rw[List.nodup_iff_pairwise_ne];exact h.imp λf e=>by rw[e]at f;omega
theorem sub_perm{l:List Xq}{next:Int}(h:OkT l next){f:Nat}(p:(next-(b9_ l).Id_).toNat<f):(db_ l f (b9_ l)).Perm l:=by
 obtain⟨m,_⟩:=nD_ h;exact(List.perm_ext_iff_of_nodup (sub_nodup h f _ m) (srt_nodup h.srt)).2 λx=>⟨λj=>(ir_ h f m j).1,λj=>sub_all h p _ (qA _) j⟩
theorem OkT.entF{l:List Xq}{next:Int}(h:OkT l next){n:Xq}(f:n∈l){r:Xp}(hr:RootF r):EntF (bare n) r:=by
 obtain⟨_,_,m,j,_⟩:=gF_ (h.flds n f);exact⟨(h.ent f hr).bare,m.2,j.2⟩
theorem bare_eq{n:Xq}(h:n.Xd=[]):bare n=n:=by
 cases n
 simp only at h;rw[h];rfl
def BackOK(l:List Xq)(f:Nat):Prop:=∀(s u:Xx) (n:Xq) (g:Nat) (left:Int),n∈l->StOK s->(bi_ l f s n).2.2=0->StLe (bi_ l f s n).1 u->((db_ l f n).length:Int)<=left->left.toNat<g->∃seen,bb_ u g (bare n) (bi_ l f s n).2.1 left=(db_ l f n,seen,0)
theorem kids_back{l:List Xq}{next:Int}(h:OkT l next){f:Nat}(IH:BackOK l f){id:Int}{u:Xx}:∀{ks:List Int} {a b:Str×Xx},(∀k∈ks,k∈aQ_ l id)->StOK a.2->aW_ (fPN l (bi_ l f)) a ks = .inl b->StLe b.2 u ->
  ∃es:List (Xq×Xp),b.1=a.1++(es.map λq=>ee_ q.1 q.2).flatten/\(∀q∈es,EntF q.1 q.2/\bare q.1=q.1/\q.1.Xy=id) /\
   ∀(g:Nat) (left:Int) (acc:List Xq×List Str),(acc.1.length:Int)+((ks.flatMap λk=>db_ l f (ai_ l k).1).length:Int)<=left->(left-(acc.1.length:Int)).toNat<g->∃seen,aW_ (fG (bb_ u g) left) acc es = .inl (acc.1++ks.flatMap (λk=>db_ l f (ai_ l k).1),seen)
 | [],a,b,_,C,hr,y=>by
  simp only[aW_,Sum.inl.injEq]at hr;subst hr;exact⟨[],by simp,λq m=>(by cases m),λg left acc _ _=>⟨acc.2,by simp[aW_]⟩⟩
 | k::ks,a,b,M,C,hr,y=>by
  obtain⟨c,G,e,F,Y,j,U⟩:=ey_ h (M k qD);obtain⟨O,b2,b3⟩:=fe_ h f (s:=a.2) G C;have p:∀k∈ks,k∈aQ_ l id:=λk D=>M k (qC _ D)
  simp only[aW_]at hr;unfold fPN at hr;rw[j]at hr;simp only at hr;by_cases x:(bi_ l f a.2 c).2.2=0
  .rw[qV x]at hr;obtain⟨_,c2⟩:=sB_ h f p (by exact O) hr;obtain⟨es,e1,e2,e3⟩:=kids_back h IH p (by exact O) hr y;refine⟨(bare c,(bi_ l f a.2 c).2.1)::es,?_,λq m => ?_,λg left acc J V => ?_⟩
   .rw[e1];simp only[zB,qv,sw_,qT]
   .rcases qW.1 m with rfl|m
    .exact⟨h.entF G (b3 x),rfl,F⟩
    .exact e2 q m
   .rw[List.flatMap_cons,j,qLa]at J
    dsimp only at J
    obtain⟨seen1,g1⟩:=IH a.2 u c g (left-(acc.1.length:Int)) G C x (StLe.trans c2 y) (by omega) V;obtain⟨seen2,Z⟩:=e3 g left (acc.1++db_ l f c,acc.2++seen1) (by simp only[qLa];omega) (by simp only[qLa];omega);refine⟨seen2,?_⟩;simp only[aW_];unfold fG;simp only[g1,jB];refine Z.trans ?_;rw[List.flatMap_cons,j,qT]
  .rw[qX x]at hr;cases hr
theorem back_succ{l:List Xq}{next:Int}(h:OkT l next){f:Nat}(IH:BackOK l f):BackOK l (f+1):=by
 intro s u n g left hn M m F D hg;obtain⟨g,rfl⟩:∃g',g=g'+1:=⟨g-1,by omega⟩;obtain⟨o1,_,_,_,_,_,_,o8,o9⟩:=gF_ (h.flds n hn);have p:=eY_ o1;by_cases x:al_ n.Xv 31=true
 .rw [x,qDe]at p;have j:aT_ (bare n)=3:=qV p;have Z:db_ l (f+1) n=n::(aQ_ l n.Id_).flatMap (λk=>db_ l f (ai_ l k).1):=by rw[db_,qV x]
  cases C:aW_ (fPN l (bi_ l f)) ([],s) (aQ_ l n.Id_)with
  | inr e =>
   have J:bi_ l (f+1) s n=(s,e6_,e):=by rw[bi_,qV x,C];rfl
   rw[J]at m;exact absurd m (fPN_err C)
  | inl a =>
   have J:bi_ l (f+1) s n=da_ a.2 3 a.1:=by rw[bi_,qV x,C];rfl
   rw[J]at m F ⊢;rw[Z]at D ⊢;obtain⟨m1,m2⟩:=sB_ h f (λk V=>V) (by exact M) C;have O:StLe a.2 (da_ a.2 3 a.1).1:=by
    unfold da_;split
    .exact(upF_ok 3 (by omega) m1).2
    .exact StLe.refl _
   obtain⟨es,e1,e2,e3⟩:=kids_back h IH (λk V=>V) (by exact M) C (O.trans F);rw[zG]at e1;have G:a.1.length<=1048576:=by
    have hr:=fv_ (f:=fPN l (bi_ l f)) (λi a=>StOK a.2/\a.1.length<=333*i) (λe=>e≠0) (xs:=aQ_ l n.Id_) (k:=0) (s0:=([],s)) ⟨M,by simp⟩ λi a id Y ⟨a1,a3⟩=>by
     obtain⟨c,hc,_,_,_,y,_⟩:=ey_ h Y;obtain⟨b1,b2,b3⟩:=fe_ h f (s:=a.2) hc a1;unfold fPN;rw[y];simp only;refine⟨λs' m => ?_,λe m => ?_⟩
     .split at m
      .rename_i h0;obtain rfl:=zU m;have:=(fH_ (h.ent hc (b3 h0))).1;refine⟨b1,?_⟩;simp only[qLa];omega
      .cases m
     .split at m
      .cases m
      .rename_i h0;obtain rfl:=zk m;exact h0
    obtain⟨_,a2⟩:=hr.1 a C;have:=nw_ l n.Id_;have:=h.len;omega
   obtain⟨f1,f2⟩:=finP_back (by omega) m1 G m F;generalize(da_ a.2 3 a.1).2.1=R at *
   have U:fy_ a.1 (bare n).Id_ (a.1.length+1) 0=some es:=kids_on e2 e1;obtain⟨seen,g1⟩:=e3 g left ([n],(az_ u 3 R).2.1) (by simp only[qLc,zn]at D ⊢;omega) (by simp only[qLc,zn]at D ⊢;omega);refine⟨seen,?_⟩;rw[bb_,qX (by simp only[qLc]at D;omega),j,qV f2,qV (by exact p),f1,U];simp only;rw[bare_eq (o9 x),g1];rfl
 .have q:¬n.Xv>=2147483648:=λhm=>x (by rw[←p];exact decide_eq_true hm)
  have j:aT_ (bare n)=1:=qX q;have Z:db_ l (f+1) n=[n]:=by rw[db_,qX x]
  have J:bi_ l (f+1) s n=da_ s 1 n.Xd:=by rw[bi_,qX x]
  rw[J]at m F ⊢;rw[Z]at D ⊢;obtain⟨f1,f2⟩:=finP_back (by omega) M (by omega) m F;generalize(da_ s 1 n.Xd).2.1=R at *
  refine⟨(az_ u 1 R).2.1,?_⟩;rw[bb_,qX (by simp only[jh]at D;omega),j,qV f2,qX (by exact q),f1];rfl
theorem putN_back{l:List Xq}{next:Int}(h:OkT l next):∀f,BackOK l f
 | 0=>λs u n g left _ _ j _ _ _=>by cases j
 | f+1=>back_succ h (putN_back h f)
abbrev InSt(s:Xx)(x:Str):Prop:=∃b,cD_ s x=some b
theorem rdF_seen {s:Xx} (k:Int):∀(l:Nat) {sc:Str} {len a b:Nat},∀x∈(rdF s k l sc len a b).2.1,InSt s x
 | 0,sc,len,a,b,x,h=>by
  unfold rdF at h;split at h
  .rename_i p;split at h
   .rw[qE]at h;rw[h];exact ly_ p
   .rw[qE]at h;rw[h];exact ly_ p
  .cases h
 | l + 1,sc,len,a,b,x,h=>by
  rw[rdF]at h;split at h
  .rename_i p;split at h
   .have hr:=lx_ (f:=fRd (rdF s k l) (blk s sc 2).1 (ag_ l) len a b) (λ_ acc=>∀y∈acc.2,InSt s y) (λr=>∀y∈r.2.1,InSt s y) (n:=(len+ag_ l-1)/ag_ l) (s0:=([],[sc])) (λy j=>by rw[qE]at j;rw[j];exact ly_ p) λi acc hi u=>by
     have C:=rdF_seen (s:=s) k l (sc:=((blk s sc 2).1.drop (32*i)).take 32) (len:=ay_ (ag_ l) len i) (a:=min (a-i*ag_ l) (ay_ (ag_ l) len i)) (b:=min (b-i*ag_ l) (ay_ (ag_ l) len i));unfold fRd;refine⟨λs' m => ?_,λe m => ?_⟩
     .split at m
      .obtain rfl:=zU m;exact u
      .simp only at m;split at m
       .obtain rfl:=zU m;intro y j;rcases qY.1 j with j|j
        .exact u y j
        .exact C y j
       .cases m
     .split at m
      .cases m
      .simp only at m;split at m
       .cases m
       .obtain rfl:=zk m;intro y j;rcases qY.1 j with j|j
        .exact u y j
        .exact C y j
    cases q:aW_ (fRd (rdF s k l) (blk s sc 2).1 (ag_ l) len a b) ([],[sc]) (List.range ((len+ag_ l-1)/ag_ l))with
    | inl acc =>
     rw[q]at h;exact hr.1 acc q x h
    | inr r =>
     rw[q]at h;exact hr.2 r q x h
   .rw[qE]at h;rw[h];exact ly_ p
  .cases h
theorem fileR_seen{s:Xx}(k:Int)(r:Xp):∀x∈(az_ s k r).2.1,InSt s x:=by
 intro x f;unfold az_ at f;split at f
 .exact rdF_seen k _ x f
 .cases f
theorem getN_seen {s:Xx}:∀(f:Nat) {n:Xq} {r:Xp} {left:Int},∀x∈(bb_ s f n r left).2.1,InSt s x
 | 0,n,r,left,x,h=>by cases h
 | f + 1,n,r,left,x,h=>by
  have u:=fileR_seen (s:=s) (aT_ n) r;rw[bb_]at h;split at h
  .cases h
  .split at h
   .split at h
    .split at h
     .exact u x h
     .rename_i l _;have hr:=fv_ (f:=fG (bb_ s f) left) (λ_ acc=>∀y∈acc.2,InSt s y) (λr=>∀y∈r.2.1,InSt s y) (xs:=l) (k:=0) (s0:=([n],(az_ s (aT_ n) r).2.1)) u λi acc q _ D=>by
       have C:=getN_seen (s:=s) f (n:=q.1) (r:=q.2) (left:=left-(acc.1.length:Int));unfold fG;refine⟨λs' m => ?_,λe m => ?_⟩
       .split at m
        .obtain rfl:=zU m;intro y j;rcases qY.1 j with j|j
         .exact D y j
         .exact C y j
        .cases m
       .split at m
        .cases m
        .obtain rfl:=zk m;intro y j;rcases qY.1 j with j|j
         .exact D y j
         .exact C y j
      cases p:aW_ (fG (bb_ s f) left) ([n],(az_ s (aT_ n) r).2.1) l with
      | inl acc =>
       rw[p]at h;exact hr.1 acc p x h
      | inr e =>
       rw[p]at h;exact hr.2 e p x h
    .exact u x h
   .exact u x h
theorem headD_on{t:Xk}{n:Xq}{r:Xp}(h:EntF n r)(m:0<=t.Xn/\t.Xn<=1048576)(y:t.Xz.length<=1024):headD (d7_ t n r)=some (t.Xn,(t.Xz.length:Int),bare n,r,(d7_ t n r).length):=by
 have j:(d7_ t n r).drop 0=leB t.Xn 4++(leB (t.Xz.length:Int) 4++(ee_ n r++[])):=by
  rw[zm];unfold d7_;simp only[qT,zj]
 obtain⟨x,q⟩:=mc_ j m.1 (by omega) (by omega);obtain⟨u,p⟩:=mc_ q (by omega) (by omega) (by omega);obtain⟨s,_⟩:=entD_on h p;have f:(d7_ t n r).length=0+4+4+(ee_ n r).length:=by
  simp only[d7_,qLa,aM_]
 unfold headD;simp only[x,u,s,qBs,qM];rw[f]
theorem tree_back{u:Xx}(C:StOK u){sc d:Str}{next:Int}{n:Xq}{r:Xp}{l ns:List Xq}{seen:List Str}(F:blk u sc 4=(d,0))(U:headD d=some (next,(l.length:Int),n,r,d.length))(hg:bb_ u 1025 n r (l.length:Int)=(ns,seen,0))(m:ns.Perm l)(h:OkT l next) :
  cw_ (Xm.mk u []) sc=some (Xk.mk next l,0,Xm.mk u ([sc]++seen)):=by
 have j:=nC_ C sc 4;have f:=ft_ C sc 4 (seen:=[]) (by simp);rw[F]at j f;rw[qV rfl]at f;obtain⟨v1,d1,v2,d2,x,d3,p1,p2,p3,G⟩:=P_head j;rw[U]at G;obtain⟨p5,p6,rfl,rfl,rfl⟩:=G;have hl:=h.len;have ZY:1<=l.length:=by
  obtain⟨_,_,rfl,_⟩:=h.root;simp
 obtain⟨e,b,rd,k1,q,J⟩:=add_P C 1025 BIG (ns:=[]) (seen:=[]++[sc]) (most:=(l.length:Int)) (n:=n) (r:=r) (by decide) (by simp;omega) (by omega) (by simp);have hz:(l.length:Int)-(([]:List Xq).length:Int)=(l.length:Int):=by simp
 rw[hz,hg]at q J;obtain⟨rfl,rfl⟩:=J q;have ZZ:=m.length_eq;simp only[zG]at k1;obtain⟨y,M⟩:∃y,gI_ (λn:Xq=>n.Id_) ns=some y:=⟨_,by unfold gI_;rw[qV (by omega)]⟩;obtain⟨p,Z⟩:=pp_ M;have s:y=l:=by
  refine lv_ (p.trans m) Z (h.srt.imp λU => ?_) λa ha b F Y V => ?_
  .unfold leK;simp only[qDe];omega
  .unfold leK at Y V;simp only[qDe]at Y V;exact kI_ h.srt ((p.trans m).subset ha) ((p.trans m).subset F) (by omega)
 subst s;obtain⟨b1,t1,t2⟩:=ln_ (Xk.mk v1 y) (by show y.length<=1024;omega) (λx O=>⟨h.hm O,by have:=h.name O;omega⟩);have D:=t2.2 h;subst D;unfold cw_;refine aa_ f (ab_ rfl (aa_ p1 (aa_ p2 (aa_ p3 (ab_ ?_ (aa_ k1 (ab_ (by rw[q];rfl) (aa_ M (aa_ (a:=false) (ab_ ?_ (aa_ t1 rfl)) rfl)))))))))
 .simp[p5,p6];omega
 .simp
@[irreducible] def subT (l:List Xq):List Xq:=db_ l BIG (b9_ l)
theorem subT_eq(l:List Xq):db_ l BIG (b9_ l)=subT l:=by unfold subT;rfl
theorem restored{s u:Xx}{a:Xk}(O:StOK s)(M:StOK u)(h:OkT a.Xz a.Xn)(q:(dH_ s a).2.2=0)(j:StLe (dH_ s a).1 u) :
  ∃seen,cw_ (Xm.mk u []) (dH_ s a).2.1=some (a,0,Xm.mk u ([(dH_ s a).2.1]++seen))/\seen.length<=1057*1024/\∀x∈[(dH_ s a).2.1]++seen,InSt u x:=by
 obtain⟨y,r2,_⟩:=nD_ h;obtain⟨b1,b2,Z⟩:=fe_ h BIG (s:=s) y O;have m:=putN_back h BIG s u (b9_ a.Xz) 1025 (a.Xz.length:Int) y O;have f:=sub_perm h (ug_ h y);have hl:=h.len;have p:=h.nxt _ y;have ZZ:=h.nx2;rw[p4_]at b1 b2 Z;rw[p4_,subT_eq]at m;rw[subT_eq]at f;have ZY:=f.length_eq;unfold dH_ at q j ⊢;by_cases F:(putT a.Xz s).2.2=0
 .rw[qV F]at q j ⊢;generalize putT a.Xz s=R at *
  have C:=h.entF y (Z F);have hd:d7_ a (bare (b9_ a.Xz)) R.2.1=d7_ a (b9_ a.Xz) R.2.1:=rfl;generalize ZX:d7_ a (b9_ a.Xz) R.2.1=d at *
  by_cases J:(aJ_ R.1 4 d).2.2=0
  .rw[qV J]at q j ⊢;obtain⟨c1,c2,c3⟩:=nB_ (s:=R.1) (k:=4) (d:=d) b1 (by omega);obtain⟨Y,c5,c6⟩:=c3 J;have V:=j.find c6;obtain⟨seen,G⟩:=m F (c2.trans j) (by omega) (by omega);have hb:=sv_ V;have U:=headD_on (t:=a) C (by omega) hl;rw[hd]at U;have ht:=tree_back M hb U G f h;have D:=kS_ M 1025 (n:=bare (b9_ a.Xz)) (r:=R.2.1) (left:=(a.Xz.length:Int)) (by rw[G]);rw[G]at D
   dsimp only at D
   refine⟨seen,by rw[Y];exact ht,by omega,λx p => ?_⟩;rcases qY.1 p with p|p
   .rw[qE]at p;rw[p,Y];exact⟨_,V⟩
   .have:=getN_seen (s:=u) 1025 (n:=bare (b9_ a.Xz)) (r:=R.2.1) (left:=(a.Xz.length:Int)) x;rw[G]at this;exact this p
  .rw[qX J]at q;exact absurd q J
 .rw[qX F]at q;exact absurd q F
theorem runS_le{α σ ε:Type}{f g:σ->α->σ ⊕ ε}:∀{xs:List α} {s r:σ},(∀a x b,x∈xs->f a x = .inl b->g a x = .inl b)->aW_ f s xs = .inl r->aW_ g s xs = .inl r
 | [],s,r,_,h=>h
 | x::xs,s,r,m,h=>by
  simp only[aW_]at h ⊢;cases j:f s x with
  | inl b =>
   rw[j]at h;rw[m s x b qD j];exact runS_le (λa y c p=>m a y c (qC _ p)) h
  | inr e =>
   rw[j]at h;cases h
theorem rdF_le{s t:Xx}(p:StLe s t)(k:Int):∀(l:Nat) {sc:Str} {len a b:Nat},(rdF s k l sc len a b).2.2=0->rdF t k l sc len a b=rdF s k l sc len a b
 | 0,sc,len,a,b,h=>by
  unfold rdF at h ⊢;by_cases j:(blk s sc k).2=0
  .rw[p.blk j]
  .rw[qX j]at h;exact absurd h j
 | l + 1,sc,len,a,b,h=>by
  rw[rdF]at h;rw[rdF,rdF];by_cases j:(blk s sc 2).2=0
  .rw [p.blk j];rw[qV j]at h;rw[qV j];split
   .rename_i G;rw[qV G]at h;have C:=lx_ (f:=fRd (rdF s k l) (blk s sc 2).1 (ag_ l) len a b) (λ_ _=>True) (λr=>r.2.2≠0) (n:=(len+ag_ l-1)/ag_ l) (s0:=([],[sc])) trivial λi acc hi _=>⟨λ_ _=>trivial,λe u=>by
     unfold fRd at u;split at u
     .cases u
     .simp only at u;split at u
      .cases u
      .rename_i y;obtain rfl:=zk u;exact y⟩
    cases hr:aW_ (fRd (rdF s k l) (blk s sc 2).1 (ag_ l) len a b) ([],[sc]) (List.range ((len+ag_ l-1)/ag_ l))with
    | inl acc =>
     rw[runS_le (g:=fRd (rdF t k l) (blk s sc 2).1 (ag_ l) len a b) (λq x c _ m => ?_) hr];have F:=rdF_le p k l (sc:=((blk s sc 2).1.drop (32*x)).take 32) (len:=ay_ (ag_ l) len x) (a:=min (a-x*ag_ l) (ay_ (ag_ l) len x)) (b:=min (b-x*ag_ l) (ay_ (ag_ l) len x));unfold fRd at m ⊢;split at m
     .rename_i y;rw[qV y];exact m
     .rename_i y;rw[qX y];simp only at m ⊢;split at m
      .rename_i D;rw[F D,qV D];exact m
      .cases m
    | inr e =>
     rw[hr]at h;exact absurd h (C.2 e hr)
   .rfl
  .rw[qX j]at h;exact absurd h j
theorem fileR_le{s t:Xx}(f:StLe s t)(k:Int)(r:Xp)(h:(az_ s k r).2.2=0):az_ t k r=az_ s k r:=by
 unfold az_ at h ⊢;split
 .rename_i j;rw[qV j]at h;exact rdF_le f k _ h
 .rfl
theorem getN_le {s t:Xx} (j:StLe s t):∀(f:Nat) {n:Xq} {r:Xp} {left:Int},(bb_ s f n r left).2.2=0->bb_ t f n r left=bb_ s f n r left
 | 0,n,r,left,_=>rfl
 | f + 1,n,r,left,h=>by
  rw[bb_]at h;rw[bb_,bb_];split
  .rfl
  .rename_i F;rw[qX F]at h;by_cases m:(az_ s (aT_ n) r).2.2=0
   .rw [fileR_le j _ _ m];rw[qV m]at h;rw[qV m];split
    .rename_i J;rw[qV J]at h;cases G:fy_ (az_ s (aT_ n) r).1 n.Id_ ((az_ s (aT_ n) r).1.length+1) 0 with
     | none=>rfl
     | some l =>
      rw[G]at h;simp only at h ⊢;have y:=fv_ (f:=fG (bb_ s f) left) (λ_ _=>True) (λe=>e.2.2≠0) (xs:=l) (k:=0) (s0:=([n],(az_ s (aT_ n) r).2.1)) trivial λi acc q _ _=>⟨λ_ _=>trivial,λe u=>by
       unfold fG at u;split at u
       .cases u
       .rename_i M;obtain rfl:=zk u;exact M⟩
      cases hr:aW_ (fG (bb_ s f) left) ([n],(az_ s (aT_ n) r).2.1) l with
      | inl acc =>
       rw[runS_le (g:=fG (bb_ t f) left) (λa x c _ p => ?_) hr];have D:=getN_le j f (n:=x.1) (r:=x.2) (left:=left-(a.1.length:Int));unfold fG at p ⊢;split at p
       .rename_i C;rw[D C,qV C];exact p
       .cases p
      | inr e =>
       rw[hr]at h;exact absurd h (y.2 e hr)
    .rfl
   .rw[qX m]at h;exact absurd h m
theorem TreeAt.le{s t:Xx}{sc:Str}{T:Xk}(h:TreeAt s sc T 0)(u:StOK s)(q:StOK t)(f:StLe s t):cd_ t sc=some (T,0):=by
 obtain⟨T',E,rd,G,t2,t3,t4⟩:=tree_both u sc;have C:T'=T/\E=0:=by
  have:=h.ref.symm.trans t2;simp only[qOi,qF]at this;exact⟨this.1.symm,this.2.symm⟩
 obtain⟨rfl,rfl⟩:=C;obtain⟨F,next,many,n,r,a3,p,y,hm,m,_,rfl,rfl,rfl,x⟩:=t4 rfl;have D:blk t sc 4=((blk s sc 4).1,0):=by
  rw[f.blk p,←p]
 have j:=getN_le f 1025 m;have:=tree_back q (sc:=sc) (d:=(blk s sc 4).1) (next:=T'.Xn) (n:=n) (r:=r) (l:=T'.Xz) (ns:=(bb_ s 1025 n r (T'.Xz.length:Int)).1) (seen:=(bb_ s 1025 n r (T'.Xz.length:Int)).2.1) D y (by rw[j,←m]) x F;unfold cd_;exact aa_ this rfl
structure Tot(s:Xw):Prop where (files:FileOK s.Xf) (size:SizeOK s.Xf) (store:StOK s.Yh) (sl:s.Xu.length<=100)
theorem copied_loop(l:List Xb)(f:l.length<=1000)(hm:smallM l):am_ (dF_ l) BIG (0,l)=some l:=by
 refine so_ l f (λi hi => ?_) ?_
 .unfold dF_;simp only;rw[bm_ hi,au_ hi,aw_ (by omega)];refine af_ rfl (aa_ rfl (aa_ (l1_ (hm _ (qr hi))) (aa_ rfl ?_)));exact qH (λq=>some (Step.next (((i+1:Nat):Int),q))) (set_self (qQ hi))
 .unfold dF_;simp only;rw[bC_];rfl
theorem p5_{f:Xj}(z:SizeOK f):ds_ f=some f:=by
 have:=z.nl;have:=z.el;unfold ds_;exact aa_ (pk_ z.ul) (aa_ (copied_loop _ z.ul z.um) (aa_ (oc_ z.ql) (aa_ (tp_ (by omega)) (aa_ (nq_ (by omega)) rfl))))
theorem clone_snaps{xs:List Zz}(h:xs.length<=1000):cS_ xs=some xs:=hQ_ (n:=24) (by omega) (by omega)
theorem gj_{s:Xw}(h:Tot s):ax_ s=some s:=by
 have:=h.store.size;have:=h.sl;unfold ax_;exact aa_ (p5_ h.size) (aa_ (ud_ (by omega)) (aa_ (clone_snaps (by omega)) rfl))
theorem lz_{s:Xw}(h:Tot s)(f:Xj):c2_ s f=some (Xw.mk f s.Yh s.Xu):=by
 unfold c2_;exact aa_ (gj_ h) rfl
structure Taken(s:Xw)(now:Int)(t:Xw):Prop where
 ok:(dH_ s.Yh s.Xf.Xg).2.2=0
 store:t.Yh=(dH_ s.Yh s.Xf.Xg).1
 snaps:t.Xu=s.Xu++[Zz.mk now (dH_ s.Yh s.Xf.Xg).2.1]
 files:t.Xf=s.Xf
 last:∀x,s.Xu.getLast? = some x->x.Zk<now
theorem vQ_{s:Xw}(h:Tot s):eJ_ s.Xf.Xg=some true:=by
 obtain⟨b,f,j⟩:=ln_ s.Xf.Xg h.size.nl (ok_modes h.files.tr);rw[j.2 h.files.tr]at f;exact f
structure Op17(o:Zx):Prop where (user:o.Yr.length<=200) (name:o.Xh.length<=200) (data:o.Xd.length<=3000) (mode:I64 o.Xv) (perm:o.Ze<=9223372036854775807) (dir:DirB o.Zf)
theorem New_both{f:Xj}(z:SizeOK f)(n:Int):ap_ f n=some (Xw.mk f (Xx.mk (br_ (bN_ n 1) 4096) []) [])/\ao_ f n=some (Xw.mk f (Xx.mk (br_ (bN_ n 1) 4096) []) []) :=
 ⟨by unfold ap_;exact aa_ (p5_ z) (aa_ rfl rfl),rfl⟩
def p6_(o:Zx):Bool:=(decide ((o.Xd.length:Int)<=3000)&&decide ((o.Xh.length:Int)<=200))&&decide ((o.Yr.length:Int)<=200)
theorem op_ok{o:Zx}(h:Fit te (.st op17N) o)(f:p6_ o=true):Op17 o:=by
 unfold p6_ at f;simp only[qAn,qDe]at f;exact⟨by omega,by omega,by omega,(h 0).2.2.2.2.2.1,(h 0).2.2.2.2.1.2,(h 0).2.2.2.2.2.2.2.2.2.2.1.2,(h 0).2.2.2.2.2.2.2.2.2.2.2.2.2.1.2,(h 0).2.2.2.2.2.2.2.2.2.2.2.2.2.2.2.2.2.1⟩
theorem Ok17.tot{s:Xw}(h:Ok17 s)(z:SizeOK s.Xf):Tot s:=⟨h.files,z,h.store,by have:=h.sl;omega⟩
theorem same17{s:Xw}(h:Tot s)(p:s.Xf.Xg.Xz.length<=1000):ne_ s s=some true:=by
 have j:=h.store.size;have m:=h.sl;have q:=h.size.el;unfold ne_;refine aa_ (same_eq s.Xf h.size.ul h.size.um h.size.ql p (by omega)) (aa_ (a:=false) (ab_ rfl (aa_ (a:=true) ?_ rfl)) (ab_ (by simp) ?_))
 .unfold kn_;refine ab_ (by simp) ?_;have f:=be_ (body:=fn_ s.Yh s.Yh) (T:=λi=>(i:Int)) (b:=Out.fall ()) s.Yh.Xi.length (b6_ (by omega)) (λi hi => ?_) ?_
  .exact aa_ f rfl
  .unfold fn_;refine af_ (bm_ hi) (aa_ (au_ hi) (aa_ (au_ hi) (ab_ (by simp) ?_)));rw[aw_ (by omega)]
  .unfold fn_;exact ab_ (bC_ _) rfl
 .have f:=be_ (body:=je_ s s) (T:=λi=>(i:Int)) (b:=Out.fall ()) s.Xu.length (b6_ (by omega)) (λi hi => ?_) ?_
  .exact aa_ f rfl
  .unfold je_;refine af_ (bm_ hi) (aa_ (au_ hi) (aa_ (au_ hi) (ab_ (by simp) ?_)));rw[aw_ (by omega)]
  .unfold je_;exact ab_ (bC_ _) rfl
theorem kT_{s:Xw}(h:Ok17 s)(z:SizeOK s.Xf)(user:Str){id:Int}(x:I64 id)(y:user.length<=9223372036854775807) :
  (∃p e,cb_ s user id=some (p,e)/\dm_ s user id=some e/\e≠0) \/
  ((id=1\/id=2)/\cb_ s user id=some (zeroP 0 id,0)/\dm_ s user id=some 0) \/
  ∃F k,Found s id F k/\cb_ s user id=some (Yl.mk F k (id.tmod 1048576),0)/\dm_ s user id=some 0:=by
 have q:=svalid_eq h z user y;have j:=d5_ user y;unfold cb_ dm_;cases m:vU user with
 | false =>
  rw[m]at q j;exact .inl ⟨_,25,aa_ q (af_ rfl rfl),aa_ j (af_ rfl rfl),by decide⟩
 | true =>
  rw[m]at q j;rcases look h z x with⟨C,u,l2⟩|⟨_,⟨p,u⟩,l2⟩|⟨F,k,f⟩
  .exact .inr (.inl ⟨C,aa_ q (ab_ rfl (aa_ u (ab_ rfl rfl))),aa_ j (ab_ rfl (aa_ l2 (ab_ rfl rfl)))⟩)
  .exact .inl ⟨_,8,aa_ q (ab_ rfl (aa_ u (af_ rfl rfl))),aa_ j (ab_ rfl (aa_ l2 (af_ rfl rfl))),by decide⟩
  .exact .inr (.inr ⟨F,k,f,aa_ q (ab_ rfl (aa_ f.find (ab_ rfl rfl))),aa_ j (ab_ rfl (aa_ f.ex (ab_ rfl rfl)))⟩)
theorem Found.one{s:Xw}{id:Int}{F:Xj}(f:Found s id F 1)(h:I64 id):F=s.Xf/\w64 (id-1048576)=id.tmod 1048576:=by
 have j:=f.srv;have ge:=f.ge;have m:=f.kk;rw[zC (by omega),dA_ ⟨by omega,by have:=h.2;omega⟩]at m;refine⟨?_,?_⟩
 .unfold cH_ at j;exact(qSj j).symm
 .rw[aq_ ⟨by omega,by have:=h.2;omega⟩,zh (by omega)];omega
theorem oo_{id:Int}(f:id=1\/id=2):IntKind.i64.wrap (id.tdiv 1048576)=0:=by rcases f with rfl|rfl<;>rfl
structure Both2(s:Xw)(x y:Option (Xw×Int)):Prop where
 both:∃f e,x=some (Xw.mk f s.Yh s.Xu,e)/\y=some (Xw.mk f s.Yh s.Xu,e)/\After s.Xf f
theorem Both2.same{s:Xw}{x y:Option (Xw×Int)}(h:Ok17 s)(e:Int)(j:x=some (s,e))(f:y=some (s,e)):Both2 s x y:=⟨s.Xf,e,j,f,After.refl h.files⟩
structure Both3(s:Xw)(x y:Option (Xw×Int×Int)):Prop where
 both:∃f n e,x=some (Xw.mk f s.Yh s.Xu,n,e)/\y=some (Xw.mk f s.Yh s.Xu,n,e)/\After s.Xf f
theorem Both3.same{s:Xw}{x y:Option (Xw×Int×Int)}(h:Ok17 s)(n e:Int)(j:x=some (s,n,e))(f:y=some (s,n,e)):Both3 s x y:=⟨s.Xf,n,e,j,f,After.refl h.files⟩
theorem ne0{e:Int}(h:e≠0):(e != 0)=true:=by simpa using h
theorem open_arch:((List.range 128).all λn=>match ea_ (n:Int)with
  | some r=>(ec_ r.1 2==some (bF_ .i64 r.1 2 != 0))&&(ec_ (n:Int) 64==some (decide ((n:Int)>=64)))
  | none=>true)=true:=by kernel_rfl
theorem open_arch_eq{m:Int}(h:((bV_ m).2 != 0)=false):ec_ (bV_ m).1 2=some (bF_ .i64 (bV_ m).1 2 != 0)/\ec_ m 64=some (decide (m>=64)):=by
 have f:=oT_ h;obtain⟨n,rfl⟩:∃n:Nat,m=(n:Int):=⟨m.toNat,by omega⟩;have:=qf.1 open_arch n (List.mem_range.2 (by omega));have e:=cr_ (n:Int) ⟨by omega,by omega⟩;rw[e]at this;simp only[qAn,qG]at this;exact this
theorem openS_err(s:Xj)(user:Str)(id mode now:Int)(h:((kM_ s user id mode now).2 != 0)=true):(kM_ s user id mode now).1=s:=by
 revert h;unfold kM_;cases fr_ s user id mode != 0 with
 | true=>exact λ_=>rfl
 | false=>exact λh=>nomatch h
theorem open_both{s:Xw}(h:Ok17 s)(z:SizeOK s.Xf)(user:Str){id:Int}(Y:I64 id)(mode now:Int)(hu:user.length<=9223372036854775807)(hm:I64 mode):Both2 s (gO_ s user id mode now) (ni_ s user id mode now):=by
 have u:=gj_ (h.tot z);unfold gO_ ni_;rcases kT_ h z user Y hu with⟨p,e,q,m,he⟩|⟨hA,q,m⟩|⟨F,k,f,q,m⟩
 .exact Both2.same h e (aa_ q (af_ (ne0 he) (aa_ u rfl))) (aa_ m (af_ (ne0 he) rfl))
 .rw[oo_ hA];obtain⟨O,M⟩:=zero_dir (s:=s) hA;cases j:(bV_ mode).2 != 0 with
  | true=>exact Both2.same h _ (aa_ q (ab_ rfl (ab_ rfl (aa_ (cr_ mode hm) (af_ j (aa_ u rfl)))))) (aa_ m (ab_ rfl (ab_ rfl (aa_ (cM_ mode hm) (af_ j rfl)))))
  | false =>
   cases D:mode != 0 with
   | true=>exact Both2.same h 10 (aa_ q (ab_ rfl (ab_ rfl (aa_ (cr_ mode hm) (ab_ j (aa_ O (af_ rfl (aa_ u rfl)))))))) (aa_ m (ab_ rfl (ab_ rfl (aa_ (cM_ mode hm) (ab_ j (aa_ M (af_ rfl rfl)))))))
   | false=>exact Both2.same h 0 (aa_ q (ab_ rfl (ab_ rfl (aa_ (cr_ mode hm) (ab_ j (aa_ O (ab_ rfl (af_ rfl (aa_ u rfl))))))))) (aa_ m (ab_ rfl (ab_ rfl (aa_ (cM_ mode hm) (ab_ j (aa_ M (ab_ rfl (af_ (by rcases hA with rfl|rfl<;>rfl) rfl))))))))
 .rw [f.kk];by_cases hk:k=1
  .subst hk;obtain⟨rfl,hw⟩:=f.one Y;rw[hw];have p1:=open_eq h.files z user (id.tmod 1048576) mode now hu hm;have p2:=ref_open_eq h.files z user (id.tmod 1048576) mode now hu hm;cases j:(kM_ s.Xf user (id.tmod 1048576) mode now).2 != 0 with
   | true =>
    refine Both2.same h _ (aa_ q (ab_ rfl (af_ rfl (aa_ p1 (af_ j (aa_ u rfl)))))) (aa_ m (ab_ rfl (af_ rfl (aa_ p2 ?_))));rw[openS_err _ _ _ _ _ j]
   | false =>
    have h0:(kM_ s.Xf user (id.tmod 1048576) mode now).2=0:=by simpa using j
    refine⟨_,0,aa_ q (ab_ rfl (af_ rfl (aa_ p1 (ab_ j (aa_ (lz_ (h.tot z) _) rfl))))),aa_ m (ab_ rfl (af_ rfl (aa_ p2 ?_))),open_after h.files user (id.tmod 1048576) mode now⟩;rw[h0]
  .have k1:=f.k1;have ge:=f.ge;have x:(k==1)=false:=by simpa using hk
   have e0:(k==0)=false:=by simp;omega
   cases j:(bV_ mode).2 != 0 with
   | true=>exact Both2.same h _ (aa_ q (ab_ rfl (ab_ x (aa_ (cr_ mode hm) (af_ j (aa_ u rfl)))))) (aa_ m (ab_ rfl (ab_ x (aa_ (cM_ mode hm) (af_ j rfl)))))
   | false =>
    obtain⟨O,M⟩:=f.dir;obtain⟨a1,a2⟩:=open_arch_eq j;have J:decide (id<1048576)=false:=by simp;omega
    cases D:dirF F (id.tmod 1048576)&&(mode != 0)with
    | true=>exact Both2.same h 10 (aa_ q (ab_ rfl (ab_ x (aa_ (cr_ mode hm) (ab_ j (aa_ O (af_ D (aa_ u rfl)))))))) (aa_ m (ab_ rfl (ab_ x (aa_ (cM_ mode hm) (ab_ j (aa_ M (af_ D rfl)))))))
    | false =>
     have y:(Option.bind (bif(bF_ .i64 (bV_ mode).1 2 != 0)then some true else(ec_ mode 64).bind λy6=>some y6) λ(y7:Bool)=>some y7)=some ((bF_ .i64 (bV_ mode).1 2 != 0)||decide (mode>=64)):=by
      rw[a2];cases bF_ .i64 (bV_ mode).1 2 != 0<;>rfl
     cases C:(bF_ .i64 (bV_ mode).1 2 != 0)||decide (mode>=64)with
     | true =>
      rw[C]at y;refine Both2.same h 33 (aa_ q (ab_ rfl (ab_ x (aa_ (cr_ mode hm) (ab_ j (aa_ O (ab_ D (ab_ e0 (af_ C (aa_ u rfl)))))))))) (aa_ m (ab_ rfl (ab_ x (aa_ (cM_ mode hm) (ab_ j (aa_ M (ab_ D (ab_ J (aa_ a1 (aa_ (a:=true) ?_ (af_ rfl rfl)))))))))));cases G:bF_ .i64 (bV_ mode).1 2 != 0 with
      | true=>rfl
      | false=>rw[G]at y;simpa using y
     | false =>
      rw[C]at y;have hn:=dw_ F.Xg (id.tmod 1048576) (nl2 f.size);have U:=aO_ F.Xg (id.tmod 1048576) (nl2 f.size);have V:=cj_ f.ok (id.tmod 1048576);have w1:=pX_ s.Xf.Yz user (ak_ F (id.tmod 1048576)).Yg (ak_ F (id.tmod 1048576)).Yq (ak_ F (id.tmod 1048576)).Xv (bV_ mode).1 z.ul z.um V;have Z:=oR_ s.Xf.Yz user (ak_ F (id.tmod 1048576)).Yg (ak_ F (id.tmod 1048576)).Yq (ak_ F (id.tmod 1048576)).Xv (bV_ mode).1 z.ul z.um V;have hb:Option.bind (bif(bF_ .i64 (bV_ mode).1 2 != 0)then some true else(ec_ mode 64).bind λy6=>some y6) (λ(y7:Bool)=>some y7)=some false:=y;cases h5:nA_ s.Xf.Yz user (ak_ F (id.tmod 1048576)).Yg (ak_ F (id.tmod 1048576)).Yq (ak_ F (id.tmod 1048576)).Xv (bV_ mode).1 with
      | false =>
       rw[h5]at w1 Z;refine Both2.same h 11 (aa_ q (ab_ rfl (ab_ x (aa_ (cr_ mode hm) (ab_ j (aa_ O (ab_ D (ab_ e0 (ab_ C (aa_ hn (aa_ w1 (af_ rfl (aa_ u rfl))))))))))))) (aa_ m (ab_ rfl (ab_ x (aa_ (cM_ mode hm) (ab_ j (aa_ M (ab_ D (ab_ J (aa_ a1 (aa_ (a:=false) ?_ (ab_ rfl (aa_ f.srv (aa_ U (aa_ Z (af_ rfl rfl)))))))))))))));cases G:bF_ .i64 (bV_ mode).1 2 != 0 with
       | true=>rw[G]at C;cases C
       | false=>rw[G]at y;simpa using y
      | true =>
       rw[h5]at w1 Z;refine Both2.same h 0 (aa_ q (ab_ rfl (ab_ x (aa_ (cr_ mode hm) (ab_ j (aa_ O (ab_ D (ab_ e0 (ab_ C (aa_ hn (aa_ w1 (ab_ rfl (aa_ u rfl))))))))))))) (aa_ m (ab_ rfl (ab_ x (aa_ (cM_ mode hm) (ab_ j (aa_ M (ab_ D (ab_ J (aa_ a1 (aa_ (a:=false) ?_ (ab_ rfl (aa_ f.srv (aa_ U (aa_ Z (ab_ rfl rfl)))))))))))))));cases G:bF_ .i64 (bV_ mode).1 2 != 0 with
       | true=>rw[G]at C;cases C
       | false=>rw[G]at y;simpa using y
theorem create_both{s:Xw}(h:Ok17 s)(z:SizeOK s.Xf)(user:Str){id:Int}(q:I64 id)(name:Str)(perm mode now:Int)(y:user.length<=9223372036854775807)(hm:I64 mode)(G:perm<=9223372036854775807)(J:name.length<=9223372036854775807):Both3 s (fm_ s user id name perm mode now) (ky_ s user id name perm mode now):=by
 have u:=gj_ (h.tot z);unfold fm_ ky_;rcases kT_ h z user q y with⟨p,e,m,j,O⟩|⟨Y,m,j⟩|⟨F,k,f,m,j⟩
 .exact Both3.same h 0 e (aa_ m (af_ (ne0 O) (aa_ u rfl))) (aa_ j (af_ (ne0 O) rfl))
 .rw[oo_ Y];exact Both3.same h 0 33 (aa_ m (ab_ rfl (af_ rfl (aa_ u rfl)))) (aa_ j (ab_ rfl (af_ rfl rfl)))
 .rw[f.kk];by_cases M:k=1
  .subst M;obtain⟨rfl,V⟩:=f.one q;rw[V];have D:=create_eq h.files z user (id.tmod 1048576) name perm mode now y hm G J;have C:=ys_ h.files z user (id.tmod 1048576) name perm mode now y hm G J;cases x:(lt_ s.Xf user (id.tmod 1048576) name perm mode now).2.2 != 0 with
   | true=>exact Both3.same h 0 _ (aa_ m (ab_ rfl (ab_ rfl (aa_ D (af_ x (aa_ u rfl)))))) (aa_ j (ab_ rfl (ab_ rfl (aa_ C (af_ x rfl)))))
   | false=>exact⟨_,_,0,aa_ m (ab_ rfl (ab_ rfl (aa_ D (ab_ x (aa_ (lz_ (h.tot z) _) rfl))))),aa_ j (ab_ rfl (ab_ rfl (aa_ C (ab_ x rfl)))),create_after h.files user (id.tmod 1048576) name perm mode now⟩
  .have U:(k != 1)=true:=by simpa using M
   exact Both3.same h 0 33 (aa_ m (ab_ rfl (af_ U (aa_ u rfl)))) (aa_ j (ab_ rfl (af_ U rfl)))
theorem write_both{s:Xw}(h:Ok17 s)(z:SizeOK s.Xf)(user:Str){id:Int}(y:I64 id)(offset:Int)(data:Str)(now:Int)(D:user.length<=9223372036854775807)(U:data.length<=9223372036854775807):Both3 s (fW_ s user id offset data now) (lS_ s user id offset data now):=by
 have x:=gj_ (h.tot z);unfold fW_ lS_;rcases kT_ h z user y D with⟨p,e,u,q,O⟩|⟨hA,u,q⟩|⟨F,k,f,u,q⟩
 .exact Both3.same h 0 e (aa_ u (af_ (ne0 O) (aa_ x rfl))) (aa_ q (af_ (ne0 O) rfl))
 .obtain⟨m,j⟩:=zero_dir (s:=s) hA;exact Both3.same h 0 10 (aa_ u (ab_ rfl (aa_ m (af_ rfl (aa_ x rfl))))) (aa_ q (ab_ rfl (aa_ j (af_ rfl rfl))))
 .obtain⟨m,j⟩:=f.dir;rw[f.kk];cases V:dirF F (id.tmod 1048576)with
  | true =>
   rw[V]at m j;exact Both3.same h 0 10 (aa_ u (ab_ rfl (aa_ m (af_ rfl (aa_ x rfl))))) (aa_ q (ab_ rfl (aa_ j (af_ rfl rfl))))
  | false =>
  rw[V]at m j;cases decide (offset<0)with
  | true=>exact Both3.same h 0 1 (aa_ u (ab_ rfl (aa_ m (ab_ rfl (af_ rfl (aa_ x rfl)))))) (aa_ q (ab_ rfl (aa_ j (ab_ rfl (af_ rfl rfl)))))
  | false =>
  by_cases M:k=1
  .subst M;obtain⟨rfl,Z⟩:=f.one y;rw[Z];have J:=write_eq h.files z user (id.tmod 1048576) offset data now D U;have G:=ref_write_eq h.files z user (id.tmod 1048576) offset data now D U;cases C:(oh_ s.Xf user (id.tmod 1048576) offset data now).2.2 != 0 with
   | true=>exact Both3.same h 0 _ (aa_ u (ab_ rfl (aa_ m (ab_ rfl (ab_ rfl (ab_ rfl (aa_ J (af_ C (aa_ x rfl))))))))) (aa_ q (ab_ rfl (aa_ j (ab_ rfl (ab_ rfl (ab_ rfl (aa_ G (af_ C rfl))))))))
   | false=>exact⟨_,_,0,aa_ u (ab_ rfl (aa_ m (ab_ rfl (ab_ rfl (ab_ rfl (aa_ J (ab_ C (aa_ (lz_ (h.tot z) _) rfl)))))))),aa_ q (ab_ rfl (aa_ j (ab_ rfl (ab_ rfl (ab_ rfl (aa_ G (ab_ C rfl))))))),write_after h.files user (id.tmod 1048576) offset data now⟩
  .have Y:(k != 1)=true:=by simpa using M
   exact Both3.same h 0 33 (aa_ u (ab_ rfl (aa_ m (ab_ rfl (ab_ rfl (af_ Y (aa_ x rfl))))))) (aa_ q (ab_ rfl (aa_ j (ab_ rfl (ab_ rfl (af_ Y rfl))))))
theorem wstatS_err(s:Xj)(user:Str)(id:Int)(d:Yf)(now:Int)(h:((hX_ s user id d now).2 != 0)=true):(hX_ s user id d now).1=s:=by
 revert h;unfold hX_;cases dz_ s user id d != 0 with
 | true=>exact λ_=>rfl
 | false=>exact λh=>nomatch h
theorem remove_both{s:Xw}(h:Ok17 s)(z:SizeOK s.Xf)(user:Str){id:Int}(q:I64 id)(now:Int)(y:user.length<=9223372036854775807):Both2 s (ho_ s user id now) (kB_ s user id now):=by
 have u:=gj_ (h.tot z);unfold ho_ kB_;rcases kT_ h z user q y with⟨p,e,m,j,C⟩|⟨U,m,j⟩|⟨F,k,f,m,j⟩
 .have Y:(e==0)=false:=by simpa using C
  exact Both2.same h e (aa_ m (aa_ (a:=e) (ab_ (by simp only[Y,Bool.false_and]) rfl) (af_ (ne0 C) (aa_ u rfl)))) (aa_ j (af_ (ne0 C) rfl))
 .rw[oo_ U];exact Both2.same h 33 (aa_ m (aa_ (a:=33) (af_ rfl rfl) (af_ rfl (aa_ u rfl)))) (aa_ j (ab_ rfl (af_ rfl rfl)))
 .rw[f.kk];by_cases J:k=1
  .subst J;obtain⟨rfl,O⟩:=f.one q;rw[O];have G:=remove_eq h.files z user (id.tmod 1048576) now y;have D:=rq_ h.files z user (id.tmod 1048576) now y;cases x:(dT_ s.Xf user (id.tmod 1048576) now).2 != 0 with
   | true =>
    refine Both2.same h _ (aa_ m (aa_ (a:=0) (ab_ rfl rfl) (ab_ rfl (aa_ G (af_ x (aa_ u rfl)))))) (aa_ j (ab_ rfl (ab_ rfl (aa_ D ?_))));rw[tu_ _ _ _ _ (by simpa using x)]
   | false =>
    have V:(dT_ s.Xf user (id.tmod 1048576) now).2=0:=by simpa using x
    refine⟨_,0,aa_ m (aa_ (a:=0) (ab_ rfl rfl) (ab_ rfl (aa_ G (ab_ x (aa_ (lz_ (h.tot z) _) rfl))))),aa_ j (ab_ rfl (ab_ rfl (aa_ D ?_))),sq_ h.files user (id.tmod 1048576) now⟩;rw[V]
  .have M:(k != 1)=true:=by simpa using J
   exact Both2.same h 33 (aa_ m (aa_ (a:=33) (af_ (by simp only[M];rfl) rfl) (af_ rfl (aa_ u rfl)))) (aa_ j (ab_ rfl (af_ M rfl)))
theorem wstat_both{s:Xw}(h:Ok17 s)(z:SizeOK s.Xf)(user:Str){id:Int}(q:I64 id)(d:Yf)(now:Int)(y:user.length<=9223372036854775807)(M:DirB d):Both2 s (il_ s user id d now) (lY_ s user id d now):=by
 have u:=gj_ (h.tot z);unfold il_ lY_;rcases kT_ h z user q y with⟨p,e,m,j,C⟩|⟨V,m,j⟩|⟨F,k,f,m,j⟩
 .have Z:(e==0)=false:=by simpa using C
  exact Both2.same h e (aa_ m (aa_ (a:=e) (ab_ (by simp only[Z,Bool.false_and]) rfl) (af_ (ne0 C) (aa_ u rfl)))) (aa_ j (af_ (ne0 C) rfl))
 .rw[oo_ V];exact Both2.same h 33 (aa_ m (aa_ (a:=33) (af_ rfl rfl) (af_ rfl (aa_ u rfl)))) (aa_ j (ab_ rfl (af_ rfl rfl)))
 .rw[f.kk];by_cases J:k=1
  .subst J;obtain⟨rfl,U⟩:=f.one q;rw[U];have G:=wstat_eq h.files z user (id.tmod 1048576) d now y M;have D:=ref_wstat_eq h.files z user (id.tmod 1048576) d now y M;cases x:(hX_ s.Xf user (id.tmod 1048576) d now).2 != 0 with
   | true =>
    refine Both2.same h _ (aa_ m (aa_ (a:=0) (ab_ rfl rfl) (ab_ rfl (aa_ G (af_ x (aa_ u rfl)))))) (aa_ j (ab_ rfl (ab_ rfl (aa_ D ?_))));rw[wstatS_err _ _ _ _ _ x]
   | false =>
    have Y:(hX_ s.Xf user (id.tmod 1048576) d now).2=0:=by simpa using x
    refine⟨_,0,aa_ m (aa_ (a:=0) (ab_ rfl rfl) (ab_ rfl (aa_ G (ab_ x (aa_ (lz_ (h.tot z) _) rfl))))),aa_ j (ab_ rfl (ab_ rfl (aa_ D ?_))),wstat_after h.files user (id.tmod 1048576) d now⟩;rw[Y]
  .have O:(k != 1)=true:=by simpa using J
   exact Both2.same h 33 (aa_ m (aa_ (a:=33) (af_ (by simp only[O];rfl) rfl) (af_ rfl (aa_ u rfl)))) (aa_ j (ab_ rfl (af_ O rfl)))
theorem closeS_none{s:Xj}(f:FileOK s){id:Int}(hi:isS s id=false)(user:Str)(mode now:Int):mv_ s user id mode now=s:=by
 have m:cQ_ s.Xa id=s.Xa:=outX_not λh=>by
  have:=(f.exc id h).1;unfold isS at hi;rw[this]at hi;cases hi
 have j:setX s (cQ_ s.Xa id)=s:=by rw[m];rfl
 unfold mv_;rw[j];cases al_ mode 6 with
 | false=>rfl
 | true =>
  have p:(bU_ s user id != 0)=true:=by
   unfold bU_;rw[hi];cases vU user<;>rfl
  show(dT_ s user id now).1=s;unfold dT_;rw[p];rfl
theorem close_both{s:Xw}(h:Ok17 s)(z:SizeOK s.Xf)(user:Str){id:Int}(j:I64 id)(mode now:Int)(D:user.length<=9223372036854775807)(hm:mode<=9223372036854775807) :
  ∃f,ij_ s user id mode now=some (Xw.mk f s.Yh s.Xu)/\lU_ s user id mode now=some (Xw.mk f s.Yh s.Xu)/\After s.Xf f:=by
 have G:=gj_ (h.tot z);unfold ij_ lU_;rcases look h z j with⟨u,y,l2⟩|⟨u,⟨p,y⟩,l2⟩|⟨F,k,f⟩
 .rw[oo_ u];exact⟨s.Xf,aa_ y (af_ rfl (aa_ G rfl)),aa_ (a:=s) (ab_ (by simp) rfl) rfl,After.refl h.files⟩
 .refine⟨s.Xf,aa_ y (af_ rfl (aa_ G rfl)),aa_ (a:=s) ?_ rfl,After.refl h.files⟩;cases m:decide (id>0)&&(IntKind.i64.wrap (id.tdiv 1048576)==1)with
  | false=>rfl
  | true =>
   simp only[qAn,qDe,qG]at m;obtain⟨h0,M⟩:=m;obtain⟨i1,i2⟩:=j;have Z:id.tdiv 1048576=1:=by
    rw[zC (by omega)]at M ⊢
    rwa [dA_ ⟨by omega,by omega⟩]at M
   have C:w64 (id-1048576)=id.tmod 1048576:=by
    rw[zC (by omega)]at Z;rw[aq_ ⟨by omega,by omega⟩,zh (by omega)];omega
   have Y:isS s.Xf (id.tmod 1048576)=false:=by
    unfold cV_ at l2;have J:((id==1)||(id==2))=false:=by
     simp only[not_or]at u;simp[u.1,u.2]
    have V:=h.sl;rw[J,M]at l2;have hb:(decide (id<0)||decide ((1:Int)<1)||decide ((1:Int)>w64 ((s.Xu.length:Int)+1)))=false:=by
     rw[aq_ ⟨by omega,by omega⟩];simp;omega
    have O:(Option.bind (cH_ s 1) λx=>(aR_ x.Xg (id.tmod 1048576)).bind λq=>some q.2)=some false:=by
     rw[←l2];exact(ab_ rfl (ab_ hb rfl)).symm
    have U:=aa_ (f:=λ(x:Xj)=>(aR_ x.Xg (id.tmod 1048576)).bind λq=>some q.2) (show cH_ s 1=some s.Xf from rfl) (aa_ (f:=λ(q:Xq×Bool)=>some q.2) (aO_ s.Xf.Xg (id.tmod 1048576) (nl2 z)) rfl);rw[U]at O;exact qSj O
   rw[C];refine af_ rfl (aa_ (sr_ h.files z user (id.tmod 1048576) mode now D hm) ?_);rw[closeS_none h.files Y]
 .rw[f.kk];have ge:=f.ge;by_cases m:k=1
  .subst m;obtain⟨rfl,C⟩:=f.one j;rw[C];exact⟨_,aa_ f.find (ab_ rfl (aa_ (close_eq h.files z user (id.tmod 1048576) mode now D hm) (aa_ (lz_ (h.tot z) _) rfl))),aa_ (af_ (by simp;omega) (aa_ (sr_ h.files z user (id.tmod 1048576) mode now D hm) rfl)) rfl,close_after h.files user (id.tmod 1048576) mode now⟩
  .have e1:(k != 1)=true:=by simpa using m
   have e2:(k==1)=false:=by simpa using m
   exact⟨s.Xf,aa_ f.find (af_ (by simp only[e1];rfl) (aa_ G rfl)),aa_ (a:=s) (ab_ (by rw[e2,Bool.and_false]) rfl) rfl,After.refl h.files⟩
theorem taken_ok{s t:Xw}{now:Int}(h:Ok17 s)(O:s.Xu.length<64)(M:0<=now)(J:now<=1099511627776)(k:Taken s now t):Ok17 t:=by
 obtain⟨k1,C⟩:=treeS_ok h.store (t:=s.Xf.Xg) h.files.tr;have st:StOK t.Yh:=by rw[k.store];exact k1
 have le:StLe s.Yh t.Yh:=by rw[k.store];exact C
 have ks:=k.snaps;refine⟨by rw[ks];simp;omega,by rw[k.files];exact h.files,st,λx f => ?_,λi x y hi f j => ?_,λx f => ?_⟩
 .rw[ks]at f;rcases qY.1 f with f|f
  .exact h.time x f
  .obtain rfl:=qE.1 f;exact⟨M,J⟩
 .rw[ks]at f j;rcases qN i s.Xu.length with m|D
  .rw[zR m]at f;rw[zR (by omega)]at j;exact h.asc i x y hi f j
  .have p:i=s.Xu.length:=by
    rcases qN s.Xu.length i with G|G
    .rw[qa (by simp;omega)]at f;cases f
    .omega
   subst p;rw[zR (by omega)]at j;rw[List.getElem?_concat_length]at f;obtain rfl:=qSj f;exact k.last y (by rw[List.getLast?_eq_getElem?];exact j)
 .obtain⟨U,E,u⟩:=tree_at st x.Yy;rw[ks]at f;have F:∃T,cd_ t.Yh x.Yy=some (T,0):=by
   rcases qY.1 f with f|f
   .obtain⟨T,q⟩:=h.tree x f;exact⟨T,q.le h.store st le⟩
   .obtain rfl:=qE.1 f;obtain⟨seen,s1,_⟩:=restored h.store st h.files.tr k.ok (by rw[←k.store];exact StLe.refl _);exact⟨s.Xf.Xg,by unfold cd_;exact aa_ s1 rfl⟩
  obtain⟨T,q⟩:=F;have:=u.get.symm.trans q;simp only[qOi,qF]at this;obtain⟨rfl,rfl⟩:=this;exact⟨U,u⟩
theorem take_both{s:Xw}(h:Ok17 s)(z:SizeOK s.Xf)(now:Int):∃t e,cq_ s now=some (t,e)/\d3_ s now=some (t,e)/\Ok17 t/\t.Xf=s.Xf:=by
 have ZZ:=h.sl;have u:=gj_ (h.tot z);have hr:d0_ s.Xf.Xg=some true:=by
  obtain⟨b,F,J⟩:=oQ_ s.Xf.Xg z.nl (ok_modes h.files.tr);rw[J.2 h.files.tr]at F;exact F
 have U:=PutTree_eq h.store h.files.tr (vQ_ (h.tot z));have O:=w1_ h.store h.files.tr hr;have p:∃c,(Option.bind (bif decide ((s.Xu.length:Int)>0)then(an_ s.Xu (w64 ((s.Xu.length:Int)-1))).bind λY=>some (decide (now<=Y.Zk))else some false) λ(V:Bool)=>some V)=some c/\(c=false->∀x,s.Xu.getLast? = some x->x.Zk<now):=by
  rcases qt s.Xu.length with C|C
  .have he:s.Xu=[]:=zq.1 C;rw[he];exact⟨false,rfl,λ_ x D=>by cases D⟩
  .have hi:s.Xu.length-1<s.Xu.length:=by omega
   have hg:an_ s.Xu (w64 ((s.Xu.length:Int)-1))=some s.Xu[s.Xu.length-1]:=by
    rw[aq_ ⟨by omega,by omega⟩,show(s.Xu.length:Int)-1=((s.Xu.length-1:Nat):Int)by omega];exact au_ hi
   have hd:decide ((s.Xu.length:Int)>0)=true:=by simpa using C
   rw[hd,hg];refine⟨decide (now<=s.Xu[s.Xu.length-1].Zk),rfl,λhf x D => ?_⟩;rw[List.getLast?_eq_getElem?,qQ hi]at D;obtain rfl:=qSj D;simpa using hf
 obtain⟨c,q,l2⟩:=p;have same:∀e,cq_ s now=some (s,e)->d3_ s now=some (s,e)->∃t e,cq_ s now=some (t,e)/\d3_ s now=some (t,e)/\Ok17 t/\t.Xf=s.Xf:=λe F J=>⟨s,e,F,J,h,rfl⟩
 cases f:decide ((s.Xu.length:Int)>=64)with
 | true=>exact same 22 (by unfold cq_;exact af_ f (aa_ u rfl)) (by unfold d3_;exact af_ f rfl)
 | false =>
 have G:s.Xu.length<64:=by
  simp only[qDf]at f;omega
 cases m:decide (now<0)||decide (now>1099511627776)with
 | true=>exact same 1 (by unfold cq_;exact ab_ f (aa_ (a:=true) (af_ m rfl) (af_ rfl (aa_ u rfl)))) (by unfold d3_;exact ab_ f (aa_ (a:=true) (af_ m rfl) (af_ rfl rfl)))
 | false =>
 cases c with
 | true=>exact same 1 (by unfold cq_;exact ab_ f (aa_ (a:=true) (ab_ m q) (af_ rfl (aa_ u rfl)))) (by unfold d3_;exact ab_ f (aa_ (a:=true) (ab_ m q) (af_ rfl rfl)))
 | false =>
 simp only[qh,qDf]at m;have j:(decide (now<0)||decide (now>1099511627776))=false:=by simp;omega
 cases y:(dH_ s.Yh s.Xf.Xg).2.2 != 0 with
 | true=>exact same _ (by unfold cq_;exact ab_ f (aa_ (a:=false) (ab_ j q) (ab_ rfl (aa_ U (af_ y (aa_ u rfl)))))) (by unfold d3_;exact ab_ f (aa_ (a:=false) (ab_ j q) (ab_ rfl (aa_ O (af_ y rfl)))))
 | false =>
  have C:(dH_ s.Yh s.Xf.Xg).2.2=0:=by simpa using y
  have M:room 24 s.Xu [Zz.mk now (dH_ s.Yh s.Xf.Xg).2.1]=some (s.Xu++[Zz.mk now (dH_ s.Yh s.Xf.Xg).2.1]):=bj_ (by simp;omega) (by simp;omega);have Z:room 24 ([]:List Zz) s.Xu=some s.Xu:=bj_ (by simp;omega) (by simp;omega);refine⟨Xw.mk s.Xf (dH_ s.Yh s.Xf.Xg).1 (s.Xu++[Zz.mk now (dH_ s.Yh s.Xf.Xg).2.1]),0,?_,?_,taken_ok h G (by omega) (by omega) ⟨C,rfl,rfl,rfl,l2 rfl⟩,rfl⟩
  .unfold cq_;exact ab_ f (aa_ (a:=false) (ab_ j q) (ab_ rfl (aa_ U (ab_ y (aa_ u (aa_ M rfl))))))
  .unfold d3_;exact ab_ f (aa_ (a:=false) (ab_ j q) (ab_ rfl (aa_ O (ab_ y (aa_ Z (aa_ M rfl))))))
theorem after17{s:Xw}{f:Xj}(h:Ok17 s)(a:After s.Xf f):Ok17 (Xw.mk f s.Yh s.Xu):=⟨h.sl,a.ok h.files,h.store,h.time,h.asc,h.tree⟩
structure Next17(s t:Xw):Prop where
 ok:Ok17 t
 users:t.Xf.Yz=s.Xf.Yz
 quotas:t.Xf.Yx=s.Xf.Yx
 nl:t.Xf.Xg.Xz.length<=s.Xf.Xg.Xz.length+1
 el:t.Xf.Xa.length<=s.Xf.Xa.length+1
theorem op_{s:Xw}{f:Xj}(h:Ok17 s)(a:After s.Xf f):Next17 s (Xw.mk f s.Yh s.Xu):=⟨after17 h a,a.users,a.quotas,a.nl,a.el⟩
theorem Next17.size{s t:Xw}(n:Next17 s t)(z:SizeOK s.Xf)(f:s.Xf.Xg.Xz.length<=1000)(h:s.Xf.Xa.length<=400):SizeOK t.Xf :=
 ⟨by rw[n.users];exact z.ul,by rw[n.users];exact z.um,by rw[n.users];exact z.us,by rw[n.quotas];exact z.ql,by rw[n.quotas];exact z.qs,by have:=n.nl;omega,by have:=n.el;omega⟩
theorem vR_{s:Xw}(h:Ok17 s)(z:SizeOK s.Xf){o:Zx}(C:Op17 o)(m:I64 o.Id_):∃t n e,jU_ s o=some (t,n,e)/\nl_ s o=some (t,n,e)/\Next17 s t:=by
 have F:o.Yr.length<=9223372036854775807:=by have:=C.user;omega
 have O:o.Xh.length<=9223372036854775807:=by have:=C.name;omega
 have U:o.Xd.length<=9223372036854775807:=by have:=C.data;omega
 unfold jU_ nl_;by_cases k1:o.Yo=1
 .obtain⟨f,e,q,p,a⟩:=(open_both h z o.Yr m o.Xv o.Zv F C.mode).both;exact⟨_,_,_,aa_ (af_ (by simp[k1]) (aa_ q rfl)) rfl,aa_ (af_ (by simp[k1]) (aa_ p rfl)) rfl,op_ h a⟩
 by_cases j:o.Yo=2
 .obtain⟨f,n,e,q,p,a⟩:=(create_both h z o.Yr m o.Xh o.Ze o.Xv o.Zv F C.mode C.perm O).both;exact⟨_,_,_,aa_ (ab_ (by simp[k1]) (af_ (by simp[j]) (aa_ q rfl))) rfl,aa_ (ab_ (by simp[k1]) (af_ (by simp[j]) (aa_ p rfl))) rfl,op_ h a⟩
 by_cases u:o.Yo=3
 .obtain⟨f,n,e,q,p,a⟩:=(write_both h z o.Yr m o.Zs o.Xd o.Zv F U).both;exact⟨_,_,_,aa_ (ab_ (by simp[k1]) (ab_ (by simp[j]) (af_ (by simp[u]) (aa_ q rfl)))) rfl,aa_ (ab_ (by simp[k1]) (ab_ (by simp[j]) (af_ (by simp[u]) (aa_ p rfl)))) rfl,op_ h a⟩
 by_cases x:o.Yo=4
 .obtain⟨f,q,p,a⟩:=close_both h z o.Yr m o.Xv o.Zv F C.mode.2;exact⟨_,_,_,aa_ (ab_ (by simp[k1]) (ab_ (by simp[j]) (ab_ (by simp[u]) (af_ (by simp[x]) (aa_ q rfl))))) rfl,aa_ (ab_ (by simp[k1]) (ab_ (by simp[j]) (ab_ (by simp[u]) (af_ (by simp[x]) (aa_ p rfl))))) rfl,op_ h a⟩
 by_cases y:o.Yo=5
 .obtain⟨f,e,q,p,a⟩:=(remove_both h z o.Yr m o.Zv F).both;exact⟨_,_,_,aa_ (ab_ (by simp[k1]) (ab_ (by simp[j]) (ab_ (by simp[u]) (ab_ (by simp[x]) (af_ (by simp[y]) (aa_ q rfl)))))) rfl,aa_ (ab_ (by simp[k1]) (ab_ (by simp[j]) (ab_ (by simp[u]) (ab_ (by simp[x]) (af_ (by simp[y]) (aa_ p rfl)))))) rfl,op_ h a⟩
 by_cases D:o.Yo=6
 .obtain⟨f,e,q,p,a⟩:=(wstat_both h z o.Yr m o.Zf o.Zv F C.dir).both;exact⟨_,_,_,aa_ (ab_ (by simp[k1]) (ab_ (by simp[j]) (ab_ (by simp[u]) (ab_ (by simp[x]) (ab_ (by simp[y]) (af_ (by simp[D]) (aa_ q rfl))))))) rfl,aa_ (ab_ (by simp[k1]) (ab_ (by simp[j]) (ab_ (by simp[u]) (ab_ (by simp[x]) (ab_ (by simp[y]) (af_ (by simp[D]) (aa_ p rfl))))))) rfl,op_ h a⟩
 by_cases J:o.Yo=7
 .obtain⟨t,e,q,p,M,G⟩:=take_both h z o.Zv;exact⟨t,_,_,aa_ (ab_ (by simp[k1]) (ab_ (by simp[j]) (ab_ (by simp[u]) (ab_ (by simp[x]) (ab_ (by simp[y]) (ab_ (by simp[D]) (af_ (by simp[J]) (aa_ q rfl)))))))) rfl,aa_ (ab_ (by simp[k1]) (ab_ (by simp[j]) (ab_ (by simp[u]) (ab_ (by simp[x]) (ab_ (by simp[y]) (ab_ (by simp[D]) (af_ (by simp[J]) (aa_ p rfl)))))))) rfl,⟨M,by rw[G],by rw[G],by rw[G];exact jd _,by rw[G];exact jd _⟩⟩
 .exact⟨s,0,0,aa_ (ab_ (by simp[k1]) (ab_ (by simp[j]) (ab_ (by simp[u]) (ab_ (by simp[x]) (ab_ (by simp[y]) (ab_ (by simp[D]) (ab_ (by simp[J]) rfl))))))) rfl,aa_ (ab_ (by simp[k1]) (ab_ (by simp[j]) (ab_ (by simp[u]) (ab_ (by simp[x]) (ab_ (by simp[y]) (ab_ (by simp[D]) (ab_ (by simp[J]) rfl))))))) rfl,op_ h (After.refl h.files)⟩
theorem op_id{o:Zx}(h:Fit te (.st op17N) o):I64 o.Id_:=(h 0).2.2.1
theorem sub_len{α:Type}[DecidableEq α]:∀{ms ns:List α},ms.Nodup->(∀m∈ms,m∈ns)->ms.length<=ns.length
 | [],_,_,_=>qq _
 | m::ms,ns,h,j=>by
  obtain⟨s,q⟩:=jb.1 h;have hm:=j m qD;have p:=sub_len (ns:=ns.erase m) q λx f=>(List.mem_erase_of_ne (a:=x) (b:=m) (λe=>by subst e;exact s f)).2 (j x (qC _ f))
  rw[List.length_erase_of_mem hm]at p;have:=List.length_pos_of_mem hm;simp only[qLc];omega
theorem asc_pair:∀{ms:List Str},(∀k x y,ms[k]? = some x->ms[k+1]? = some y->x<y)->ms.Pairwise (· < ·)
 | [],_=>List.Pairwise.nil
 | [_],_=>List.pairwise_singleton ..
 | a::b::ms,h=>by
  have m:=asc_pair (ms:=b::ms) λk x y q p=>h (k+1) x y (by simpa using q) (by simpa using p)
  refine zN.2 ⟨λz j => ?_,m⟩;have f:=h 0 a b rfl rfl;rcases qW.1 j with rfl|j
  .exact f
  .exact List.lt_trans f ((zN.1 m).1 z j)
theorem mem_few{l:List Xb}{ms:List Str}(h:memE l ms=0):ms.length<=l.length:=by
 have F:bk_ (gM l ms) 0 ms=none:=by
  unfold memE at h;cases p:bk_ (gM l ms) 0 ms with
  | none=>rfl
  | some r =>
   rw[p]at h;obtain⟨i,x,_,f,_⟩:=oN_ p;unfold gM at f;split at f
   .obtain rfl:=qSj f;cases h
   .cases f
 have q:∀k m,ms[k]? = some m->dB_ l m=true/\(0<k->Op.bytesLess (ms.getD (k-1) []) m=true):=λk m hm=>by
  have:=scan_none.1 F k m hm;unfold gM at this;split at this
  .cases this
  .rename_i M;simpa using M
 have D:ms.Pairwise (· < ·):=asc_pair λk x y f s=>by
  have:=(q (k+1) y s).2 (Nat.succ_pos k);rw[Nat.add_sub_cancel,jP,f,bytesLess_eq]at this;simpa using this
 have J:ms.Nodup:=D.imp λh=>λe=>List.lt_irrefl _ (e▸h)
 have:=sub_len (ns:=l.map (·.Xh)) J λm hm=>by
  obtain⟨k,j⟩:=List.getElem?_of_mem hm;have:=(q k m j).1;unfold dB_ at this;obtain⟨u,C,G⟩:=zf.1 this;exact zQ.2 ⟨u,C,by simpa[c8_]using G⟩
 simpa using this
theorem checkU_small{l:List Xb}(h:eZ_ l=0):smallM l:=by
 unfold eZ_ at h;split at h
 .cases h
 rename_i s;have q:bk_ (gC l) 0 l=none:=by
  cases j:bk_ (gC l) 0 l with
  | none=>rfl
  | some r =>
   rw[j]at h;obtain rfl:r=0:=h;obtain⟨i,x,_,m,_⟩:=oN_ j;have:=gC_ne l (0+i) x;rw[m]at this;cases this
 intro u p;obtain⟨i,hi⟩:=List.getElem?_of_mem p;have f:=scan_none.1 q i u hi;unfold gC at f;split at f
 .cases f
 split at f
 .cases f
 split at f
 .cases f
 split at f
 .cases f
 rename_i hm;have:=mem_few (l:=l) (ms:=u.Yp) (by simpa using hm);omega
theorem new_both{u:List Xb}{root:Str}(j:u.length<=1000)(D:fitM u)(f:mq_ u)(hr:root.length<=9223372036854775807):(∃s e,e≠0/\eN_ u [] root 0=some (s,e)/\∃t,hI_ u [] root 0=some (t,e))\/∃s,eN_ u [] root 0=some (s,0)/\hI_ u [] root 0=some (s,0)/\FileOK s/\SizeOK s/\s.Xg.Xz.length=1/\s.Xa.length=0:=by
 cases m:eZ_ u != 0 with
 | true =>
  refine .inl ⟨zeroS,eZ_ u,by simpa using m,?_,zeroS,?_⟩
  .unfold eN_;exact aa_ (rk_ u j D f) (af_ m rfl)
  .unfold hI_;exact aa_ (pW_ u j D f) (af_ m rfl)
 | false =>
  have hm:smallM u:=checkU_small (by simpa using m);have p:pY_ ([]:List Xe):=λq h=>nomatch h
  have C:=new_eq u [] root 0 j hm f (qq _) p hr;have y:=ref_new_eq u [] root 0 j hm f (qq _) p hr;by_cases x:(go_ u [] root 0).2=0
  .obtain⟨F,G⟩:=new_ok x;have es:go_ u [] root 0=(Xj.mk u [] (newT root (av_ 0)) [],0):=Prod.ext G x;rw[es]at C y;rw[G]at F;exact .inr ⟨_,C,y,F,⟨j,hm,f,qq _,p,by show 1<=1024;omega,qq _⟩,rfl,rfl⟩
  .exact .inl ⟨_,_,x,C,_,y⟩
theorem stNew_ok(n:Int):StOK (Xx.mk (br_ (bN_ n 1) 4096) []):=by
 refine⟨?_,?_,?_,λb h=>(nomatch h),List.nodup_nil⟩
 .show 1<=br_ (bN_ n 1) 4096;unfold br_ bN_;split<;>split<;>omega
 .show br_ (bN_ n 1) 4096<=4096;unfold br_;split<;>omega
 .show(0:Int)<=br_ (bN_ n 1) 4096;unfold br_ bN_;split<;>split<;>omega
noncomputable def playR:List Zx->Xw->Out (Xw×Xw) Bool
 | [],s => .fall (s,s)
 | o::os,s=>bif p6_ o then(match jU_ s o with|some y=>playR os y.1|none => .ret true)else .ret true
theorem play_ends:∀(os:List Zx) (s:Xw),Ok17 s->SizeOK s.Xf->(∀o∈os,Fit te (.st op17N) o)->s.Xf.Xg.Xz.length+os.length<=100->s.Xf.Xa.length+os.length<=100->playR os s = .ret true\/∃s',playR os s = .fall (s',s')/\Ok17 s'/\SizeOK s'.Xf/\s'.Xf.Xg.Xz.length<=100
 | [],s,h,z,_,m,_ => .inr ⟨s,rfl,h,z,m⟩
 | o::os,s,h,z,p,m,y=>by
  simp only[qLc]at m y;unfold playR;cases u:p6_ o with
  | false=>exact .inl rfl
  | true =>
   have f:=p o qD;obtain⟨t,n,e,C,_,j⟩:=vR_ h z (op_ok f u) (op_id f);rw[C];have F:=j.nl;have D:=j.el;exact play_ends os t j.ok (j.size z (by omega) (by omega)) (λx q=>p x (qC _ q)) (by omega) (by omega)
theorem users_fit{l:List Xb}(h:Fit te (.sl (.st 0)) l):mq_ l/\fitM l:=⟨λu f=>((h 1).1.2 u f).1,λu f=>((h 1).1.2 u f).2.2.1⟩
theorem ops_fit{l:List Zx}(h:Fit te (.sl (.st op17N)) l):∀o∈l,Fit te (.st op17N) o:=λo f d=>(h (d+1)).1.2 o f
theorem rt_(x0:List Xb)(D:Str)(m:Int)(j:List Zx)(h0:Fit te (.sl (.st 0)) x0)(_:Fit te .str D)(_:Fit te (.int .i64) m)(h3:Fit te (.sl (.st op17N)) j):e3_ x0 D m j=some true:=by
 obtain⟨hs,hf⟩:=users_fit h0;have ho:=ops_fit h3;unfold e3_;rw[ua_];cases hc:(decide ((x0.length:Int)>10)||decide ((D.length:Int)>200))||(decide ((j.length:Int)>20))with
 | true=>exact af_ rfl rfl
 | false =>
  simp only[qh,qDf]at hc;refine ab_ rfl ?_;rcases new_both (u:=x0) (root:=D) (by omega) hf hs (by omega)with⟨s,e,Z,e1,t,e2⟩|⟨S,e1,e2,f0,z0,n0,M⟩
  .refine aa_ e1 (aa_ e2 (af_ (by simpa using Z) (aa_ (a:=true) (af_ (by simp) rfl) rfl)))
  .refine aa_ e1 (aa_ e2 (ab_ rfl ?_));obtain⟨U,O⟩:=New_both z0 m;have F:Ok17 (Xw.mk S (Xx.mk (br_ (bN_ m 1) 4096) []) []):=⟨qq _,f0,stNew_ok m,λx h=>(nomatch h),λi x y _ h=>by simp at h,λx h=>(nomatch h)⟩;obtain⟨s0,U,O,F,V⟩:∃s0,ap_ S m=some s0/\ao_ S m=some s0/\Ok17 s0/\s0.Xf=S:=⟨_,U,O,F,rfl⟩;refine aa_ (a:=(s0,s0)) (by simp only[U,O,ot_,qBs]) ?_;have z:SizeOK s0.Xf:=by rw[V];exact z0
   have hn:s0.Xf.Xg.Xz.length=1:=by rw[V];exact n0
   have he:s0.Xf.Xa.length=0:=by rw[V];exact M
   have p:am_ (cu_ j) BIG (0,s0,s0)=some (playR j s0):=by
    refine fE_ (body:=cu_ j) (J:=λi st r=>∃s,st=((i:Int),s,s)/\Ok17 s/\SizeOK s.Xf/\s.Xf.Xg.Xz.length<=1+i/\s.Xf.Xa.length<=i/\r=playR (j.drop i) s) j.length (bz_ (by omega)) (λst r hJ => ?_) (λi st r hi hJ => ?_) ⟨s0,rfl,F,z,by omega,by omega,rfl⟩
    .obtain⟨s,rfl,_,_,_,_,rfl⟩:=hJ;unfold cu_;simp only;rw[bC_,List.drop_length];rfl
    .obtain⟨s,rfl,f,zz,hn,he,rfl⟩:=hJ;rw[zV hi];have C:=ho _ (qr hi);cases q:p6_ j[i]with
     | false =>
      refine .inl ?_;unfold cu_ playR;simp only;rw[bm_ hi,au_ hi,q,ua_];exact af_ rfl (aa_ rfl (aa_ (a:=false) (qH some q) (af_ rfl rfl)))
     | true =>
      obtain⟨t,n,e,d1,d2,G⟩:=vR_ f zz (op_ok C q) (op_id C);have a1:=G.nl;have a2:=G.el;refine .inr ⟨(((i+1:Nat):Int),t,t),?_,t,rfl,G.ok,G.size zz (by omega) (by omega),by omega,by omega,by show(bif p6_ j[i]then(match jU_ s j[i]with|some y=>playR (j.drop (i+1)) y.1|none => .ret true)else .ret true)=_;rw[q,d1];rfl⟩;unfold cu_;simp only;rw[bm_ hi,au_ hi,aw_ (by omega),ua_];exact af_ rfl (aa_ rfl (aa_ (a:=true) (qH some q) (ab_ rfl (aa_ rfl (aa_ d1 (aa_ rfl (aa_ d2 (ab_ (by simp) rfl))))))))
   refine aa_ p ?_;rcases play_ends j s0 F z ho (by omega) (by omega)with Y|⟨s',Y,kp,zp,np⟩
   .rw[Y]
   .rw[Y];exact aa_ (same17 (kp.tot zp) (qk np (by decide))) rfl
end Go.Proofs.YtebokaoegomboaaGreatDoor
