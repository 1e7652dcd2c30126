/-
 What the statements of this seat hang on,part 10: Hzb Hzc Hzd Vb Vc Ta Tb Tc Td Tg Th Ti.
-/
import Derived.Test.YtokncnjohiobcaaGreatDoorXA9
namespace Go.Proofs.YtokncnjohiobcaaGreatDoor
open Go.Rt Go.RowKit
theorem s5_(n:Xx){R:Type}(k:Int->tO R):(Option.bind ((dv_ n).bind λf=>bif f then some 3 else some 1) k)=k (aQ_ n):=by
 rw[vn_];unfold aQ_;by_cases h:n.Xg>=2147483648
 .simp[h]
 .simp[h]
theorem s6_{α:Type}{l:tL α}{i:Nat}{x:α}{j:tL α}(h:l.drop i=x::j):l[i]? = some x/\l.drop (i+1)=j/\i<l.length:=by
 have hi:i<l.length:=by
  rcases qb i l.length with f|f
  .exact f
  .rw[List.drop_of_length_le f]at h;cases h
 rw[zM hi]at h;injection h with h1 m;exact⟨by rw[qQ hi,h1],m,hi⟩
theorem s7_(s:tR):∀(f a:Nat) {l:tL (Xx×Yl)},gm_ s f a=some l->l.length<=f
 | 0,a,l,h=>by cases h
 | f+1,a,l,h=>by
  unfold gm_ at h;split at h
  .obtain⟨q,_,h⟩:=qOb.1 h;obtain⟨j,h1,rfl⟩:=Option.map_eq_some_iff.1 h;have:=s7_ s f _ h1;simp;omega
  .obtain rfl:=qSj h;simp
theorem add_P {s:Xs} (hs:StOK s):∀(f m:Nat) {ns:tL Xx} {seen:tL tR} {most:Int} {n:Xx} {r:Yl},f<=m->(most-(ns.length:Int)).toNat<f->most<=1024->seen.length<=1057*ns.length+2 ->
  ∃e b rd,aR_ m (Yq.mk ns most) (Xy.mk s seen) (Yv.mk n r)=some (e,b,rd)/\e=(bt_ s f n r (most-(ns.length:Int))).2.2/\(e=0->b=Yq.mk (ns++(bt_ s f n r (most-(ns.length:Int))).1) most/\rd=Xy.mk s (seen++(bt_ s f n r (most-(ns.length:Int))).2.1))
 | 0,_,ns,seen,most,n,r,_,hf,_,_=>by omega
 | f + 1, m,ns,seen,most,n,r,hm,hf,G,ZX=>by
  obtain⟨m,rfl⟩:∃m',m=m'+1:=⟨m-1,by omega⟩;show ∃e b rd,ba_ (aR_ m) _ _ _=some (e,b,rd)/\_;unfold bt_;by_cases hl:most-(ns.length:Int)<1
  .rw[qY hl];refine⟨2,Yq.mk ns most,Xy.mk s seen,?_,rfl,λe=>by cases e⟩;unfold ba_;exact an_ (by simp only[qDe];omega) rfl
  .rw [qG hl];obtain⟨ZU,ZV⟩:=le_ hs (aQ_ n) r;have j:∀{R:Type} (X Y:R),(bif decide ((ns.length:Int)>=most)then X else Y)=Y:=λX Y=>by
    have:decide ((ns.length:Int)>=most)=false:=by simp only[qDf];omega
    rw[this];rfl
   have y:=contents_eq hs (aQ_ n) r (seen:=seen) (by omega);by_cases hc:(aD_ s (aQ_ n) r).2.2=0
   .rw [qY hc];by_cases hd:n.Xg>=2147483648
    .rw [qY hd];have x:dv_ n=some true:=by rw[vn_];simp[hd]
     -- the entries
     obtain⟨o,o1,o2⟩:=P_entries (s:=(aD_ s (aQ_ n) r).1) (by omega) ((aD_ s (aQ_ n) r).1.length+1) 0 [] (d:=Yc.mk (aD_ s (aQ_ n) r).1 0 false) ⟨rfl,rfl,0,rfl,qv _,λb hb=>qSj hb⟩ (qv _) (by omega) (by simp);have O:gk_ (aD_ s (aQ_ n) r).1=some (o.2,!o.1.Jx):=by
      unfold gk_;exact ae_ (hg_ o1 (jA (cp_ (by omega)))) rfl
     have F:room 128 ns [n]=some (ns++[n]):=cL_ (by simp;omega) (by simp;omega);have u:∀{R:tO (Int×Yq×Xy)},(Option.bind (bif(!(!o.1.Jx))then some true else(aL_ o.2 (λ(u1:Yv)=>Option.bind (bX_ u1 (Yv.mk n r)) λ(v1:tV)=>some v1)).bind λy7=>some y7) λ(y8:tV)=>bif y8 then some (2,(Yq.mk (ns++[n]) most),Xy.mk s (seen++(aD_ s (aQ_ n) r).2.1))else(aj_ (br_ (o.2,!o.1.Jx) (aR_ m)) BIG (0,most,s.Zn,s.Xp,seen++(aD_ s (aQ_ n) r).2.1,ns++[n],o.2)).bind λD=>match D with
       | .ret r2=>some r2
       | .fall o2=>some (0,(Yq.mk o2.2.2.2.2 o2.1),(Xy.mk (Xs.mk o2.2.1 o2.2.2.1) o2.2.2.2.1)))=R->ba_ (aR_ m) (Yq.mk ns most) (Xy.mk s seen) (Yv.mk n r)=R:=λhR=>by
      unfold ba_;simp only[j,s5_];refine ae_ y (am_ (by simp[hc]) (ae_ x (am_ rfl (ae_ F (ae_ O hR)))))
     cases hE:gm_ (aD_ s (aQ_ n) r).1 ((aD_ s (aQ_ n) r).1.length+1) 0 with
     | none=>
      rw[hE]at o2;have hk:hh_ (aD_ s (aQ_ n) r).1 n.Id_ ((aD_ s (aQ_ n) r).1.length+1) 0=none:=by unfold hh_;rw[hE];rfl
      rw[hk];exact⟨_,_,_,u (ae_ (a:=true) (an_ (by rw[o2];rfl) rfl) (an_ rfl rfl)),rfl,λe=>by cases e⟩
     | some l=>
      rw[hE]at o2;obtain⟨o3,o4⟩:=o2;rw[jD]at o4;have ZW:=s7_ _ _ _ hE;have h:=add_kids (l:=l) (n:=n) (r:=r) (by omega);cases p:l.all (λq=>q.1.Xn==n.Id_)with
      | false=>
       have hk:hh_ (aD_ s (aQ_ n) r).1 n.Id_ ((aD_ s (aQ_ n) r).1.length+1) 0=none:=by unfold hh_;rw[hE];simp[p]
       rw[hk];rw[p]at h;refine⟨_,_,_,u (ae_ (a:=true) (am_ (by rw[o3];rfl) ?_) (an_ rfl rfl)),rfl,λe=>by cases e⟩;rw[o4];exact ae_ h rfl
      | true=>
       have hk:hh_ (aD_ s (aQ_ n) r).1 n.Id_ ((aD_ s (aQ_ n) r).1.length+1) 0=some l:=by unfold hh_;rw[hE];simp[p]
       rw[hk];rw[p]at h;have J:∀(V:tL (Xx×Yl)) (i:Nat) (acc:tL Xx×tL tR),l.drop i=V->i<=l.length->1<=acc.1.length->(acc.1.length:Int)<=most-(ns.length:Int)->acc.2.length<=1057*acc.1.length ->
         ∃w,aj_ (br_ (l.map ev_,true) (aR_ m)) (V.length+1) ((i:Int),most,s.Zn,s.Xp,seen++acc.2,ns++acc.1,l.map ev_)=some w/\(match cc_ (fG (bt_ s f) (most-(ns.length:Int))) acc V with
          | .inl a=>w = .fall (most,s.Zn,s.Xp,seen++a.2,ns++a.1)
          | .inr e=>e.2.2≠0/\∃b rd,w = .ret (e.2.2,b,rd)):=by
        intro V
        induction V with
        | nil=>
         intro i acc U hi _ _ _;have:i=l.length:=by
          have:=qM List.length U;simp at this;omega
         subst this;refine⟨.fall (most,s.Zn,s.Xp,seen++acc.2,ns++acc.1),bD_ ?_,by simp[cc_]⟩;unfold br_;exact am_ (by simp) rfl
        | cons q V ih=>
         intro i acc U hi a1 a2 a3;obtain⟨g1,g2,g3⟩:=s6_ U;obtain⟨e,b,rd,k1,k2,k3⟩:=add_P hs f m (ns:=ns++acc.1) (seen:=seen++acc.2) (most:=most) (n:=q.1) (r:=q.2) (by omega) (by simp;omega) G (by simp;omega);have M:most-((ns++acc.1).length:Int)=most-(ns.length:Int)-(acc.1.length:Int):=by simp;omega
         rw[M]at k2 k3;have C:ah_ (l.map ev_) (i:Int)=some (Yv.mk q.1 q.2):=by rw[gL_,qt,g1];rfl
         simp only[cc_];unfold fG;by_cases h0:(bt_ s f q.1 q.2 (most-(ns.length:Int)-(acc.1.length:Int))).2.2=0
         .rw[qY h0];obtain⟨k4,k5⟩:=k3 (k2.trans h0);obtain⟨c1,c2,c3⟩:=mv_ hs f h0;obtain⟨w,w1,Z⟩:=ih (i+1) (acc.1++(bt_ s f q.1 q.2 (most-(ns.length:Int)-(acc.1.length:Int))).1,acc.2++(bt_ s f q.1 q.2 (most-(ns.length:Int)-(acc.1.length:Int))).2.1) g2 (by omega) (by simp;omega) (by simp;omega) (by simp;omega);refine⟨w,dH_ ?_ w1,Z⟩;unfold br_;refine an_ (by simp;omega) (ae_ C (ae_ k1 (am_ (by rw[k2,h0];rfl) ?_)));rw[k4,k5,aS_ (by omega),qy,qy]
         .rw[qG h0];refine⟨.ret (e,b,rd),bD_ ?_,h0,b,rd,by rw[k2]⟩;unfold br_;exact an_ (by simp;omega) (ae_ C (ae_ k1 (an_ (by rw[k2];simpa using h0) rfl)))
       obtain⟨w,w1,Z⟩:=J l 0 ([n],(aD_ s (aQ_ n) r).2.1) (by simp) (qv _) (by simp) (by simp;omega) (by simp;omega);have ZY:=hg_ w1 (show l.length+1<=BIG from jA (cp_ (by omega)));have ZZ:∀{R},((some w:tO (Out (Int×Int×tL Zx×tL tR×tL Xx) (Int×Yq×Xy))).bind λD=>match D with
         | .ret r2=>some r2
         | .fall o2=>some (0,(Yq.mk o2.2.2.2.2 o2.1),(Xy.mk (Xs.mk o2.2.1 o2.2.2.1) o2.2.2.2.1)))=R->ba_ (aR_ m) (Yq.mk ns most) (Xy.mk s seen) (Yv.mk n r)=R:=λhR=>by
        refine u (ae_ (a:=false) (am_ (by rw[o3];rfl) ?_) (am_ rfl ?_))
        .rw[o4];exact ae_ h rfl
        .rw[o4,o3];have w1'':aj_ (br_ (l.map ev_,!false) (aR_ m)) BIG (0,most,s.Zn,s.Xp,seen++(aD_ s (aQ_ n) r).2.1,ns++[n],l.map ev_)=some w:=ZY;rw[w1''];exact hR
       cases hr:cc_ (fG (bt_ s f) (most-(ns.length:Int))) ([n],(aD_ s (aQ_ n) r).2.1) l with
       | inl a=>
        rw[hr]at Z;subst Z;simp only[hr,outS];exact⟨_,_,_,ZZ rfl,rfl,λ_=>⟨rfl,rfl⟩⟩
       | inr e=>
        rw[hr]at Z;obtain⟨h0,b,rd,rfl⟩:=Z;simp only[hr,outS];exact⟨_,_,_,ZZ rfl,rfl,λe0=>absurd e0 h0⟩
    .rw[qG hd];have x:dv_ n=some false:=by rw[vn_];simp[hd]
     refine⟨0,Yq.mk (ns++[tE_ n (aD_ s (aQ_ n) r).1]) most,Xy.mk s (seen++(aD_ s (aQ_ n) r).2.1),?_,rfl,λ_=>⟨rfl,rfl⟩⟩;unfold ba_;simp only[j,s5_];exact ae_ y (am_ (by simp[hc]) (ae_ x (an_ rfl (ae_ (cL_ (by simp;omega) (by simp;omega)) rfl))))
   .rw[qG hc];refine⟨(aD_ s (aQ_ n) r).2.2,Yq.mk ns most,Xy.mk s (seen++(aD_ s (aQ_ n) r).2.1),?_,rfl,λe=>absurd e hc⟩;unfold ba_;simp only[j,s5_];exact ae_ y (an_ (by simpa using hc) rfl)
theorem get_R {s:Xs} (hs:StOK s):∀(f m:Nat) {n:Xx} {r:Yl} {left:Int},f<=m->left.toNat<f->left<=1024 ->
  ∃q,ce_ m s n r left=some q/\q.2=(bt_ s f n r left).2.2/\(q.2=0->q.1=(bt_ s f n r left).1)
 | 0,_,n,r,left,_,hf,_=>by omega
 | f + 1, m,n,r,left,hm,hf,ZX=>by
  obtain⟨m,rfl⟩:∃m',m=m'+1:=⟨m-1,by omega⟩;show ∃q,cE_ (ce_ m) s n r left=some q/\_;unfold bt_;by_cases hl:left<1
  .rw[qY hl];refine⟨([],2),?_,rfl,λe=>by cases e⟩;unfold cE_;exact ae_ (a:=true) (an_ (by simpa using hl) rfl) (an_ rfl rfl)
  .rw [qG hl];obtain⟨ZU,ZV⟩:=le_ hs (aQ_ n) r;cases J:fN_ r with
   | false=>
    have ZW:aD_ s (aQ_ n) r=([],[],2):=by unfold aD_;rw[J];rfl
    rw[ZW];refine⟨([],2),?_,rfl,λe=>by cases e⟩;unfold cE_;exact ae_ (a:=true) (am_ (by simpa using hl) (ae_ (nt_ r) (by rw[J];rfl))) (an_ rfl rfl)
   | true =>
    have u:∀{R},((bM_ n.Xg).bind λy3=>(bif(!y3)then(cV_ s 1 r).bind λy4=>some ([tE_ n y4.1],y4.2)else(cV_ s 3 r).bind λy5=>(bif(y5.2 !=0)then some ([],y5.2)else Option.bind (aj_ (bW_ y5 n) BIG ([],[],(Zg.mk y5.1 0 false))) λ(ZY:Out ((tL Xx)×(tL Yl)) ((tL Xx)×Int))=>match ZY with
      | .ret r1=>some r1
      | .fall o1=>(aj_ (cW_ (ce_ m) s left) BIG (0,o1.1,o1.2,[n])).bind λZZ=>match ZZ with
       | .ret r2=>some r2
       | .fall o2=>some (o2,0))))=R->cE_ (ce_ m) s n r left=R:=λhR=>by
     unfold cE_;exact ae_ (a:=false) (am_ (by simpa using hl) (ae_ (nt_ r) (by rw[J];rfl))) (am_ rfl hR)
    by_cases Y:n.Xg>=2147483648
    .have hk:aQ_ n=3:=qY Y;have h:bM_ n.Xg=some true:=by unfold bM_;simp[Y]
     rw[hk]at ZU ZV ⊢;have j:=oe_ hs (k:=3) (by omega) r;by_cases F:(aD_ s 3 r).2.2=0
     .rw [qY F,qY Y];have D:=hg_ (R_entries (s:=(aD_ s 3 r).1) (by omega) n (aD_ s 3 r).2.2 ((aD_ s 3 r).1.length+1) 0 [] [] (d:=Zg.mk (aD_ s 3 r).1 0 false) ⟨rfl,rfl,0,rfl,qv _,λb hb=>qSj hb⟩ (qv _) (by omega) (by simp) (by simp)) (show(aD_ s 3 r).1.length+1<=BIG from jA (cp_ (by omega)));cases G:hh_ (aD_ s 3 r).1 n.Id_ ((aD_ s 3 r).1.length+1) 0 with
      | none=>
       rw[G]at D;exact⟨([],2),u (ae_ h (am_ rfl (ae_ j (am_ (by simp[F]) (ae_ D rfl))))),rfl,λe=>by cases e⟩
      | some l=>
       rw[G]at D;have ZT:l.length<=(aD_ s 3 r).1.length+1:=by
        unfold hh_ at G;obtain⟨l',h1,h2⟩:=qOb.1 G;split at h2
        .obtain rfl:=qSj h2;exact s7_ _ _ _ h1
        .cases h2
       have M:∀(U:tL (Xx×Yl)) (i:Nat) (acc:tL Xx×tL tR),l.drop i=U->i<=l.length->1<=acc.1.length->(acc.1.length:Int)<=left ->
         ∃w,aj_ (cW_ (ce_ m) s left) (U.length+1) ((i:Int),l.map (·.1),l.map (·.2),acc.1)=some w/\(match cc_ (fG (bt_ s f) left) acc U with
          | .inl a=>w = .fall a.1
          | .inr e=>e.2.2≠0/\w = .ret ([],e.2.2)):=by
        intro U
        induction U with
        | nil=>
         intro i acc O hi _ _;have:i=l.length:=by
          have:=qM List.length O;simp at this;omega
         subst this;refine⟨.fall acc.1,bD_ ?_,by simp[cc_]⟩;unfold cW_;exact am_ (by simp) rfl
        | cons q U ih=>
         intro i acc O hi a1 a2;obtain⟨g1,g2,g3⟩:=s6_ O;have x:w64 (left-(acc.1.length:Int))=left-(acc.1.length:Int):=ao_ ⟨by omega,by omega⟩;obtain⟨p,k1,k2,k3⟩:=get_R hs f m (n:=q.1) (r:=q.2) (left:=left-(acc.1.length:Int)) (by omega) (by omega) (by omega);have C:ah_ (l.map (·.1)) (i:Int)=some q.1:=by rw[gL_,qt,g1];rfl
         have y:ah_ (l.map (·.2)) (i:Int)=some q.2:=by rw[gL_,qt,g1];rfl
         simp only[cc_];unfold fG;by_cases h0:(bt_ s f q.1 q.2 (left-(acc.1.length:Int))).2.2=0
         .rw[qY h0];have k4:=k3 (k2.trans h0);obtain⟨c1,c2,c3⟩:=mv_ hs f h0;obtain⟨w,w1,V⟩:=ih (i+1) (acc.1++(bt_ s f q.1 q.2 (left-(acc.1.length:Int))).1,acc.2++(bt_ s f q.1 q.2 (left-(acc.1.length:Int))).2.1) g2 (by omega) (by simp;omega) (by simp;omega);refine⟨w,dH_ ?_ w1,V⟩;unfold cW_;refine an_ (by simp;omega) (ae_ C (ae_ y (ae_ (by rw[x];exact k1) (am_ (by rw[k2,h0];rfl) (ae_ (a:=acc.1++(bt_ s f q.1 q.2 (left-(acc.1.length:Int))).1) (by rw[k4];exact cL_ (show acc.1.length+_<=_ by omega) (show(acc.1.length+_)*128<=_ by omega)) ?_)))));rw[aS_ (by omega)]
         .rw[qG h0];refine⟨.ret ([],p.2),bD_ ?_,h0,by rw[k2]⟩;unfold cW_;exact an_ (by simp;omega) (ae_ C (ae_ y (ae_ (by rw[x];exact k1) (an_ (by rw[k2];simpa using h0) rfl))))
       obtain⟨w,w1,V⟩:=M l 0 ([n],(aD_ s 3 r).2.1) (by simp) (qv _) (by simp) (by simp;omega);have Z:=hg_ w1 (show l.length+1<=BIG from jA (cp_ (by omega)));cases hr:cc_ (fG (bt_ s f) left) ([n],(aD_ s 3 r).2.1) l with
       | inl a=>
        rw[hr]at V;subst V;simp only[hr,outS];exact⟨(a.1,0),u (ae_ h (am_ rfl (ae_ j (am_ (by simp[F]) (ae_ D (ae_ Z rfl)))))),rfl,λ_=>rfl⟩
       | inr e=>
        rw[hr]at V;obtain⟨h0,rfl⟩:=V;simp only[hr,outS];exact⟨([],e.2.2),u (ae_ h (am_ rfl (ae_ j (am_ (by simp[F]) (ae_ D (ae_ Z rfl)))))),rfl,λe0=>absurd e0 h0⟩
     .rw[qG F];exact⟨([],(aD_ s 3 r).2.2),u (ae_ h (am_ rfl (ae_ j (an_ (by simpa using F) rfl)))),rfl,λe=>absurd e F⟩
    .have hk:aQ_ n=1:=qG Y;have h:bM_ n.Xg=some false:=by unfold bM_;simp[Y]
     rw[hk];have j:=oe_ hs (k:=1) (by omega) r;refine⟨([tE_ n (aD_ s 1 r).1],(aD_ s 1 r).2.2),u (ae_ h (an_ rfl (ae_ j rfl))),?_,λe=>?_⟩
     .split
      .rename_i F;exact F
      .rfl
     .have F:(aD_ s 1 r).2.2=0:=e;rw[qY F,qG Y]
def leN(x:Xx):tL Xx->Nat|[]=>0|y::l=>if y.Id_<=x.Id_ then leN x l+1 else 0
theorem leN_le(x:Xx):∀l,leN x l<=l.length
 | []=>qA _
 | y::l=>by
  unfold leN;have:=leN_le x l;split<;>simp<;>omega
theorem leN_lt(x:Xx):∀{l:tL Xx} {i:Nat} (h:i<l.length),i<leN x l->l[i].Id_<=x.Id_
 | y::l,0,_,hi=>by
  unfold leN at hi;split at hi
  .assumption
  .omega
 | y::l,i+1,h,hi=>by
  unfold leN at hi;split at hi
  .exact leN_lt x (l:=l) (i:=i) (by simpa using h) (by omega)
  .omega
theorem leN_at(x:Xx):∀{l:tL Xx} (h:leN x l<l.length),¬l[leN x l].Id_<=x.Id_
 | y::l,h=>by
  by_cases f:y.Id_<=x.Id_
  .have e:leN x (y::l)=leN x l+1:=by simp[leN,f]
   simp only[e]at h ⊢;exact leN_at x (l:=l) (by simpa using h)
  .have e:leN x (y::l)=0:=by simp[leN,f]
   simp only[e];exact f
def insA(out:tL Xx)(x:Xx):tL Xx:=out.take (leN x out)++[x]++out.drop (leN x out)
theorem insA_len(out:tL Xx)(x:Xx):(insA out x).length=out.length+1:=by
 have:=leN_le x out;unfold insA;simp;omega
theorem insA_perm(out:tL Xx)(x:Xx):(insA out x).Perm (x::out):=by
 unfold insA;rw[qy];have h:=List.perm_middle (a:=x) (l₁:=out.take (leN x out)) (l₂:=out.drop (leN x out));rw[zD]at h;exact h
theorem insA_sorted{out:tL Xx}(x:Xx)(h:out.Pairwise λa b=>leK (λn:Xx=>n.Id_) a b=true):(insA out x).Pairwise λa b=>leK (λn:Xx=>n.Id_) a b=true:=by
 have u:=leN_le x out;unfold insA;have f:=qr.1 h;rw[qy];refine List.pairwise_append.2 ⟨h.sublist (List.take_sublist _ _),List.pairwise_append.2 ⟨by simp,h.sublist (List.drop_sublist _ _),λa p b m=>?_⟩,λa p b m=>?_⟩
 .rw[qT]at p;subst p;obtain⟨j,q,e⟩:=List.getElem_of_mem m;rw[qk]at q;rw[List.getElem_drop]at e;have h1:=leN_at a (l:=out) (by omega);unfold leK;simp only[qDe];rw[←e];rcases qg j with h0|h0
  .subst h0;simp only[zl];omega
  .have:=f (leN a out) (leN a out+j) (by omega) (by omega) (by omega);unfold leK at this;simp only[qDe]at this;omega
 .obtain⟨i,hi,e⟩:=List.getElem_of_mem p;rw[qX]at hi;rw[List.getElem_take]at e;have h1:=leN_lt x (l:=out) (i:=i) (by omega) (by omega);rcases qW.1 m with m|m
  .rw[qT]at m;subst m;unfold leK;simp only[qDe];rw[←e];exact h1
  .obtain⟨j,q,s⟩:=List.getElem_of_mem m;rw[qk]at q;rw[List.getElem_drop]at s;rw[←e,←s];exact f i (leN x out+j) (by omega) (by omega) (by omega)
theorem sorted_step{out l:tL Xx}{i:Nat}(hi:i<l.length)(q:out.length<=1000000):aj_ (gg_ (out,(i:Int)) l) BIG 0=some ((leN l[i] out:Nat):Int):=by
 have m:=leN_le l[i] out;refine bv_ (T:=λj=>(j:Int)) (leN l[i] out) (cp_ (by omega)) (λj p=>?_) ?_
 .have f:j<out.length:=by omega
  unfold gg_;refine ae_ (a:=true) (an_ (fg_ f) (ae_ (bb_ f) (ae_ (bb_ hi) ?_))) (an_ rfl (by rw[aS_ (by omega)]));exact qM some (decide_eq_true (leN_lt l[i] f p))
 .unfold gg_;refine ae_ (a:=false) ?_ rfl;by_cases h:leN l[i] out<out.length
  .refine an_ (fg_ h) (ae_ (bb_ h) (ae_ (bb_ hi) ?_));exact qM some (decide_eq_false (leN_at l[i] h))
  .have:leN l[i] out=out.length:=by omega
   rw[this];exact am_ (fD_ _) rfl
theorem rC_{l:tL Xx}(F:l.length<=100000):∃y,jv_ l=some y/\y.Perm l/\y.Pairwise λa b=>leK (λn:Xx=>n.Id_) a b=true:=by
 have h:=loop_foldN (body:=gh_ l) l (λout _ x=>insA out x) (λi s=>(s,(i:Int))) (λi s=>s.length=i) (λs=>s) [] (cp_ (by omega)) rfl (λi s hi m=>?_) (λs m=>?_)
 .refine⟨_,ae_ h rfl,?_⟩;have C:∀(xs acc:tL Xx) (k:Nat),(acc.Pairwise λa b=>leK (λn:Xx=>n.Id_) a b=true)->(foldN (λout _ x=>insA out x) acc k xs).Perm (xs++acc)/\(foldN (λout _ x=>insA out x) acc k xs).Pairwise λa b=>leK (λn:Xx=>n.Id_) a b=true:=λxs=>by
   induction xs with
   | nil=>exact λacc k f=>⟨List.Perm.refl _,f⟩
   | cons x xs q=>
    intro acc k f;obtain⟨u,i2⟩:=q (insA acc x) (k+1) (insA_sorted x f);refine⟨u.trans ?_,i2⟩;refine((insA_perm acc x).append_left xs).trans ?_;exact List.perm_middle
  obtain⟨j,p⟩:=C l [] 0 List.Pairwise.nil;rw[zk]at j;exact⟨j,p⟩
 .have D:=leN_le l[i] s;refine⟨?_,by rw[insA_len,m]⟩;unfold gh_;refine an_ (fg_ hi) (ae_ (sorted_step (out:=s) hi (by omega)) (ae_ (a:=s.take (leN l[i] s)) ?_ (ae_ (a:=s.take (leN l[i] s)) ?_ (ae_ (bb_ hi) (ae_ (a:=s.take (leN l[i] s)++[l[i]]) ?_ (ae_ (a:=s.drop (leN l[i] s)) ?_ (ae_ (a:=insA s l[i]) ?_ (by rw[aS_ (by omega)]))))))))
  .show aA_ s 0 ((leN l[i] s:Nat):Int)=_;rw[cM_ (by omega) (by omega) (by omega),qTn];rfl
  .rw[cL_ (by simp;omega) (by simp;omega)];rfl
  .rw[cL_ (by simp;omega) (by simp;omega)]
  .show aA_ s ((leN l[i] s:Nat):Int) (s.length:Int)=_;rw[cM_ (by omega) (by omega) (by omega),qTn,qTn,List.take_length]
  .rw[cL_ (by simp;omega) (by simp;omega)];rfl
 .unfold gh_;exact am_ (fD_ _) rfl
theorem sorts_agree{l y z:tL Xx}(u:hy_ (λn:Xx=>n.Id_) l=some y)(s:jv_ l=some z)(C:l.length<=100000)(x:(l.map (·.Id_)).Nodup):y=z:=by
 obtain⟨f,q⟩:=ux_ u;obtain⟨z',h1,p,m⟩:=rC_ C;rw[s]at h1;obtain rfl:=qSj h1;refine pT_ (f.trans p.symm) q m λa F b D j h=>?_
 refine key_inj x a (f.subset F) b (f.subset D) ?_;unfold leK at j h;simp only[qDe]at j h;omega
def headD(d:tR):tO (Int×Int×Xx×Yl×Nat):=(nD d 4 0).bind λj=>(nD d 4 j.2).bind λh=>(entD d h.2).map λf=>(j.1,h.1,f.1,f.2.1,f.2.2)
theorem P_head{d:tR}(hd:d.length<=1024):∃j d1 v2 d2 x h,aB_ (Yc.mk d 0 false) 4=some (j,d1)/\aB_ d1 4=some (v2,d2)/\cl_ d2=some (x,h)/\(match headD d with
  | none=>h.Jx=true
  | some q=>h.Jx=false/\h.at_=(q.2.2.2.2:Int)/\j=q.1/\v2=q.2.1/\x=Yv.mk q.2.2.1 q.2.2.2.1):=by
 have h0:DS d (some 0) (Yc.mk d 0 false):=⟨rfl,rfl,0,rfl,qv _,λb G=>qSj G⟩;obtain⟨j,d1,Z,Y,U⟩:=ld_ (by omega) h0 (w:=4) (by omega) (by omega);obtain⟨v2,d2,a2,V,D⟩:=ld_ (by omega) Y (w:=4) (by omega) (by omega);obtain⟨x,h,a3,f,C⟩:=d_entry (by omega) V;refine⟨j,d1,v2,d2,x,h,Z,a2,a3,?_⟩;unfold headD;cases y:nD d 4 0 with
 | none=>
  simp only[qBs,y,zI,Option.bind_none]at f;exact f.2.1
 | some p=>
  simp only[qBs,y,qS]at f D C ⊢;cases u:nD d 4 p.2 with
  | none=>
   simp only[u,zI,Option.bind_none]at f;exact f.2.1
  | some m=>
   simp only[qBs,u,qS]at f C ⊢;cases s:entD d m.2 with
   | none=>
    simp only[s,zI]at f;exact f.2.1
   | some F=>
    simp only[s,qS]at f ⊢;obtain⟨_,O,a,M,_,J⟩:=f;exact⟨O,by rw[M,J _ rfl],U 0 p rfl y,D p.2 m rfl u,C m.2 F rfl s⟩
theorem R_head{d:tR}(Z:d.length<=1024):∃j d1 v2 d2 n r h,az_ (Zg.mk d 0 false) 4=some (j,d1)/\az_ d1 4=some (v2,d2)/\dW_ d2=some (n,r,h)/\(match headD d with
  | none=>h.Zy=true
  | some q=>h.Zy=false/\h.At_=(q.2.2.2.2:Int)/\j=q.1/\v2=q.2.1/\n=q.2.2.1/\r=q.2.2.2.1):=by
 have h0:RS d (some 0) (Zg.mk d 0 false):=⟨rfl,rfl,0,rfl,qv _,λb F=>qSj F⟩;obtain⟨j,d1,Y,V,O⟩:=j2_ (by omega) h0 (w:=4) (by omega) (by omega);obtain⟨v2,d2,a2,U,C⟩:=j2_ (by omega) V (w:=4) (by omega) (by omega);obtain⟨n,r,h,a3,f,y⟩:=r_entry (by omega) U;refine⟨j,d1,v2,d2,n,r,h,Y,a2,a3,?_⟩;unfold headD;cases x:nD d 4 0 with
 | none=>
  simp only[qBs,x,zI,Option.bind_none]at f;exact f.2.1
 | some p=>
  simp only[qBs,x,qS]at f C y ⊢;cases u:nD d 4 p.2 with
  | none=>
   simp only[u,zI,Option.bind_none]at f;exact f.2.1
  | some m=>
   simp only[qBs,u,qS]at f y ⊢;cases s:entD d m.2 with
   | none=>
    simp only[s,zI]at f;exact f.2.1
   | some D=>
    simp only[s,qS]at f ⊢;obtain⟨_,M,a,J,_,G⟩:=f;obtain⟨f1,f2⟩:=y m.2 D rfl s;exact⟨M,by rw[J,G _ rfl],O 0 p rfl x,C p.2 m rfl u,f1,f2⟩
theorem entsF_all(s:tR):∀(f a:Nat) {l:tL (Xx×Yl)},a<=s.length->gm_ s f a=some l->∀q∈l,q.1.Xg<=9223372036854775807/\q.1.Xk.length<=s.length
 | 0,a,l,_,h=>by cases h
 | f+1,a,l,u,h=>by
  unfold gm_ at h;split at h
  .obtain⟨q,m,h⟩:=qOb.1 h;obtain⟨D,h1,rfl⟩:=Option.map_eq_some_iff.1 h;obtain⟨C,F,y,x⟩:=tD_ u m;intro p j;rcases qV.1 j with rfl|j
   .exact⟨y,x⟩
   .exact entsF_all s f _ C h1 p j
  .obtain rfl:=qSj h;intro p j;cases j
abbrev SmN(n:Xx):Prop:=n.Xg<=9223372036854775807/\n.Xk.length<=9223372036854775807
theorem getN_all {s:Xs} (C:StOK s):∀(f:Nat) {n:Xx} {r:Yl} {left:Int},SmN n->∀x∈(bt_ s f n r left).1,SmN x
 | 0,n,r,left,_,x,hx=>by cases hx
 | f + 1,n,r,left,D,x,hx=>by
  obtain⟨G,_⟩:=le_ C (aQ_ n) r;unfold bt_ at hx;split at hx
  .cases hx
  .split at hx
   .split at hx
    .split at hx
     .cases hx
     .rename_i l F;have p:∀q∈l,SmN q.1:=by
       unfold hh_ at F;obtain⟨O,h1,u⟩:=qOb.1 F;split at u
       .obtain rfl:=qSj u;intro q m;have:=entsF_all _ _ _ (qv _) h1 q m;exact⟨this.1,by omega⟩
       .cases u
      have hi:=s4_ (f:=fG (bt_ s f) left) (λ_ acc=>∀y∈acc.1,SmN y) (λe=>e.1=[]) (xs:=l) (k:=0) (s0:=([n],(aD_ s (aQ_ n) r).2.1)) (λy j=>by rw[qT]at j;rw[j];exact D) λi acc q m J=>by
       unfold fG;refine⟨λM h=>?_,λe h=>?_⟩
       .split at h
        .obtain rfl:=jL h;intro y j;rcases qW.1 j with j|j
         .exact J y j
         .exact getN_all C f (p q m) y j
        .cases h
       .split at h
        .cases h
        .obtain rfl:=Sum.inr.inj h;rfl
      cases hr:cc_ (fG (bt_ s f) left) ([n],(aD_ s (aQ_ n) r).2.1) l with
      | inl acc=>
       rw[hr]at hx;exact hi.1 acc hr x hx
      | inr e=>
       rw[hr]at hx;have h:=hi.2 e hr;simp only[outS,h]at hx;cases hx
    .rw[qT]at hx;rw[hx];exact D
   .cases hx
theorem entD_small{s:tR}{a:Nat}{q:Xx×Yl×Nat}(f:a<=s.length)(j:s.length<=9223372036854775807)(h:entD s a=some q):SmN q.1:=by
 have:=tD_ f h;exact⟨this.2.2.1,by omega⟩
theorem tree_both {s:Xs} (M:StOK s) (sc:tR):∃T E rd,d3_ (Xy.mk s []) sc=some (T,E,rd)/\du_ s sc=some (T,E)/\T.Xz.length<=1024 /\
  (E=0->OkT T.Xz T.Xf/\∃next many n r a3,(blk s sc 4).2=0/\headD (blk s sc 4).1=some (next,many,n,r,a3)/\many<=1024/\(bt_ s 1025 n r many).2.2=0/\rd=Xy.mk s ([sc]++(bt_ s 1025 n r many).2.1)/\next=T.Xf/\many=(T.Xz.length:Int)/\a3=(blk s sc 4).1.length/\(bt_ s 1025 n r many).1.Perm T.Xz):=by
 have ZX:=pU_ M sc 4;have m:=gl_ M sc 4 (seen:=[]) (by simp);have ZZ:=ns_ M sc (k:=4) (by omega);unfold d3_ du_;by_cases h0:(blk s sc 4).2=0
 .rw [qY h0]at m;obtain⟨v1,d1,v2,d2,x,d3,p1,p2,p3,p4⟩:=P_head ZX;obtain⟨w1,e1,f,e2,n,r,e3,q1,q2,q3,q4⟩:=R_head ZX;have err:∀{X:tO (Xb×Int×Xy)} {Y:tO (Xb×Int)},((d3.Jx||(d3.at_ !=((blk s sc 4).1.length:Int)))||decide (v2<1)||decide (v2>1024))=true->((e3.Zy||(e3.At_ !=((blk s sc 4).1.length:Int)))||decide (f<1)||decide (f>1024))=true ->
    ∃T E rd,(bif((d3.Jx||(d3.at_ !=((blk s sc 4).1.length:Int)))||decide (v2<1)||decide (v2>1024))then some (Xb.mk 0 [],2,Xy.mk s ([]++[sc]))else X)=some (T,E,rd)/\(bif((e3.Zy||(e3.At_ !=((blk s sc 4).1.length:Int)))||decide (f<1)||decide (f>1024))then some (Xb.mk 0 [],(2:Int))else Y)=some (T,E)/\T.Xz.length<=1024 /\
     (E=0->OkT T.Xz T.Xf/\∃next many n r a3,(blk s sc 4).2=0/\headD (blk s sc 4).1=some (next,many,n,r,a3)/\many<=1024/\(bt_ s 1025 n r many).2.2=0/\rd=Xy.mk s ([sc]++(bt_ s 1025 n r many).2.1)/\next=T.Xf/\many=(T.Xz.length:Int)/\a3=(blk s sc 4).1.length/\(bt_ s 1025 n r many).1.Perm T.Xz):=λha U=>
   ⟨Xb.mk 0 [],2,Xy.mk s ([]++[sc]),an_ ha rfl,an_ U rfl,by simp,λe=>by cases e⟩
  have pre:∀{A:tO (Xb×Int×Xy)} {B:tO (Xb×Int)} {A':tO (Xb×Int×Xy)} {B':tO (Xb×Int)} {P:Xb->Int->Xy->Prop},A=A'->B=B'->(∃T E rd,A'=some (T,E,rd)/\B'=some (T,E)/\P T E rd)->∃T E rd,A=some (T,E,rd)/\B=some (T,E)/\P T E rd:=λha U h=>by rw[ha,U];exact h
  refine pre (ae_ m (am_ rfl (ae_ p1 (ae_ p2 (ae_ p3 rfl))))) (ae_ ZZ (am_ (by simp[h0]) (ae_ q1 (ae_ q2 (ae_ q3 rfl))))) ?_;cases j:headD (blk s sc 4).1 with
  | none=>
   rw[j]at p4 q4;exact j▸err (by simp[p4]) (by simp[q4])
  | some q=>
   obtain⟨next,many,n',r',a3⟩:=q;rw[j]at p4 q4;obtain⟨p5,p6,rfl,rfl,rfl⟩:=p4;obtain⟨q5,q6,rfl,rfl,rfl,rfl⟩:=q4;simp only at *
   by_cases hc:(a3:Int)≠((blk s sc 4).1.length:Int)\/f<1\/f>1024
   .refine pre (an_ ?_ rfl) (an_ ?_ rfl) ⟨Xb.mk 0 [],2,_,rfl,rfl,by simp,λe=>by cases e⟩
    .simp[p5,p6];omega
    .simp[q5,q6];omega
   .refine pre (am_ ?_ rfl) (am_ ?_ rfl) ?_
    .simp[p5,p6];omega
    .simp[q5,q6];omega
    .have ZV:SmN n:=by
      unfold headD at j;obtain⟨z1,O,j⟩:=qOb.1 j;obtain⟨z2,y2,j⟩:=qOb.1 j;obtain⟨z3,y3,j⟩:=Option.map_eq_some_iff.1 j;simp only[qC]at j;rw[←j.2.2.1];have F:=lc_ (qv _) O;have b2:=lc_ F.1 y2;exact entD_small b2.1 (by omega) y3
     obtain⟨e,b,rd,k1,V,k3⟩:=add_P M 1025 BIG (ns:=[]) (seen:=[]++[sc]) (most:=f) (n:=n) (r:=r) (by decide) (by simp;omega) (by omega) (by simp);obtain⟨p,g1,g2,g3⟩:=get_R M 1025 BIG (n:=n) (r:=r) (left:=f) (by decide) (by omega) (by omega);have hz:f-(([]:tL Xx).length:Int)=f:=by simp
     rw[hz]at V k3;by_cases u:(bt_ s 1025 n r f).2.2=0
     .obtain⟨rfl,rfl⟩:=k3 (V.trans u);have g4:=g3 (g2.trans u);obtain⟨c1,c2,c3⟩:=mv_ M 1025 u;have D:=getN_all M 1025 (r:=r) (left:=f) ZV;simp only[jD]at k1;obtain⟨y,hy⟩:∃y,hy_ (λn:Xx=>n.Id_) (bt_ s 1025 n r f).1=some y:=⟨_,by unfold hy_;rw[qY (by omega)]⟩;obtain⟨z,Z,G,ZR⟩:=rC_ (l:=(bt_ s 1025 n r f).1) (by omega);obtain⟨O,y2⟩:=ux_ hy;have ZQ:=O.length_eq;have ZS:=G.length_eq;refine pre (ae_ k1 (am_ (by rw[V,u];rfl) (ae_ hy rfl))) (ae_ g1 (am_ (by rw[g2,u];rfl) (ae_ (by rw[g4];exact Z) rfl))) ?_;by_cases ZT:((bt_ s 1025 n r f).1.length:Int)=f
      .obtain⟨F,t1,t2⟩:=yL_ (Xb.mk w1 y) (by show y.length<=1024;omega) (λx hx=>D x (O.subset hx));obtain⟨b2,t3,t4⟩:=j1_ (Xb.mk w1 z) (by show z.length<=1024;omega) (λx hx=>D x (G.subset hx));have ZY:∀{l:tL Xx} {nx:Int},OkT l nx->(l.map (·.Id_)).Nodup:=λh=>by
        rw[List.nodup_iff_pairwise_ne,List.pairwise_map];exact h.srt.imp λh e=>by omega
       have J:(F=true\/b2=true)->y=z:=λh=>by
        refine sorts_agree hy Z (by omega) ?_;rcases h with h|h
        .exact(O.map _).nodup_iff.1 (ZY (t2.1 h))
        .exact(G.map _).nodup_iff.1 (ZY (t4.1 h))
       have ZU:F=b2:=by
        cases C:F with
        | true=>
         have:=J (.inl C);subst this;exact(t4.2 (t2.1 C)).symm
        | false=>
         cases ZW:b2 with
         | false=>rfl
         | true=>
          have:=J (.inr ZW);subst this;rw[t2.2 (t4.1 ZW)]at C;cases C
       subst ZU;refine pre (ae_ (a:=!F) (am_ (by simp;omega) (ae_ t1 rfl)) rfl) (ae_ (a:=!F) (am_ (by rw[g4];simp;omega) (ae_ t3 rfl)) rfl) ?_;cases U:F with
       | false=>exact⟨Xb.mk 0 [],2,_,rfl,rfl,by simp,λe=>by cases e⟩
       | true=>
        have:=J (.inl U);subst this;exact⟨Xb.mk w1 y,0,_,rfl,rfl,by show y.length<=1024;omega,λ_=>⟨t2.1 U,w1,f,n,r,a3,h0,rfl,by omega,u,rfl,rfl,by show f=(y.length:Int);omega,by omega,O.symm⟩⟩
      .refine pre (ae_ (a:=true) (an_ (by simp;omega) rfl) rfl) (ae_ (a:=true) (an_ (by rw[g4];simp;omega) rfl) rfl) ⟨Xb.mk 0 [],2,_,rfl,rfl,by simp,λe=>by cases e⟩
     .refine pre (ae_ k1 (an_ (by rw[V];simpa using u) rfl)) (ae_ g1 (an_ (by rw[g2];simpa using u) rfl)) ⟨Xb.mk 0 [],(bt_ s 1025 n r f).2.2,rd,by rw[V],by rw[g2],by simp,λe=>absurd e u⟩
 .rw[qG h0]at m;exact⟨Xb.mk 0 [],(blk s sc 4).2,Xy.mk s [],ae_ m (an_ (by simp[h0]) rfl),ae_ ZZ (an_ (by simp[h0]) rfl),by simp,λe=>absurd e h0⟩
structure TreeAt(s:Xs)(sc:tR)(T:Xb)(E:Int):Prop where
 get:et_ s sc=some (T,E)
 ref:du_ s sc=some (T,E)
 len:T.Xz.length<=1024
 ok:E=0->OkT T.Xz T.Xf
theorem tree_at{s:Xs}(h:StOK s)(sc:tR):∃T E,TreeAt s sc T E:=by
 obtain⟨T,E,rd,f,t2,t3,t4⟩:=tree_both h sc;exact⟨T,E,by unfold et_;exact ae_ f rfl,t2,t3,λe=>(t4 e).1⟩
structure Ok17(s:Zk):Prop where
 sl:s.Yy.length<=64
 files:FileOK s.Xo
 store:StOK s.Ux
 time:∀x∈s.Yy,0<=x.Wu/\x.Wu<=1099511627776
 asc:∀i x y,0<i->s.Yy[i]? = some x->s.Yy[i-1]? = some y->y.Wu<x.Wu
 tree:∀x∈s.Yy,∃T,TreeAt s.Ux x.Ya T 0
noncomputable def okTr(s:Xs)(sc:tR):tV:=match du_ s sc with|some (_,e)=>e==0|none=>false
def j3_(l:tL Vi)(i:Nat):Vi:=l.getD (i-1) (Vi.mk 0 [])
noncomputable def badS(s:Zk)(i:Nat)(x:Vi):tV:=(decide (x.Wu<0)||decide (x.Wu>1099511627776))||(decide (0<i)&&decide ((j3_ s.Yy i).Wu>=x.Wu)) || !(okTr s.Ux x.Ya)
theorem ok_modes{T:Xb}(h:OkT T.Xz T.Xf):∀n∈T.Xz,n.Xg<=9223372036854775807/\n.Xk.length<=9223372036854775807:=λn f=>⟨h.hm f,by have:=h.name f;omega⟩
theorem bad_iff{s:Zk}(D:s.Yy.length<=64)(F:FileOK s.Xo)(u:StOK s.Ux):(∀i x,s.Yy[i]? = some x->badS s i x=false)↔Ok17 s:=by
 constructor
 .intro h;have f:∀i x,s.Yy[i]? = some x->(0<=x.Wu/\x.Wu<=1099511627776)/\(0<i->(j3_ s.Yy i).Wu<x.Wu)/\okTr s.Ux x.Ya=true:=λi x hx=>by
   have:=h i x hx;unfold badS at this;simp only[qP,qDf,jF,zO]at this;obtain⟨⟨⟨C,t2⟩,t3⟩,t4⟩:=this;exact⟨by omega,λh0=>by omega,t4⟩
  refine⟨D,F,u,λx hx=>?_,λi x y h0 hx p=>?_,λx hx=>?_⟩
  .obtain⟨i,hi⟩:=qH.1 hx;exact(f i x hi).1
  .have:=(f i x hx).2.1 h0;have e:j3_ s.Yy i=y:=by
    unfold j3_;rw[za,p];rfl
   rwa [e]at this
  .obtain⟨i,hi⟩:=qH.1 hx;have m:=(f i x hi).2.2;obtain⟨T,E,q⟩:=tree_at u x.Ya;unfold okTr at m;rw[q.ref]at m;have:E=0:=by simpa using m
   subst this;exact⟨T,q⟩
 .intro h i x hx;have j:=qa hx;obtain⟨C,t2⟩:=h.time x j;obtain⟨T,q⟩:=h.tree x j;have m:okTr s.Ux x.Ya=true:=by
   unfold okTr;rw[q.ref];rfl
  have G:0<i->(j3_ s.Yy i).Wu<x.Wu:=λh0=>by
   have hi:i-1<s.Yy.length:=by
    have:i<s.Yy.length:=by
     rcases qb i s.Yy.length with f|f
     .exact f
     .rw[qe f]at hx;cases hx
    omega
   have p:=qQ hi;have e:j3_ s.Yy i=s.Yy[i-1]:=by
    unfold j3_;rw[za,p];rfl
   rw[e];exact h.asc i x _ h0 hx p
  unfold badS;rw[m];simp only[qP,qDf,zO,Bool.not_true];refine⟨⟨⟨by omega,by omega⟩,?_⟩,trivial⟩;by_cases h0:0<i
  .exact .inr (by have:=G h0;omega)
  .exact .inl h0
theorem Right_eq(s:Zk)(z:SizeOK s.Xo)(hb:NodesB s.Xo)(Z:s.Ux.Xp.length<=9223372036854775807):∃b,bh_ s=some b/\(b=true↔Ok17 s):=by
 unfold bh_;by_cases M:s.Yy.length<=64
 .obtain⟨b1,G,g1⟩:=oc_ s.Xo z hb;obtain⟨b2,U,O⟩:=Right_iff (s:=s.Ux) (by omega);cases b1 with
  | false=>exact⟨false,ae_ (a:=true) (am_ (by simp;omega) (ae_ G rfl)) (ae_ (a:=true) rfl rfl),λh=>(nomatch h),λh=>by rw[g1.2 h.files]⟩
  | true=>
  cases b2 with
  | false=>exact⟨false,ae_ (a:=false) (am_ (by simp;omega) (ae_ G rfl)) (ae_ (a:=true) (am_ rfl (ae_ U rfl)) rfl),λh=>(nomatch h),λh=>by rw[O.2 h.store]⟩
  | true=>
   have V:=g1.1 rfl;have J:=O.1 rfl;have C:=b8_ (body:=g2_ s) s.Yy (λi x=>if badS s i x then some false else none) (cp_ (by omega)) (λi hi=>?_) (by unfold g2_;exact am_ (fD_ _) rfl)
   .refine⟨(be_ (λi x=>if badS s i x then some false else none) 0 s.Yy).getD true,ae_ (a:=false) (am_ (by simp;omega) (ae_ G rfl)) (ae_ (a:=false) (am_ rfl (ae_ U rfl)) (cI_ C (λr=>rfl) rfl)),?_⟩;rw[qW_ (p:=λi x=>!(badS s i x)) (λi x=>by cases badS s i x<;>rfl)];simp only[qj,qF];exact bad_iff M V J
   .unfold g2_;refine an_ (fg_ hi) (ae_ (bb_ hi) ?_);obtain⟨T,E,m⟩:=tree_at J s.Yy[i].Ya;have y:okTr s.Ux s.Yy[i].Ya=(E==0):=by unfold okTr;rw[m.ref]
    have f:∀h0:0<i,ah_ s.Yy (w64 ((i:Int)-1))=some (j3_ s.Yy i):=λh0=>nn_ _ h0 hi (by omega)
    have j:(Option.bind (bif decide ((i:Int)>0)then(ah_ s.Yy (w64 ((i:Int)-1))).bind λu=>some (decide (u.Wu>=s.Yy[i].Wu))else some false) λ(q:tV)=>some q)=some (decide (0<i)&&decide ((j3_ s.Yy i).Wu>=s.Yy[i].Wu)):=by
     by_cases h0:0<i
     .have e:decide ((i:Int)>0)=true:=by simpa using h0
      rw[e,f h0];simp[h0]
     .have e:decide ((i:Int)>0)=false:=by simp;omega
      rw[e];simp[h0]
    refine ae_ (a:=(decide (s.Yy[i].Wu<0)||decide (s.Yy[i].Wu>1099511627776))||(decide (0<i)&&decide ((j3_ s.Yy i).Wu>=s.Yy[i].Wu))) ?_ ?_
    .cases Y:decide (s.Yy[i].Wu<0)||decide (s.Yy[i].Wu>1099511627776)with
     | true=>rfl
     | false=>exact am_ rfl j
    .unfold badS;cases Y:(decide (s.Yy[i].Wu<0)||decide (s.Yy[i].Wu>1099511627776))||(decide (0<i)&&decide ((j3_ s.Yy i).Wu>=s.Yy[i].Wu))with
     | true=>rfl
     | false=>
      refine am_ rfl (ae_ m.ref ?_);rw[y];by_cases F:E=0
      .subst F;obtain⟨b3,e3,g3⟩:=j1_ T m.len (ok_modes (m.ok rfl));have D:=g3.2 (m.ok rfl);subst D;refine ae_ (a:=false) (am_ rfl (ae_ e3 rfl)) ?_;rw[aS_ (by omega)];rfl
      .refine ae_ (a:=true) (an_ (by simpa using F) rfl) ?_;have:(E==0)=false:=by simpa using F
       rw[this];rfl
 .exact⟨false,ae_ (a:=true) (an_ (by simp;omega) rfl) (ae_ (a:=true) rfl rfl),λh=>(nomatch h),λh=>absurd h.sl M⟩
def atS(l:tL Vi)(t:Int):tO Vi:=l.reverse.find? λx=>decide (x.Wu<=t)
theorem at_down(s:Zk)(t:Int)(p:s.Yy.length<=1000):∀(n m:Nat),n<=s.Yy.length->n<m->aj_ (fe_ s t) m ((n:Int)-1)=some (match atS (s.Yy.take n) t with|some x=>.ret (x,true)|none=>.fall ())
 | 0,m,_,hm=>by
  obtain⟨m,rfl⟩:∃k,m=k+1:=⟨m-1,by omega⟩;refine bD_ ?_;unfold fe_;exact am_ (by simp) rfl
 | n+1,m,u,hm=>by
  obtain⟨m,rfl⟩:∃k,m=k+1:=⟨m-1,by omega⟩;have hi:n<s.Yy.length:=by omega
  have q:((n+1:Nat):Int)-1=(n:Int):=by omega
  have j:s.Yy.take (n+1)=s.Yy.take n++[s.Yy[n]]:=List.take_succ_eq_append_getElem hi;have f:atS (s.Yy.take (n+1)) t=if s.Yy[n].Wu<=t then some s.Yy[n]else atS (s.Yy.take n) t:=by
   unfold atS;rw[j,List.reverse_append,List.reverse_singleton,List.singleton_append,List.find?_cons];by_cases h:s.Yy[n].Wu<=t<;>simp[h]
  rw[f,q];by_cases h:s.Yy[n].Wu<=t
  .rw[qY h];refine bD_ ?_;unfold fe_;exact an_ (by simp) (ae_ (bb_ hi) (an_ (by simpa using h) (ae_ (bb_ hi) rfl)))
  .rw[qG h];refine dH_ ?_ (at_down s t p n m (by omega) (by omega));unfold fe_;refine an_ (by simp) (ae_ (bb_ hi) (am_ (by simpa using h) ?_));rw[ao_ ⟨by omega,by omega⟩]
def atR(s:Zk)(t:Int):Vi×tV:=match atS s.Yy t with|some x=>(x,true)|none=>(Vi.mk 0 [],false)
theorem At_eq(s:Zk)(t:Int)(f:s.Yy.length<=1000):k7_ s t=some (atR s t):=by
 have h:=at_down s t f s.Yy.length BIG (qA _) (cp_ (by omega));rw[List.take_length]at h;unfold k7_ atR;rw[ao_ ⟨by omega,by omega⟩];refine ae_ h ?_;cases atS s.Yy t<;>rfl
theorem ref_At_eq(s:Zk)(t:Int)(f:s.Yy.length<=1000):va_ s t=some (atR s t):=At_eq s t f
theorem atS_mem{l:tL Vi}{t:Int}{x:Vi}(h:atS l t=some x):x∈l:=List.mem_reverse.1 (zX h)
theorem Tree_eq{s:Zk}(h:Ok17 s)(t:Int):∃T E,iF_ s t=some (T,E)/\jY_ s t=some (T,E)/\T.Xz.length<=1024:=by
 unfold iF_ jY_;rw[At_eq s t (by have:=h.sl;omega),ref_At_eq s t (by have:=h.sl;omega)];unfold atR;cases j:atS s.Yy t with
 | none=>exact⟨Xb.mk 0 [],8,rfl,rfl,by simp⟩
 | some x=>
  obtain⟨T,f⟩:=h.tree x (atS_mem j);exact⟨T,0,ae_ (a:=(x,true)) rfl (am_ rfl (ae_ f.get rfl)),ae_ (a:=(x,true)) rfl (am_ rfl (ae_ f.ref rfl)),f.len⟩
def itoaS(n:Int):tR:=if n<0 then 45::digF 20 n.natAbs else digF 20 n.toNat
theorem xt_(u:Nat)(s:tR)(q:u<=9223372036854775808)(x:s.length<=1000)(j:(decide (-(u:Int)<0)||(s==[]))=true):dn_ 10 (-(u:Int),s)=some (.next (-((u/10:Nat):Int),UInt8.ofNat (48+u%10)::s)):=by
 unfold dn_;have f:u%10<10:=Nat.mod_lt _ (by omega);have p:remI (-(u:Int)) 10=some (-((u%10:Nat):Int)):=by
  unfold remI;rw[qG (by decide),Int.neg_tmod,jY (by omega)];rfl
 have m:eS_ .i64 (-(u:Int)) 10=some (-((u/10:Nat):Int)):=by
  unfold eS_;rw[qG (by decide),Int.neg_tdiv,zd (by omega),kF_ ⟨by omega,by omega⟩];rfl
 refine an_ j (ae_ p (ae_ (a:=[UInt8.ofNat (48+u%10)]) ?_ (ae_ (a:=UInt8.ofNat (48+u%10)::s) ?_ (ae_ m rfl))))
 .generalize u%10=d at f;have h:d=0\/d=1\/d=2\/d=3\/d=4\/d=5\/d=6\/d=7\/d=8\/d=9:=by omega
  rcases h with rfl|rfl|rfl|rfl|rfl|rfl|rfl|rfl|rfl|rfl<;>rfl
 .rw[im_ (by simp;omega)];rfl
theorem ta_(f u:Nat):digF (f+1) u=if u<10 then[UInt8.ofNat (48+u)]else digF f (u/10)++[UInt8.ofNat (48+u%10)]:=rfl
theorem uz_:∀(f u:Nat) (s:tR),u<10^f->u<=9223372036854775808->s≠[]->s.length+f<=1000->aj_ (dn_ 10) (f+1) (-(u:Int),s)=some ((if u=0 then[]else digF f u)++s)
 | 0,u,s,h,_,j,_=>by
  have:u=0:=by simpa using h
  subst this;refine bD_ ?_;unfold dn_;refine am_ ?_ rfl;cases s with
  | nil=>exact absurd rfl j
  | cons a l=>rfl
 | f+1,u,s,h,m,j,q=>by
  by_cases h0:u=0
  .subst h0;rw[qY rfl];refine bD_ ?_;unfold dn_;refine am_ ?_ rfl;cases s with
   | nil=>exact absurd rfl j
   | cons a l=>rfl
  .rw[qG h0];have p:(decide (-(u:Int)<0)||(s==[]))=true:=by
    have:decide (-(u:Int)<0)=true:=by simp;omega
    rw[this];rfl
   refine dH_ (xt_ u s m (by omega) p) ((uz_ f (u/10) (UInt8.ofNat (48+u%10)::s) (by rw[Nat.pow_succ]at h;omega) (by omega) (by simp) (by simp;omega)).trans ?_);rw[ta_ f u];by_cases h1:u<10
   .rw[qY h1,qY (by omega),Nat.mod_eq_of_lt h1];rfl
   .rw[qG h1,qG (by omega)];simp
theorem digits_eq{u:Nat}(h:u<=9223372036854775808):e2_ (-(u:Int)) 10=some (digF 20 u):=by
 unfold e2_;have f:=xt_ u [] h (by simp) (by simp);have j:=uz_ 19 (u/10) [UInt8.ofNat (48+u%10)] (by omega) (by omega) (by simp) (by simp);have h:=hg_ (dH_ f j) (show 19+1+1<=BIG by decide);refine ae_ h (qM some ?_);rw[show digF 20 u=_ from ta_ 19 u];by_cases m:u<10
 .rw[qY m,qY (by omega),Nat.mod_eq_of_lt m];rfl
 .rw[qG m,qG (by omega)]
theorem q3_:∀(f u:Nat),(digF f u).length<=f
 | 0,_=>qA _
 | f+1,u=>by
  rw[ta_];split
  .simp
  .have:=q3_ f (u/10);rw[qLa];simp only[qLc,zL];omega
theorem itoaS_len(n:Int):(itoaS n).length<=21:=by
 unfold itoaS;split
 .have:=q3_ 20 n.natAbs;simp only[qLc];omega
 .have:=q3_ 20 n.toNat;omega
theorem ref_text_eq{n:Int}(h:I64 n):dG_ n 10=some (itoaS n):=by
 obtain⟨j,f⟩:=h;unfold dG_ itoaS;refine ae_ (a:=true) rfl (am_ rfl ?_);by_cases h0:n<0
 .rw[qY h0];have e:n = -((n.natAbs:Nat):Int):=by omega
  refine an_ (by simpa using h0) (ae_ (a:=digF 20 n.natAbs) ?_ (ae_ (a:=45::digF 20 n.natAbs) ?_ rfl))
  .exact(qM (λm=>e2_ m 10) e).trans (digits_eq (by omega))
  .have:=q3_ 20 n.natAbs;rw[im_ (by simp;omega)];rfl
 .rw[qG h0];refine am_ (by simpa using h0) ?_;have e:w64 (0-n) = -((n.toNat:Nat):Int):=by
   rw[ao_ ⟨by omega,by omega⟩];omega
  rw[e];exact ae_ (digits_eq (by omega)) rfl
def W{α:Type}(Q:α->Prop)(o:tO α):Prop:=∃y,o=some y/\Q y
abbrev T{α:Type}(o:tO α):Prop:=W (λ_=>True) o
theorem W.mono{α:Type}{P Q:α->Prop}{o:tO α}(h:W P o)(k:∀y,P y->Q y):W Q o:=by
 obtain⟨y,e,p⟩:=h;exact⟨y,e,k y p⟩
theorem ai_{α:Type}{Q:α->Prop}{y:α}(h:Q y):W Q (some y):=⟨y,rfl,h⟩
theorem ag_{α β:Type}{P:α->Prop}{Q:β->Prop}{o:tO α}{f:α->tO β}(h:W P o)(k:∀y,P y->W Q (f y)):W Q (o.bind f):=by
 obtain⟨y,rfl,p⟩:=h;exact k y p
theorem bQ_{α β:Type}{Q:β->Prop}{o:tO α}{y:α}{f:α->tO β}(e:o=some y)(h:W Q (f y)):W Q (o.bind f):=by
 subst e;exact h
theorem al_{α:Type}{Q:α->Prop}{c:tV}{x y:tO α}(h:c=true->W Q x)(k:c=false->W Q y):W Q (bif c then x else y):=by
 cases c
 .exact k rfl
 .exact h rfl
theorem c9_{R:Prop}{c:tV}{x:tO tV}(h:c=false->W (λb=>b=false->R) x):W (λb=>b=false->c=false/\R) (orO c x):=by
 cases c
 .obtain⟨y,rfl,p⟩:=h rfl;exact⟨y,rfl,λe=>⟨rfl,p e⟩⟩
 .exact⟨true,rfl,λe=>by cases e⟩
theorem dq_{R:Prop}{c:tV}{x:tO tV}(h:c=true->W (λb=>b=true->R) x):W (λb=>b=true->c=true/\R) (anO c x):=by
 cases c
 .exact⟨false,rfl,λe=>by cases e⟩
 .obtain⟨y,rfl,p⟩:=h rfl;exact⟨y,rfl,λe=>⟨rfl,p e⟩⟩
theorem bg_{α:Type}{xs:tL α}{i:Int}(h0:0<=i)(h1:i<(xs.length:Int)):W (λy=>y∈xs) (ah_ xs i):=by
 unfold ah_;rw[qY h0];have f:i.toNat<xs.length:=by omega
 exact⟨xs[i.toNat],qQ f,zU f⟩
theorem cd_{xs:tR}{i:Int}(h0:0<=i)(h1:i<(xs.length:Int)):T (ap_ xs i):=by
 obtain⟨y,e,_⟩:=bg_ h0 h1;unfold ap_;rw[e];exact⟨_,rfl,trivial⟩
theorem W_sub{α:Type}{xs:tL α}{lo hi:Int}(h0:0<=lo)(h1:lo<=hi)(j:hi<=(xs.length:Int)):W (λf=>(∀y∈f,y∈xs)/\(f.length:Int)=hi-lo) (aA_ xs lo hi):=by
 rw[cM_ h0 h1 j];refine⟨_,rfl,λy h=>qh (List.mem_of_mem_drop h),?_⟩;rw[qk,qX];omega
def StQ{B:Type}(Q:B->Prop)(s:Int):Step Int (Out Unit B)->Prop|.next f=>f=s+1|.done (.ret r)=>Q r|.done (.fall _)=>True
def ea_{A B:Type}(P:A->Prop)(Q:B->Prop):Out A B->Prop|.ret r=>Q r|.fall x=>P x
theorem bi_{s:Int}(h0:0<=s)(h:s<9223372036854775807):w64 (s+1)=s+1:=by
 obtain⟨n,rfl⟩:∃n:Nat,s=(n:Int):=⟨s.toNat,by omega⟩;rw[aS_ (by omega)];rfl
theorem W_nxt{B:Type}{Q:B->Prop}{s:Int}(h0:0<=s)(h:s<9223372036854775807):W (StQ Q s) (nxt s:tO (Step Int (Out Unit B))):=⟨_,rfl,bi_ h0 h⟩
theorem W_rtn{B:Type}{Q:B->Prop}{s:Int}{b:B}(h:Q b):W (StQ Q s) (rtn b):=⟨_,rfl,h⟩
theorem forR_from{B:Type}{Q:B->Prop}{n:Int}{f:Int->tO (Step Int (Out Unit B))}(h:∀s,0<=s->s<n->W (StQ Q s) (f s)) :
  ∀(k:Nat) (s:Int) (m:Nat),0<=s->n-s<=(k:Int)->k<m->W (ea_ (λ_=>True) Q) (aj_ (λs=>bif decide (s<n)then f s else some (.done (.fall ()))) m s)
 | k,s,m+1,h0,h1,p=>by
  unfold aj_;by_cases c:s<n
  .obtain⟨y,e,q⟩:=h s h0 c;simp only[c,decide_true,zB,e]
   match y,q with
   | .next j,q=>
    cases k with
    | zero=>omega
    | succ k=>
     obtain rfl:j=s+1:=q;exact forR_from h k (s+1) m (by omega) (by omega) (by omega)
   | .done (.ret r),q=>exact⟨_,rfl,q⟩
   | .done (.fall _),_=>exact⟨_,rfl,trivial⟩
  .simp only[c,decide_false,zR];exact⟨_,rfl,trivial⟩
theorem W_for{B:Type}{Q:B->Prop}{n:Int}{f:Int->tO (Step Int (Out Unit B))}(j:n<=9223372036854775807)(h:∀s,0<=s->s<n->s<9223372036854775807->W (StQ Q s) (f s)):W (ea_ (λ_=>True) Q) (ax_ n f):=by
 unfold ax_;exact forR_from (λs h0 h1=>h s h0 h1 (by omega)) n.toNat 0 BIG (qD 0) (by omega) (by unfold BIG;omega)
theorem bE_{A B:Type}{P:A->Prop}{Q:B->Prop}{o:tO (Out A B)}{k:A->tO B}(h:W (ea_ P Q) o)(f:∀x,P x->W Q (k x)):W Q (aft o k):=by
 obtain⟨y,rfl,q⟩:=h;cases y with
 | ret r=>exact⟨r,rfl,q⟩
 | fall x=>exact f x q
theorem W_afd{A B:Type}{P:A->Prop}{Q:B->Prop}{s:Int}{o:tO (Out A B)}{k:A->tO (Step Int (Out Unit B))}(h:W (ea_ P Q) o)(f:∀x,P x->W (StQ Q s) (k x)):W (StQ Q s) (afd o k):=by
 obtain⟨y,rfl,q⟩:=h;cases y with
 | ret r=>exact⟨_,rfl,q⟩
 | fall x=>exact f x q
class Sm (α:Type) where
 p:α->Prop
 sz:Nat:=1
 lo:1<=sz:=by decide
 hi:sz<=100:=by decide
class Ft {α:Type} [Sm α] (x:α):Prop where
 ok:Sm.p x
instance:Sm Int:={ p:=λ_=>True }
instance:Sm tV:={ p:=λ_=>True }
instance:Sm UInt8:={ p:=λ_=>True }
instance{α:Type}[Sm α]:Sm (tL α):={ p:=λl=>l.length*Sm.sz α<=1048576/\∀x∈l,Sm.p x }
theorem Sm.le{α:Type}[Sm α]{n:Nat}(h:n*Sm.sz α<=1048576):n<=1048576:=qN (Nat.le_mul_of_pos_right n Sm.lo) h
theorem Sm.up{α:Type}[Sm α]{n:Nat}(h:n<=10000):n*Sm.sz α<=1048576:=by
 have:=Nat.mul_le_mul h (Sm.hi (α:=α));omega
theorem Ft.len{α:Type}[Sm α]{l:tL α}(h:Ft l):(l.length:Int)<=1048576:=by have:=Sm.le h.ok.1;omega
theorem Ft.el{α:Type}[Sm α]{l:tL α}(h:Ft l){y:α}(f:y∈l):Ft y:=⟨h.ok.2 y f⟩
theorem Ft.sub{α:Type}[Sm α]{l m:tL α}(h:Ft l)(hm:∀y∈m,y∈l)(j:m.length<=l.length):Ft m:=⟨qN (qf _ j) h.ok.1,λy f=>h.ok.2 y (hm y f)⟩
instance{n:Int}:Ft n:=⟨trivial⟩
instance{b:tV}:Ft b:=⟨trivial⟩
instance{b:UInt8}:Ft b:=⟨trivial⟩
instance{α β:Type}[Sm α][Sm β]:Sm (α×β):={ p:=λx=>Sm.p x.1/\Sm.p x.2 }
instance{α β:Type}[Sm α][Sm β]{x:α×β}[h:Ft x]:Ft x.1:=⟨h.ok.1⟩
instance{α β:Type}[Sm α][Sm β]{x:α×β}[h:Ft x]:Ft x.2:=⟨h.ok.2⟩
instance{α β:Type}[Sm α][Sm β]{x:α}{y:β}[h:Ft x][k:Ft y]:Ft (x,y):=⟨h.ok,k.ok⟩
class Sh {α:Type} [Sm α] (l:tL α) (k:Nat):Prop where
 ok:l.length<=k/\∀x∈l,Sm.p x
instance{α:Type}[Sm α]{k:Nat}:Sh ([]:tL α) k:=⟨qv _,λ_ h=>by cases h⟩
instance{α:Type}[Sm α]{k:Nat}{a:α}{l:tL α}[h:Ft a][j:Sh l k]:Sh (a::l) (k+1):=⟨Nat.succ_le_succ j.ok.1,λx hx=>by
 rcases qV.1 hx with rfl|hx
 .exact h.ok
 .exact j.ok.2 x hx⟩
instance{α:Type}[Sm α]{l:tL α}[h:Sh l 200]:Ft l:=⟨Sm.up (qN h.ok.1 (by omega)),h.ok.2⟩
class Tc {α:Type} (o:tO α):Prop where
 ok:T o
theorem j4_{α:Type}[Sm α]{xs:tL α}{i:Int}[h:Ft xs](h0:0<=i)(h1:i<(xs.length:Int)):W (λy=>Ft y) (ah_ xs i):=(bg_ h0 h1).mono λ_ f=>h.el f
theorem gN_{α B:Type}[Sm α]{xs:tL α}{Q:B->Prop}{f:Int->tO (Step Int (Out Unit B))}[hx:Ft xs](h:∀s,0<=s->s<(xs.length:Int)->s<9223372036854775807->W (StQ Q s) (f s)):W (ea_ (λ_=>True) Q) (ax_ (xs.length:Int) f):=W_for (by have:=hx.len;omega) h
theorem ip_{α:Type}[Sm α]{xs:tL α}{lo hi:Int}[h:Ft xs](h0:0<=lo)(h1:lo<=hi)(m:hi<=(xs.length:Int)):W (λf=>Ft f) (aA_ xs lo hi):=
 (W_sub h0 h1 m).mono λ_ ⟨j,p⟩=>h.sub j (by omega)
class Tf {α:Type} [Sm α] (o:tO α):Prop where
 ok:W (λy=>Ft y) o
theorem W_opt{α β:Type}[Sm α]{Q:β->Prop}{o:tO α}{f:α->tO β}(h:W (λy=>Ft y) o)(k:∀y,Ft y->W Q (f y)):W Q (o.bind f):=ag_ h k
def StI{S B:Type}(c:S->Int)(I:S->Prop)(Q:B->Prop)(n:Int)(s:S):Step S B->Prop|.next f=>c s<n/\(c f=c s+1/\I f)|.done b=>Q b
theorem lp_from{S B:Type}{c:S->Int}{I:S->Prop}{Q:B->Prop}{n:Int}{f:S->tO (Step S B)}(h:∀s,0<=c s->I s->W (StI c I Q n s) (f s)) :
  ∀(k:Nat) (s:S) (m:Nat),0<=c s->I s->n-c s<=(k:Int)->k<m->W Q (aj_ f m s)
 | k,s,m+1,h0,u,h1,D=>by
  unfold aj_;obtain⟨y,e,q⟩:=h s h0 u;rw[e]
  match y,q with
  | .next j,q=>
   obtain⟨C,x,p⟩:=q;cases k with
   | zero=>omega
   | succ k=>exact lp_from h k j m (by omega) p (by omega) (by omega)
  | .done b,q=>exact⟨b,rfl,q⟩
theorem cN_{S B:Type}(c:S->Int)(I:S->Prop){Q:B->Prop}(n:Int){f:S->tO (Step S B)}{s0:S}(m:n<=9223372036854775807)(h0:0<=c s0)(j:I s0)(h:∀s,0<=c s->I s->W (StI c I Q n s) (f s)):W Q (aj_ f BIG s0):=
 lp_from h (n-c s0).toNat s0 BIG h0 j (by omega) (by unfold BIG;omega)
theorem W_l2{A B:Type}[Sm A]{Q:B->Prop}{n:Int}{f:A×Int->tO (Step (A×Int) B)}{d:A×Int->B}{s0:A×Int}(q:n<=9223372036854775807)(h0:0<=s0.2)(x:Ft s0.1)
  (h:∀s:A×Int,0<=s.2->s.2<n->s.2<9223372036854775807->Ft s.1->W (StI (λs=>s.2) (λs=>Ft s.1) Q n s) (f s)) (u:∀s:A×Int,Ft s.1->Q (d s)):W Q (aj_ (λs=>bif decide (s.2<n)then f s else some (.done (d s))) BIG s0):=
 cN_ (λs=>s.2) (λs=>Ft s.1) n q h0 x λs p j=>al_ (λm=>h s p (of_decide_eq_true m) (by have:=of_decide_eq_true m;omega) j) λ_=>ai_ (u s j)
theorem St_2{A B:Type}[Sm A]{Q:B->Prop}{n:Int}{s:A×Int}{a:A}(h0:0<=s.2)(h1:s.2<n)(f:s.2<9223372036854775807)(h:Ft a):W (StI (λs=>s.2) (λs=>Ft s.1) Q n s) (some (.next (a,w64 (s.2+1))):tO (Step (A×Int) B)):=⟨_,rfl,h1,bi_ h0 f,h⟩
theorem St_d{S B:Type}{c:S->Int}{I:S->Prop}{Q:B->Prop}{n:Int}{s:S}{b:B}(h:Q b):W (StI c I Q n s) (some (.done b):tO (Step S B)):=⟨_,rfl,h⟩
theorem W_l3{A B C:Type}[Sm A][Sm B]{Q:C->Prop}{n:Int}{f:A×B×Int->tO (Step (A×B×Int) C)}{d:A×B×Int->C}{s0:A×B×Int}(q:n<=9223372036854775807)(h0:0<=s0.2.2)(y:Ft s0.1)(x:Ft s0.2.1)
  (h:∀s:A×B×Int,0<=s.2.2->s.2.2<n->s.2.2<9223372036854775807->Ft s.1->Ft s.2.1->W (StI (λs=>s.2.2) (λs=>Ft s.1/\Ft s.2.1) Q n s) (f s)) (u:∀s:A×B×Int,Ft s.1->Ft s.2.1->Q (d s)):W Q (aj_ (λs=>bif decide (s.2.2<n)then f s else some (.done (d s))) BIG s0):=
 cN_ (λs=>s.2.2) (λs=>Ft s.1/\Ft s.2.1) n q h0 ⟨y,x⟩ λs p j=>al_ (λm=>h s p (of_decide_eq_true m) (by have:=of_decide_eq_true m;omega) j.1 j.2) λ_=>ai_ (u s j.1 j.2)
theorem St_3{A B C:Type}[Sm A][Sm B]{Q:C->Prop}{n:Int}{s:A×B×Int}{a:A}{b:B}(h0:0<=s.2.2)(h1:s.2.2<n)(f:s.2.2<9223372036854775807)(h:Ft a)(k:Ft b):W (StI (λs=>s.2.2) (λs=>Ft s.1/\Ft s.2.1) Q n s) (some (.next (a,b,w64 (s.2.2+1))):tO (Step (A×B×Int) C)):=⟨_,rfl,h1,bi_ h0 f,h,k⟩
theorem fj_{S B:Type}{c:S->Int}{I:S->Prop}{Q:B->Prop}{n:Int}{s t:S}(h1:c s<n)(h:c t=c s+1)(f:I t):W (StI c I Q n s) (some (.next t):tO (Step S B)):=⟨_,rfl,h1,h,f⟩
class Tk {α:Type} (o:tO α) (Q:outParam (α->Prop)):Prop where
 ok:W Q o
theorem mw_{x y:tR}(h:x.length+y.length<=9223372036854775807):W (λz=>z.length=x.length+y.length) (cat x y):=by
 unfold cat;rw[qY h];exact⟨_,rfl,qLa⟩
theorem nn{α:Type}[Sm α]{l:tL α}[h:Ft l]:(l.length:Int)<=9223372036854775807:=by have:=h.len;omega
theorem W_afdI{S A A' B:Type}{P:A->Prop}{P':A'->Prop}{Q:B->Prop}{c:S->Int}{I:S->Prop}{n:Int}{s:S}{o:tO (Out A B)}{k:A->tO (Step S (Out A' B))}(h:W (ea_ P Q) o)(f:∀x,P x->W (StI c I (ea_ P' Q) n s) (k x)):W (StI c I (ea_ P' Q) n s) (afd o k):=by
 obtain⟨y,rfl,q⟩:=h;cases y with
 | ret r=>exact⟨_,rfl,q⟩
 | fall x=>exact f x q
theorem W_oret{A B:Type}{P:A->Prop}{Q:B->Prop}{b:B}(h:Q b):W (ea_ P Q) (some (.ret b)):=⟨_,rfl,h⟩
theorem jb_{A B:Type}{P:A->Prop}{Q:B->Prop}{x:A}(h:P x):W (ea_ P Q) (some (.fall x)):=⟨_,rfl,h⟩
theorem Ft.u1{A B C:Type}[Sm A][Sm B][Sm C]{f:B->C}{s:A×B}(h:Ft s)(k:∀y,Ft y->Ft (f y)):Ft (u1 f s):=⟨h.ok.1,(k s.2 ⟨h.ok.2⟩).ok⟩
theorem Ft.u2{m j B C:Type}[Sm m][Sm j][Sm B][Sm C]{f:B->C}{s:m×j×B}(h:Ft s)(k:∀y,Ft y->Ft (f y)):Ft (u2 f s):=h.u1 λ_ g=>g.u1 k
theorem Ft.u4{q p m j B C:Type}[Sm q][Sm p][Sm m][Sm j][Sm B][Sm C]{f:B->C}{s:q×p×m×j×B}(h:Ft s)(k:∀y,Ft y->Ft (f y)):Ft (u4 f s):=h.u2 λ_ g=>g.u2 k
theorem Ft.u8{F D x u q p m j B C:Type}[Sm F][Sm D][Sm x][Sm u][Sm q][Sm p][Sm m][Sm j][Sm B][Sm C]{f:B->C}{s:F×D×x×u×q×p×m×j×B}(h:Ft s)(k:∀y,Ft y->Ft (f y)):Ft (u8 f s):=h.u4 λ_ g=>g.u4 k
theorem Ft.u16{Z Y V U O M J G F D x u q p m j B C:Type}[Sm Z][Sm Y][Sm V][Sm U][Sm O][Sm M][Sm J][Sm G][Sm F][Sm D][Sm x][Sm u][Sm q][Sm p][Sm m][Sm j][Sm B][Sm C]{f:B->C}{s:Z×Y×V×U×O×M×J×G×F×D×x×u×q×p×m×j×B}(h:Ft s)(k:∀y,Ft y->Ft (f y)):Ft (u16 f s):=h.u8 λ_ g=>g.u8 k
theorem Ft.u32{A1 A2 A3 A4 A5 A6 A7 A8 B1 B2 B3 B4 B5 B6 B7 B8 Z Y V U O M J G F D x u q p m j B C:Type}[Sm A1][Sm A2][Sm A3][Sm A4][Sm A5][Sm A6][Sm A7][Sm A8][Sm B1][Sm B2][Sm B3][Sm B4][Sm B5][Sm B6][Sm B7][Sm B8][Sm Z][Sm Y][Sm V][Sm U][Sm O][Sm M][Sm J][Sm G][Sm F][Sm D][Sm x][Sm u][Sm q][Sm p][Sm m][Sm j][Sm B][Sm C]{f:B->C}{s:A1×A2×A3×A4×A5×A6×A7×A8×B1×B2×B3×B4×B5×B6×B7×B8×Z×Y×V×U×O×M×J×G×F×D×x×u×q×p×m×j×B}(h:Ft s)(k:∀y,Ft y->Ft (f y)):Ft (u32 f s):=h.u16 λ_ g=>g.u16 k
theorem OutQ_f{A B:Type}{Q:B->Prop}{x:A}:ea_ (λ_=>True) Q (.fall x):=trivial
theorem W_forI{B:Type}{I:Int->Prop}{P:Unit->Prop}{Q:B->Prop}{n:Int}{f:Int->tO (Step Int (Out Unit B))}(p:n<=9223372036854775807)(h0:I 0)(h:∀s,0<=s->s<n->s<9223372036854775807->I s->W (StI (λs=>s) I (ea_ P Q) n s) (f s))(q:∀s,0<=s->n<=s->I s->P ()):W (ea_ P Q) (ax_ n f):=by
 unfold ax_;refine cN_ (λs=>s) I n p (qD 0) h0 λs m j=>al_ (λe=>?_) λe=>ai_ ?_
 .have:=of_decide_eq_true e;exact h s m this (by omega) j
 .have:=qn e;exact q s m (by omega) j
theorem St_n{B:Type}{I:Int->Prop}{Q:Out Unit B->Prop}{n s:Int}(h0:0<=s)(h1:s<n)(f:s<9223372036854775807)(h:I (s+1)):W (StI (λs=>s) I Q n s) (nxt s:tO (Step Int (Out Unit B))):=⟨_,rfl,h1,bi_ h0 f,by rw[bi_ h0 f];exact h⟩
theorem j5_{S A B:Type}{c:S->Int}{I:S->Prop}{P:A->Prop}{Q:B->Prop}{n:Int}{s:S}{b:B}(h:Q b):W (StI c I (ea_ P Q) n s) (rtn b:tO (Step S (Out A B))):=⟨_,rfl,h⟩
theorem gO_{x y:tR}[h:Ft y](hx:x.length<=9223231299366420480):W (λz=>z.length=x.length+y.length/\y.length<=1048576) (cat x y):=
 (mw_ (by have:=Sm.le h.ok.1;omega)).mono λ_ k=>⟨k,Sm.le h.ok.1⟩
theorem W_subL{α:Type}[Sm α]{xs:tL α}{lo hi:Int}[h:Ft xs](h0:0<=lo)(h1:lo<=hi)(p:hi<=(xs.length:Int)):W (λf=>Ft f/\(f.length:Int)=hi-lo) (aA_ xs lo hi):=
 (W_sub h0 h1 p).mono λ_ ⟨m,j⟩=>⟨h.sub m (by omega),j⟩
theorem mA_{α:Type}{p:α->Prop}{k:Nat}{x:tL α}{a:α}(hx:∀z∈x,p z)(j:p a)(h0:1<=k)(h:(x.length+1)*k<=140737488355328):W (λz=>(∀w∈z,p w)/\z.length=x.length+1) (room k x [a]):=by
 have h1:(x.length+1)*1<=(x.length+1)*k:=Nat.mul_le_mul_left _ h0;unfold room;rw[qY (by rw[jZ];constructor<;>omega)];refine⟨_,rfl,λz f=>?_,by rw[qLa,jZ]⟩;rcases qW.1 f with f|f
 .exact hx z f
 .obtain rfl:=qT.1 f;exact j
theorem Ft.of{α:Type}[Sm α]{l:tL α}(h:l.length<=10000)(k:∀x∈l,Sm.p x):Ft l:=⟨Sm.up h,k⟩
theorem Ft.str{s:tR}(h:s.length<=1048576):Ft s:=⟨by show s.length*1<=_;omega,λ_ _=>trivial⟩
theorem pW_(x:Int):w64 x=(x+9223372036854775808)%18446744073709551616-9223372036854775808:=by
 unfold w64;rw[IntKind.wrap_i64]
def StM{S B:Type}(m:S->Nat)(I:S->Prop)(Q:B->Prop)(s:S):Step S B->Prop|.next f=>m f<m s/\I f|.done b=>Q b
theorem lpm_from{S B:Type}{c:S->Nat}{I:S->Prop}{Q:B->Prop}{f:S->tO (Step S B)}(h:∀s,I s->W (StM c I Q s) (f s)) :
  ∀(m:Nat) (s:S),I s->c s<m->W Q (aj_ f m s)
 | m+1,s,p,h1=>by
  unfold aj_;obtain⟨y,e,q⟩:=h s p;rw[e]
  match y,q with
  | .next j,q=>exact lpm_from h m j q.2 (by have:=q.1;omega)
  | .done b,q=>exact⟨b,rfl,q⟩
theorem W_lpm{S B:Type}(c:S->Nat)(I:S->Prop){Q:B->Prop}{f:S->tO (Step S B)}{s0:S}(hm:c s0<9223372036854775808)(j:I s0)(h:∀s,I s->W (StM c I Q s) (f s)):W Q (aj_ f BIG s0):=
 lpm_from h BIG s0 j (by unfold BIG;omega)
theorem StM_h{S B:Type}{c:S->Nat}{I:S->Prop}{Q:B->Prop}{s t:S}(h1:c t<c s)(f:I t):W (StM c I Q s) (some (.next t):tO (Step S B)):=⟨_,rfl,h1,f⟩
theorem StM_r{S A B:Type}{c:S->Nat}{I:S->Prop}{P:A->Prop}{Q:B->Prop}{s:S}{b:B}(h:Q b):W (StM c I (ea_ P Q) s) (rtn b:tO (Step S (Out A B))):=⟨_,rfl,h⟩
theorem W_afdM{S A A' B:Type}{P:A->Prop}{P':A'->Prop}{Q:B->Prop}{c:S->Nat}{I:S->Prop}{s:S}{o:tO (Out A B)}{k:A->tO (Step S (Out A' B))}(h:W (ea_ P Q) o)(f:∀x,P x->W (StM c I (ea_ P' Q) s) (k x)):W (StM c I (ea_ P' Q) s) (afd o k):=by
 obtain⟨y,rfl,q⟩:=h;cases y with
 | ret r=>exact⟨_,rfl,q⟩
 | fall x=>exact f x q
theorem om{p:Prop} (h:p:=by
  first
   | omega
   | (dsimp only;omega)
   | (simp;done)
   | (simp;omega)
   | (simp only[pW_]at *;omega)
   | (simp[pW_]at *;omega)):p:=h
theorem sd{p:Prop} (h:p:=by
  first
   | with_reducible exact nn
   | omega
   | (simp only[qDe,qDf,qAn,qP,qz,zO,qF,jF,jE,bne_eq_false_iff_eq,zQ,zw,ne_eq,zm,Bool.not_eq_false,qLc,zL]at *;omega)
   | (simp_all;done)
   | (simp_all;omega)
   | (simp only[pW_]at *;omega)
   | (simp only[pW_,qDe,qDf,qAn,qP,qz,zO,qF,jF,jE,bne_eq_false_iff_eq,zQ,zw,ne_eq,zm,Bool.not_eq_false]at *;omega)
   | (simp_all [pW_];omega)):p:=h
theorem qdt{p:Prop} (h:p:=by
  first
   | trivial
   | infer_instance
   | assumption
   | (intros;omega)
   | (simp only[qDe,qDf,qAn,qP,qz,zO,qF,jF,jE,bne_eq_false_iff_eq,zQ,zw,ne_eq,zm,Bool.not_eq_false,qLc,zL]at *;intros;omega)
   | (simp_all;done)
   | (simp_all;omega)
   | (intros;simp_all;done)
   | (intros;simp_all;omega)):p:=h
theorem tot{α:Type}{P:α->Prop}{o:tO α} (h:W P o:=by
  repeat' first
   | first
    | with_reducible exact ai_ trivial
    | with_reducible exact ai_ inferInstance
    | (with_reducible refine j4_ ?_ ?_;exact sd;exact sd)
    | (with_reducible refine ip_ ?_ ?_ ?_;exact sd;exact sd;exact sd)
    | with_reducible exact Tf.ok
    | with_reducible exact ai_ (λ_=>trivial)
    | with_reducible exact W_rtn trivial
    | with_reducible exact W_nxt (by assumption) (by assumption)
    | with_reducible exact St_1 (by assumption) (by assumption) (by assumption) inferInstance
    | with_reducible exact St_2 (by assumption) (by assumption) (by assumption) inferInstance
    | with_reducible exact St_3 (by assumption) (by assumption) (by assumption) inferInstance inferInstance
    | with_reducible exact St_d trivial
    | with_reducible exact St_d OutQ_f
    | (with_reducible refine St_n ?_ ?_ ?_ ?_;exact sd;exact sd;exact sd;exact qdt)
    | (with_reducible refine j5_ ?_;exact qdt)
    | with_reducible exact W_oret inferInstance
    | with_reducible exact jb_ inferInstance
    | (with_reducible refine W_oret ?_;exact qdt)
    | (with_reducible refine jb_ ?_;exact qdt)
    | (with_reducible refine fj_ ?_ ?_ ?_;exact sd;exact sd;exact qdt)
    | with_reducible exact St_d inferInstance
    | with_reducible exact St_r trivial
   | first
    | with_reducible assumption
    | (with_reducible refine ai_ ?_;exact qdt)
    | (with_reducible refine W_rtn ?_;exact qdt)
    | (with_reducible refine St_r ?_;exact qdt)
    | (with_reducible refine St_d ?_;exact qdt)
    | with_reducible refine ag_ Tk.ok (λ_ ⟨_,_⟩=>?_)
    | with_reducible refine ag_ Tk.ok (λ_ _=>?_)
    | with_reducible refine ag_ Tf.ok (λ_ _=>?_)
    | with_reducible refine ag_ Tc.ok (λ_ _=>?_)
    | (with_reducible refine ag_ (j4_ ?_ ?_) (λ_ _=>?_);exact sd;exact sd)
    | (with_reducible refine ag_ (W_getW ?_ ?_) (λ_ _=>?_);exact sd;exact sd)
    | (with_reducible refine ag_ (cd_ ?_ ?_) (λ_ _=>?_);exact sd;exact sd)
    | (with_reducible refine ag_ (W_byteW ?_ ?_) (λ_ _=>?_);exact sd;exact sd)
    | (with_reducible refine ag_ (W_subL ?_ ?_ ?_) (λ_ ⟨_,_⟩=>?_);exact sd;exact sd;exact sd)
    | (with_reducible refine ag_ (gO_ ?_) (λ_ ⟨_,_⟩=>?_);exact sd)
    | (with_reducible refine ag_ (mw_ ?_) (λ_ _=>?_);exact sd)
    | (with_reducible refine ag_ (P:=λy=>Ft y) (W_l1 ?_ (qD 0) inferInstance (λ_ _ _ _ _=>?_) (λ_ _=>inferInstance)) (λ_ _=>?_);exact sd)
    | (with_reducible refine ag_ (P:=λy=>Ft y) (W_l2 ?_ (qD 0) inferInstance (λ_ _ _ _ _=>?_) (λ_ _=>inferInstance)) (λ_ _=>?_);exact sd)
   | first
    | (with_reducible refine ag_ (P:=λy=>Ft y) (W_l3 ?_ (qD 0) inferInstance inferInstance (λ_ _ _ _ _ _=>?_) (λ_ _ _=>inferInstance)) (λ_ _=>?_);exact sd)
    | (with_reducible refine bE_ (P:=λ_=>True) (W_l1 ?_ (qD 0) inferInstance (λ_ _ _ _ _=>?_) (λ_ _=>OutQ_f)) (λ_ _=>?_);exact sd)
    | (with_reducible refine bE_ (P:=λ_=>True) (W_l2 ?_ (qD 0) inferInstance (λ_ _ _ _ _=>?_) (λ_ _=>OutQ_f)) (λ_ _=>?_);exact sd)
    | (with_reducible refine bE_ (P:=λ_=>True) (W_l3 ?_ (qD 0) inferInstance inferInstance (λ_ _ _ _ _ _=>?_) (λ_ _ _=>OutQ_f)) (λ_ _=>?_);exact sd)
    | with_reducible refine ag_ (c9_ (R:=True) λ_=>?_) (λ_ _=>?_)
    | with_reducible refine ag_ (dq_ (R:=True) λ_=>?_) (λ_ _=>?_)
    | with_reducible refine al_ (λ_=>?_) (λ_=>?_)
    | with_reducible refine bE_ (gN_ λ_ _ _ _=>?_) (λ_ _=>?_)
    | with_reducible refine W_afd (gN_ λ_ _ _ _=>?_) (λ_ _=>?_)
    | with_reducible refine W_afdI (gN_ λ_ _ _ _=>?_) (λ_ _=>?_)
    | (with_reducible refine bE_ (W_for ?_ λ_ _ _ _=>?_) (λ_ _=>?_);exact sd)
    | (with_reducible refine W_afd (W_for ?_ λ_ _ _ _=>?_) (λ_ _=>?_);exact sd)
    | with_reducible refine ag_ (P:=λ_=>True) (al_ (λ_=>ag_ Tc.ok λ_ _=>ai_ trivial) λ_=>ai_ trivial) (λ_ _=>?_)
    | with_reducible refine bE_ (P:=λy=>Ft y) ?_ (λ_ _=>?_)
    | with_reducible refine W_opt ?_ (λ_ _=>?_)
    | with_reducible refine ag_ (P:=λ_=>True) ?_ (λ_ _=>?_)):W P o:=h
set_option linter.unusedSectionVars false
mutual
inductive OkW:Xt->Prop
 | mk {a:Int} {b c:tR} {d:tL Xt} {e:tL Xd}:Sm.p b->Sm.p c->d.length*1<=1048576->(∀x∈d,OkW x)->e.length*1<=1048576->(∀x∈e,OkC x)->OkW ⟨a,b,c,d,e⟩
inductive OkR:Vl->Prop
 | mk {a b c:Int} {d:Xt} {e:tV}:OkW d->OkR ⟨a,b,c,d,e⟩
inductive OkC:Xd->Prop
 | mk {a b:Int} {c:tR} {d:tL Xt} {e:tL Vl} {f:tL Xd}:Sm.p c->d.length*1<=1048576->(∀x∈d,OkW x)->e.length*1<=1048576->(∀x∈e,OkR x)->f.length*1<=1048576->(∀x∈f,OkC x)->OkC ⟨a,b,c,d,e,f⟩
end
instance:Sm Xt:={ p:=OkW }
instance:Sm Vl:={ p:=OkR }
instance:Sm Xd:={ p:=OkC }
instance{c:Xt}[h:Ft c]:Ft c.Wf:=⟨by obtain⟨h⟩:=h;cases h;assumption⟩
instance{c:Xt}[h:Ft c]:Ft c.Ub:=⟨by obtain⟨h⟩:=h;cases h;assumption⟩
instance{c:Xt}[h:Ft c]:Ft c.Yr:=⟨by obtain⟨h⟩:=h;cases h;exact⟨by assumption,by assumption⟩⟩
instance{c:Xt}[h:Ft c]:Ft c.Jj:=⟨by obtain⟨h⟩:=h;cases h;exact⟨by assumption,by assumption⟩⟩
instance{c:Vl}[h:Ft c]:Ft c.Uy:=⟨by obtain⟨h⟩:=h;cases h;assumption⟩
instance{c:Xd}[h:Ft c]:Ft c.Xk:=⟨by obtain⟨h⟩:=h;cases h;assumption⟩
instance{c:Xd}[h:Ft c]:Ft c.Yr:=⟨by obtain⟨h⟩:=h;cases h;exact⟨by assumption,by assumption⟩⟩
instance{c:Xd}[h:Ft c]:Ft c.Vg:=⟨by obtain⟨h⟩:=h;cases h;exact⟨by assumption,by assumption⟩⟩
instance{c:Xd}[h:Ft c]:Ft c.We:=⟨by obtain⟨h⟩:=h;cases h;exact⟨by assumption,by assumption⟩⟩
instance:Sm Yo:={ p:=λc=>Sm.p c.Xk/\Sm.p c.Qm/\Sm.p c.Vs }
instance{c:Yo}[h:Ft c]:Ft c.Xk:=⟨h.ok.1⟩
instance{c:Yo}[h:Ft c]:Ft c.Vs:=⟨h.ok.2.2⟩
instance:Sm Uq:={ p:=λc=>Sm.p c.Ye }
instance{c:Uq}[h:Ft c]:Ft c.Ye:=⟨h.ok⟩
instance:Sm Xx:={ p:=λc=>Sm.p c.Xk/\Sm.p c.Wh/\Sm.p c.Wg/\Sm.p c.Zr/\Sm.p c.Xi/\I64 c.Xg }
instance{c:Xx}[h:Ft c]:Ft c.Xk:=⟨h.ok.1⟩
theorem Ft.api_NodeMode_{c:Xx}(h:Ft c):I64 c.Xg:=h.ok.2.2.2.2.2
instance:Sm Xb:={ p:=λc=>Sm.p c.Xz }
instance{c:Xb}[h:Ft c]:Ft c.Xz:=⟨h.ok⟩
instance:Sm Zq:={ p:=λc=>Sm.p c.Ug/\Sm.p c.Wo/\Sm.p c.Zm/\Sm.p c.Zu }
instance{c:Zq}[h:Ft c]:Ft c.Ug:=⟨h.ok.1⟩
instance{c:Zq}[h:Ft c]:Ft c.Wo:=⟨h.ok.2.1⟩
instance{c:Zq}[h:Ft c]:Ft c.Zm:=⟨h.ok.2.2.1⟩
instance:Sm Zx:={ p:=λc=>Sm.p c.Ya/\Sm.p c.Xi }
instance:Sm Xs:={ p:=λc=>Sm.p c.Xp }
instance{c:Xs}[h:Ft c]:Ft c.Xp:=⟨h.ok⟩
instance:Sm Vi:={ p:=λc=>Sm.p c.Ya }
instance:Sm Zk:={ p:=λc=>Sm.p c.Xo/\Sm.p c.Ux/\Sm.p c.Yy }
instance{c:Zk}[h:Ft c]:Ft c.Xo:=⟨h.ok.1⟩
instance{c:Zk}[h:Ft c]:Ft c.Ux:=⟨h.ok.2.1⟩
instance:Sm Kg:={ p:=λc=>Sm.p c.Xi }
instance:Sm Jm:={ p:=λc=>Sm.p c.a0_/\Sm.p c.a1_ }
instance{c:Jm}[h:Ft c]:Ft c.a0_:=⟨h.ok.1⟩
instance{c:Jm}[h:Ft c]:Ft c.a1_:=⟨h.ok.2⟩
instance:Sm Jn:={ p:=λc=>Sm.p c.Qi }
instance{c:Jn}[h:Ft c]:Ft c.Qi:=⟨h.ok⟩
instance:Sm Uo:={ p:=λc=>Sm.p c.L_ }
instance{c:Uo}[h:Ft c]:Ft c.L_:=⟨h.ok⟩
instance:Sm Jp:={ p:=λc=>Sm.p c.Wf/\Sm.p c.Kt }
instance{c:Jp}[h:Ft c]:Ft c.Wf:=⟨h.ok.1⟩
instance{c:Jp}[h:Ft c]:Ft c.Kt:=⟨h.ok.2⟩
instance:Sm Kz:={ p:=λc=>Sm.p c.Hq/\Sm.p c.Gk/\Sm.p c.Wf }
instance{c:Kz}[h:Ft c]:Ft c.Gk:=⟨h.ok.2.1⟩
instance:Sm Un:={ p:=λc=>Sm.p c.L_ }
instance{c:Un}[h:Ft c]:Ft c.L_:=⟨h.ok⟩
instance:Sm Qx:={ p:=λc=>Sm.p c.Jk/\Sm.p c.Jd/\Sm.p c.Gf }
instance{c:Qx}[h:Ft c]:Ft c.Jk:=⟨h.ok.1⟩
instance{c:Qx}[h:Ft c]:Ft c.Jd:=⟨h.ok.2.1⟩
instance{c:Qx}[h:Ft c]:Ft c.Gf:=⟨h.ok.2.2⟩
instance:Sm Ue:={ p:=λc=>Sm.p c.Qb }
instance{c:Ue}[h:Ft c]:Ft c.Qb:=⟨h.ok⟩
instance:Sm Xr:={ p:=λc=>Sm.p c.Xk/\Sm.p c.Qk }
instance{c:Xr}[h:Ft c]:Ft c.Xk:=⟨h.ok.1⟩
instance{c:Xr}[h:Ft c]:Ft c.Qk:=⟨h.ok.2⟩
instance:Sm Wm:={ p:=λc=>Sm.p c.Gr/\Sm.p c.Hx/\Sm.p c.Hj/\Sm.p c.Xu/\Sm.p c.Qv/\Sm.p c.Xi }
instance{c:Wm}[h:Ft c]:Ft c.Gr:=⟨h.ok.1⟩
instance{c:Wm}[h:Ft c]:Ft c.Hx:=⟨h.ok.2.1⟩
instance{c:Wm}[h:Ft c]:Ft c.Hj:=⟨h.ok.2.2.1⟩
instance{c:Wm}[h:Ft c]:Ft c.Xu:=⟨h.ok.2.2.2.1⟩
instance{c:Wm}[h:Ft c]:Ft c.Qv:=⟨h.ok.2.2.2.2.1⟩
instance{c:Wm}[h:Ft c]:Ft c.Xi:=⟨h.ok.2.2.2.2.2⟩
instance:Sm Ui:={ p:=λc=>Sm.p c.Xk/\Sm.p c.Jt }
instance{c:Ui}[h:Ft c]:Ft c.Xk:=⟨h.ok.1⟩
instance{c:Ui}[h:Ft c]:Ft c.Jt:=⟨h.ok.2⟩
instance:Sm Ul:={ p:=λc=>Sm.p c.Kq/\Sm.p c.Qe }
instance{c:Ul}[h:Ft c]:Ft c.Kq:=⟨h.ok.1⟩
instance{c:Ul}[h:Ft c]:Ft c.Qe:=⟨h.ok.2⟩
instance:Sm Wd:={ p:=λc=>Sm.p c.Jy/\Sm.p c.Gm/\Sm.p c.Hk/\Sm.p c.Jl/\Sm.p c.Ye }
instance{x0:Int}{x1:tR}{x2:Int}{x3:Int}{x4:Int}{x5:tL Xr}{x6:tR}{x7:tR}{x8:tR}{x9:Int}[h1:Ft x1][h5:Ft x5][h6:Ft x6][h7:Ft x7][h8:Ft x8]:Ft (Wd.mk x0 x1 x2 x3 x4 x5 x6 x7 x8 x9):=⟨⟨h1.ok,h5.ok,h6.ok,h7.ok,h8.ok⟩⟩
instance{c:Wd}[h:Ft c]:Ft c.Jy:=⟨h.ok.1⟩
instance{c:Wd}[h:Ft c]:Ft c.Gm:=⟨h.ok.2.1⟩
instance:Sm Vm:={ p:=λc=>Sm.p c.Jv/\Sm.p c.Ki/\Sm.p c.Qs/\Sm.p c.Jw }
instance{c:Vm}[h:Ft c]:Ft c.Jv:=⟨h.ok.1⟩
instance{c:Vm}[h:Ft c]:Ft c.Ki:=⟨h.ok.2.1⟩
instance{c:Vm}[h:Ft c]:Ft c.Qs:=⟨h.ok.2.2.1⟩
instance{c:Vm}[h:Ft c]:Ft c.Jw:=⟨h.ok.2.2.2⟩
instance:Sm Yp:={ p:=λc=>Sm.p c.Xo/\Sm.p c.Zt/\Sm.p c.Jh/\Sm.p c.Qn/\Sm.p c.Qp/\Sm.p c.Uu/\Sm.p c.Qf }
instance{c:Yp}[h:Ft c]:Ft c.Xo:=⟨h.ok.1⟩
instance{c:Yp}[h:Ft c]:Ft c.Zt:=⟨h.ok.2.1⟩
instance{c:Yp}[h:Ft c]:Ft c.Jh:=⟨h.ok.2.2.1⟩
instance{c:Yp}[h:Ft c]:Ft c.Qn:=⟨h.ok.2.2.2.1⟩
instance{c:Yp}[h:Ft c]:Ft c.Qp:=⟨h.ok.2.2.2.2.1⟩
instance{c:Yp}[h:Ft c]:Ft c.Uu:=⟨h.ok.2.2.2.2.2.1⟩
instance{c:Yp}[h:Ft c]:Ft c.Qf:=⟨h.ok.2.2.2.2.2.2⟩
instance:Sm Uj:={ p:=λc=>Sm.p c.Qv }
instance{c:Uj}[h:Ft c]:Ft c.Qv:=⟨h.ok⟩
instance:Sm Js:={ p:=λc=>Sm.p c.Vu/\Sm.p c.Qf/\Sm.p c.Kf }
instance:Sm Wz:={ p:=λc=>Sm.p c.Qf/\Sm.p c.Jv/\Sm.p c.Kj/\Sm.p c.Gv/\Sm.p c.Xi/\Sm.p c.Jz }
instance{c:Wz}[h:Ft c]:Ft c.Kj:=⟨h.ok.2.2.1⟩
instance{c:Wz}[h:Ft c]:Ft c.Jz:=⟨h.ok.2.2.2.2.2⟩
instance:Sm Zj:={ p:=λc=>Sm.p c.Db_/\Sm.p c.Wi }
instance{c:Zj}[h:Ft c]:Ft c.Db_:=⟨h.ok.1⟩
instance{c:Zj}[h:Ft c]:Ft c.Wi:=⟨h.ok.2⟩
instance:Sm Ku:={ p:=λc=>Sm.p c.Ji }
instance:Sm Wr:={ p:=λc=>Sm.p c.Ye/\Sm.p c.Xk/\Sm.p c.Kb/\Sm.p c.Kn/\Sm.p c.Ji/\Sm.p c.Us }
instance{c:Wr}[h:Ft c]:Ft c.Ye:=⟨h.ok.1⟩
instance{c:Wr}[h:Ft c]:Ft c.Xk:=⟨h.ok.2.1⟩
instance{c:Wr}[h:Ft c]:Ft c.Kb:=⟨h.ok.2.2.1⟩
instance{c:Wr}[h:Ft c]:Ft c.Kn:=⟨h.ok.2.2.2.1⟩
instance{c:Wr}[h:Ft c]:Ft c.Us:=⟨h.ok.2.2.2.2.2⟩
instance:Sm Zv:={ p:=λc=>Sm.p c.L_ }
instance{c:Zv}[h:Ft c]:Ft c.L_:=⟨h.ok⟩
instance:Sm Kr:={ p:=λc=>Sm.p c.Xk/\Sm.p c.Gw }
instance{c:Kr}[h:Ft c]:Ft c.Xk:=⟨h.ok.1⟩
instance{c:Kr}[h:Ft c]:Ft c.Gw:=⟨h.ok.2⟩
instance:Sm Vz:={ p:=λc=>Sm.p c.Kk }
instance{c:Vz}[h:Ft c]:Ft c.Kk:=⟨h.ok⟩
instance:Sm Xl:={ p:=λc=>Sm.p c.Yb/\Sm.p c.Vu/\Sm.p c.Ze/\Sm.p c.Qy }
instance{c:Xl}[h:Ft c]:Ft c.Yb:=⟨h.ok.1⟩
instance{c:Xl}[h:Ft c]:Ft c.Vu:=⟨h.ok.2.1⟩
instance{c:Xl}[h:Ft c]:Ft c.Ze:=⟨h.ok.2.2.1⟩
instance{c:Xl}[h:Ft c]:Ft c.Qy:=⟨h.ok.2.2.2⟩
instance:Sm Zi:={ p:=λc=>Sm.p c.Ye }
instance:Sm Yu:={ p:=λ_=>True }
instance{x0:Int}{x1:Int}{x2:Int}  : Ft (Yu.mk x0 x1 x2):=⟨trivial⟩
instance:Sm Zf:={ p:=λc=>Sm.p c.Xc/\Sm.p c.Xk/\Sm.p c.Wh/\Sm.p c.Wg/\Sm.p c.Zr }
instance{x0:Int}{x1:Int}{x2:Yu}{x3:Int}{x4:Int}{x5:Int}{x6:Int}{x7:tR}{x8:tR}{x9:tR}{x10:tR}[h2:Ft x2][h7:Ft x7][h8:Ft x8][h9:Ft x9][h10:Ft x10]:Ft (Zf.mk x0 x1 x2 x3 x4 x5 x6 x7 x8 x9 x10):=⟨⟨h2.ok,h7.ok,h8.ok,h9.ok,h10.ok⟩⟩
instance{c:Zf}[h:Ft c]:Ft c.Xk:=⟨h.ok.2.1⟩
instance{c:Zf}[h:Ft c]:Ft c.Wh:=⟨h.ok.2.2.1⟩
instance{c:Zf}[h:Ft c]:Ft c.Wg:=⟨h.ok.2.2.2.1⟩
instance{c:Zf}[h:Ft c]:Ft c.Zr:=⟨h.ok.2.2.2.2⟩
instance:Sm Xm:={ p:=λc=>Sm.p c.Zp/\Sm.p c.Ye/\Sm.p c.Wx/\Sm.p c.Wv/\Sm.p c.Vj/\Sm.p c.Xc/\Sm.p c.Xk/\Sm.p c.Xi/\Sm.p c.Xq/\Sm.p c.Ym }
instance{x0:Int}{x1:Int}{x2:Int}{x3:Int}{x4:Int}{x5:Int}{x6:Int}{x7:tR}{x8:tR}{x9:tR}{x10:tL tR}{x11:tL Yu}{x12:Yu}{x13:Int}{x14:Int}{x15:Int}{x16:tR}{x17:Int}{x18:Int}{x19:tR}{x20:Zf}{x21:Int}{x22:Int}{x23:Int}{x24:tR}[h7:Ft x7][h8:Ft x8][h9:Ft x9][h10:Ft x10][h11:Ft x11][h12:Ft x12][h16:Ft x16][h19:Ft x19][h20:Ft x20][h24:Ft x24]:Ft (Xm.mk x0 x1 x2 x3 x4 x5 x6 x7 x8 x9 x10 x11 x12 x13 x14 x15 x16 x17 x18 x19 x20 x21 x22 x23 x24):=⟨⟨h7.ok,h8.ok,h9.ok,h10.ok,h11.ok,h12.ok,h16.ok,h19.ok,h20.ok,h24.ok⟩⟩
instance{c:Xm}[h:Ft c]:Ft c.Zp:=⟨h.ok.1⟩
instance{c:Xm}[h:Ft c]:Ft c.Ye:=⟨h.ok.2.1⟩
instance{c:Xm}[h:Ft c]:Ft c.Wx:=⟨h.ok.2.2.1⟩
instance{c:Xm}[h:Ft c]:Ft c.Wv:=⟨h.ok.2.2.2.1⟩
instance{c:Xm}[h:Ft c]:Ft c.Vj:=⟨h.ok.2.2.2.2.1⟩
instance{c:Xm}[h:Ft c]:Ft c.Xc:=⟨h.ok.2.2.2.2.2.1⟩
instance{c:Xm}[h:Ft c]:Ft c.Xk:=⟨h.ok.2.2.2.2.2.2.1⟩
instance{c:Xm}[h:Ft c]:Ft c.Xi:=⟨h.ok.2.2.2.2.2.2.2.1⟩
instance{c:Xm}[h:Ft c]:Ft c.Xq:=⟨h.ok.2.2.2.2.2.2.2.2.1⟩
instance{c:Xm}[h:Ft c]:Ft c.Ym:=⟨h.ok.2.2.2.2.2.2.2.2.2⟩
instance:Sm Zw:={ p:=λc=>Sm.p c.Ym/\Sm.p c.Wq/\Sm.p c.Us/\I64 c.Id_ }
instance{c:Zw}[h:Ft c]:Ft c.Wq:=⟨h.ok.2.1⟩
instance{c:Zw}[h:Ft c]:Ft c.Us:=⟨h.ok.2.2.1⟩
theorem Ft.api_ConnId_{c:Zw}(h:Ft c):I64 c.Id_:=h.ok.2.2.2
instance:Sm Zs:={ p:=λ_=>True }
instance:Sm Vy:={ p:=λc=>Sm.p c.Xk/\Sm.p c.Wq }
instance{c:Vy}[h:Ft c]:Ft c.Xk:=⟨h.ok.1⟩
instance{c:Vy}[h:Ft c]:Ft c.Wq:=⟨h.ok.2⟩
instance:Sm Xe:={ p:=λc=>Sm.p c.Vw/\Sm.p c.Qa/\Sm.p c.Ky }
instance{c:Xe}[h:Ft c]:Ft c.Vw:=⟨h.ok.1⟩
instance{c:Xe}[h:Ft c]:Ft c.Qa:=⟨h.ok.2.1⟩
instance{c:Xe}[h:Ft c]:Ft c.Ky:=⟨h.ok.2.2⟩
instance:Sm Vh:={ p:=λc=>Sm.p c.Ws/\Sm.p c.Wa }
instance:Sm Vv:={ p:=λc=>Sm.p c.Zo }
instance{c:Vv}[h:Ft c]:Ft c.Zo:=⟨h.ok⟩
instance:Sm Yd:={ p:=λc=>Sm.p c.Ym/\Sm.p c.Wq/\Sm.p c.Vn/\Sm.p c.Vt }
instance{c:Yd}[h:Ft c]:Ft c.Wq:=⟨h.ok.2.1⟩
instance{c:Yd}[h:Ft c]:Ft c.Vn:=⟨h.ok.2.2.1⟩
instance{c:Yd}[h:Ft c]:Ft c.Vt:=⟨h.ok.2.2.2⟩
instance:Sm Uk:={ p:=λc=>Sm.p c.Xi }
instance:Sm Jq:={ p:=λ_=>True }
instance:Sm Ww:={ p:=λc=>Sm.p c.Xp/\Sm.p c.Ut }
instance{c:Ww}[h:Ft c]:Ft c.Xp:=⟨h.ok.1⟩
instance{c:Ww}[h:Ft c]:Ft c.Ut:=⟨h.ok.2⟩
instance:Sm Zb:={ p:=λc=>Sm.p c.Wk/\Sm.p c.Yw/\Sm.p c.Vp/\Sm.p c.Ye }
instance{c:Zb}[h:Ft c]:Ft c.Wk:=⟨h.ok.1⟩
instance{c:Zb}[h:Ft c]:Ft c.Yw:=⟨h.ok.2.1⟩
instance{c:Zb}[h:Ft c]:Ft c.Vp:=⟨h.ok.2.2.1⟩
instance:Sm Xa:={ p:=λc=>Sm.p c.Yg/\Sm.p c.Xk }
instance:Sm Wl:={ p:=λc=>Sm.p c.Qq }
instance{c:Wl}[h:Ft c]:Ft c.Qq:=⟨h.ok⟩
instance:Sm Uv:={ p:=λc=>Sm.p c.Ql/\Sm.p c.To_ }
instance{c:Uv}[h:Ft c]:Ft c.Ql:=⟨h.ok.1⟩
instance{c:Uv}[h:Ft c]:Ft c.To_:=⟨h.ok.2⟩
instance:Sm Yi:={ p:=λc=>Sm.p c.Zl/\Sm.p c.Uf }
instance{c:Yi}[h:Ft c]:Ft c.Zl:=⟨h.ok.1⟩
instance{c:Yi}[h:Ft c]:Ft c.Uf:=⟨h.ok.2⟩
instance:Sm Jb:={ p:=λc=>Sm.p c.Qq }
instance{c:Jb}[h:Ft c]:Ft c.Qq:=⟨h.ok⟩
instance:Sm Qd:={ p:=λc=>Sm.p c.L_ }
instance{c:Qd}[h:Ft c]:Ft c.L_:=⟨h.ok⟩
instance:Sm Jr:={ p:=λc=>Sm.p c.Gi }
instance{c:Jr}[h:Ft c]:Ft c.Gi:=⟨h.ok⟩
instance:Sm Xv:={ p:=λc=>Sm.p c.Yj/\Sm.p c.Uh/\Sm.p c.Qz/\Sm.p c.Qg/\Sm.p c.Xo/\Sm.p c.Kd/\Sm.p c.Kc }
instance{c:Xv}[h:Ft c]:Ft c.Yj:=⟨h.ok.1⟩
instance{c:Xv}[h:Ft c]:Ft c.Uh:=⟨h.ok.2.1⟩
instance{c:Xv}[h:Ft c]:Ft c.Qz:=⟨h.ok.2.2.1⟩
instance{c:Xv}[h:Ft c]:Ft c.Qg:=⟨h.ok.2.2.2.1⟩
instance{c:Xv}[h:Ft c]:Ft c.Xo:=⟨h.ok.2.2.2.2.1⟩
instance{c:Xv}[h:Ft c]:Ft c.Kd:=⟨h.ok.2.2.2.2.2.1⟩
instance{c:Xv}[h:Ft c]:Ft c.Kc:=⟨h.ok.2.2.2.2.2.2⟩
instance:Sm Zh:={ p:=λc=>Sm.p c.S_ }
instance{x0:tR}{x1:tV}[h0:Ft x0]:Ft (Zh.mk x0 x1):=⟨h0.ok⟩
instance{c:Zh}[h:Ft c]:Ft c.S_:=⟨h.ok⟩
instance:Sm Zd:={ p:=λc=>Sm.p c.a0_/\Sm.p c.a1_/\Sm.p c.a2_/\Sm.p c.a3_ }
instance{x0:tR}{x1:tR}{x2:tR}{x3:tR}[h0:Ft x0][h1:Ft x1][h2:Ft x2][h3:Ft x3]:Ft (Zd.mk x0 x1 x2 x3):=⟨⟨h0.ok,h1.ok,h2.ok,h3.ok⟩⟩
instance{c:Zd}[h:Ft c]:Ft c.a0_:=⟨h.ok.1⟩
instance{c:Zd}[h:Ft c]:Ft c.a1_:=⟨h.ok.2.1⟩
instance{c:Zd}[h:Ft c]:Ft c.a2_:=⟨h.ok.2.2.1⟩
instance{c:Zd}[h:Ft c]:Ft c.a3_:=⟨h.ok.2.2.2⟩
instance:Ft (default:Zd):=inferInstanceAs (Ft (Zd.mk [] [] [] []))
instance:Ft (default:Zf):=inferInstanceAs (Ft (Zf.mk 0 0 (Yu.mk 0 0 0) 0 0 0 0 [] [] [] []))
instance:Ft (default:Xm):=inferInstanceAs (Ft (Xm.mk 0 0 0 0 0 0 0 [] [] [] [] [] (Yu.mk 0 0 0) 0 0 0 [] 0 0 [] (Zf.mk 0 0 (Yu.mk 0 0 0) 0 0 0 0 [] [] [] []) 0 0 0 []))
instance{x0:tR}[h:Ft x0]:Tc (bL_ x0):=⟨⟨_,oN_ x0 (by have:=h.len;omega),trivial⟩⟩
instance{x0:tR}[h:Ft x0]:Tc (bq_ x0):=⟨⟨_,uw_ x0 (by have:=h.len;omega),trivial⟩⟩
theorem t_ref27_asks{x0:tL Xr}[Ft x0]:T (jn_ x0):=by
 unfold jn_;exact tot
instance{x0:tL Xr}[Ft x0]:Tc (jn_ x0):=⟨t_ref27_asks⟩
theorem yQ_{x0:tR}[Ft x0]:W (λy=>y=true->1<=x0.length) (eX_ x0):=by
 unfold eX_;exact tot
instance{x0:tR}[Ft x0]:Tk (eX_ x0) (λy=>y=true->1<=x0.length):=⟨yQ_⟩
theorem t_ref22_Name{x0:tR}[Ft x0]:T (jo_ x0):=by
 unfold jo_;exact tot
instance{x0:tR}[Ft x0]:Tc (jo_ x0):=⟨t_ref22_Name⟩
theorem AK_{x0:tR}[Ft x0]:T (hz_ x0):=by
 unfold hz_;exact tot
instance{x0:tR}[Ft x0]:Tc (hz_ x0):=⟨AK_⟩
theorem t_ref22_one{x0:tL Xr}{f:Xr}[Ft x0][Ft f]:W (λy=>y=0->x0.length<32) (ll_ x0 f):=by
 unfold ll_;exact tot
instance{x0:tL Xr}{x1:Xr}[Ft x0][Ft x1]:Tk (ll_ x0 x1) (λy=>y=0->x0.length<32):=⟨t_ref22_one⟩
theorem AL_{x0:tL Xr}[Ft x0]:W (λy=>y=0->x0.length<=32) (dK_ x0):=by
 unfold dK_;refine bE_ (P:=λ_=>x0.length<=32) (W_forI (I:=λs=>s<=32) nn (by decide) (λs h1 j f m=>tot) (λs h1 j f=>by omega)) λ_ h=>ai_ λ_=>h
instance{x0:tL Xr}[Ft x0]:Tk (dK_ x0) (λy=>y=0->x0.length<=32):=⟨AL_⟩
theorem AM_{x0:tR}[h:Ft x0]:W (λy=>y.length<=281474976718848) (hA_ x0):=by
 have u:=h.len;unfold hA_;refine ag_ (P:=λo=>o.1.length<=281474976710656) (cN_ (λs=>s.2.2) (λs=>(s.1.length:Int)<=2*s.2.2/\s.2.2<=(x0.length:Int)) (x0.length:Int) nn (qD 0) ⟨by simp,by simp⟩ λs f ⟨q,m⟩=>?_) λo j=>tot
 unfold pf_;refine al_ (λe=>?_) λe=>tot
 have p:=of_decide_eq_true e;rw[bi_ f (by omega)];exact ag_ (P:=λo=>(o.1.length:Int)<=2*s.2.2+2) tot λo j=>tot
instance{x0:tR}[Ft x0]:Tk (hA_ x0) (λy=>y.length<=281474976718848):=⟨AM_⟩
theorem AN_{x0:tL Xr}[Ft x0]:W (λy=>y.1.length<=13510798882242880) (fT_ x0):=by
 unfold fT_;refine ag_ Tk.ok λc j=>al_ (λ_=>ai_ (by simp)) λh0=>?_
 have m:x0.length<=32:=j (by simpa using h0);refine ag_ (P:=λo=>o.length<=13510798882242880) (cN_ (λs=>s.2) (λs=>(s.1.length:Int)<=422212465070090*s.2/\s.2<=(x0.length:Int)) (x0.length:Int) nn (qD 0) ⟨by simp,by simp⟩ λs h ⟨u,p⟩=>?_) λo f=>ai_ f
 unfold pg_;refine al_ (λe=>?_) λe=>tot
 have q:=of_decide_eq_true e;rw[bi_ h (by omega)];exact ag_ (P:=λo=>(o.length:Int)<=422212465070090*s.2+422212465070090) (ag_ (P:=λo=>(o.length:Int)<=422212465070090*s.2+1) tot λo f=>tot) λo f=>tot
instance{x0:tL Xr}[Ft x0]:Tk (fT_ x0) (λy=>y.1.length<=13510798882242880):=⟨AN_⟩
theorem t_ref27_Text{x0:tL Uj}[Ft x0]:T (jp_ x0):=by
 unfold jp_;refine al_ (λ_=>tot) λh0=>?_
 have q:¬(x0.length:Int)>256:=qn h0;refine bE_ (P:=λ_=>True) (cN_ (λs=>s.2) (λs=>(s.1.length:Int)<=13510798882242881*s.2/\s.2<=(x0.length:Int)) (x0.length:Int) nn (qD 0) ⟨by simp,by simp⟩ λs f ⟨m,h⟩=>?_) λo p=>tot
 unfold q8_;refine al_ (λe=>?_) λe=>tot
 have j:=of_decide_eq_true e;rw[bi_ f (by omega)];exact tot
instance{x0:tL Uj}[Ft x0]:Tc (jp_ x0):=⟨t_ref27_Text⟩
theorem tR_{x0:Zj}{h:Wz}{f:Js}[Ft x0][Ft h][Ft f]:T (eg_ x0 h f):=by
 unfold eg_;exact tot
instance{x0:Zj}{x1:Wz}{x2:Js}[Ft x0][Ft x1][Ft x2]:Tc (eg_ x0 x1 x2):=⟨tR_⟩
theorem t_ref28_in{x0:tL Int}{f:Int}[Ft x0]:T (ks_ x0 f):=by
 unfold ks_;exact tot
instance{x0:tL Int}{x1:Int}[Ft x0]:Tc (ks_ x0 x1):=⟨t_ref28_in⟩
theorem AO_{x0:Zj}{f:Int}[Ft x0]:T (hB_ x0 f):=by
 unfold hB_
 delta ph_
 exact tot
instance{x0:Zj}{x1:Int}[Ft x0]:Tc (hB_ x0 x1):=⟨AO_⟩
theorem t_ref28_at{x0:Zj}{f:Int}[Ft x0]:W (λy=>-1<=y/\y<(x0.Wi.length:Int)) (kt_ x0 f):=by
 unfold kt_;exact tot
instance{x0:Zj}{x1:Int}[Ft x0]:Tk (kt_ x0 x1) (λy=>-1<=y/\y<(x0.Wi.length:Int)):=⟨t_ref28_at⟩
theorem AP_{x0:Zj}{f:Wz}[Ft x0][Ft f]:T (hC_ x0 f):=by
 unfold hC_;exact tot
instance{x0:Zj}{x1:Wz}[Ft x0][Ft x1]:Tc (hC_ x0 x1):=⟨AP_⟩
theorem xA_{x0:Zj}{f:Wz}[Ft x0][Ft f]:T (fG_ x0 f):=by
 unfold fG_;exact tot
instance{x0:Zj}{x1:Wz}[Ft x0][Ft x1]:Tc (fG_ x0 x1):=⟨xA_⟩
theorem AQ_{x0:Zj}{f:Wz}[Ft x0][Ft f]:T (hD_ x0 f):=by
 unfold hD_;exact tot
instance{x0:Zj}{x1:Wz}[Ft x0][Ft x1]:Tc (hD_ x0 x1):=⟨AQ_⟩
theorem AR_{x0:Zj}[Ft x0]:T (hE_ x0):=by
 unfold hE_
 delta pi_
 exact tot
instance{x0:Zj}[Ft x0]:Tc (hE_ x0):=⟨AR_⟩
theorem AS_{x0:Zv}{f:Int}[Ft x0]:T (eB_ x0 f):=by
 unfold eB_;exact tot
instance{x0:Zv}{x1:Int}[Ft x0]:Tc (eB_ x0 x1):=⟨AS_⟩
def PL(l:tL tR)(k:Nat):Prop:=l.length<=k/\∀y∈l,y.length<=1024
theorem PL.ft{l:tL tR}{k:Nat}(h:PL l k)(j:k<=2000):Ft l:=Ft.of (qN h.1 (by omega)) λy f=>(Ft.str (by have:=h.2 y f;omega)).ok
theorem AT_{x0:tR}[h:Ft x0](J:x0.length<=1024):W (λy=>PL y 1025) (kW_ x0):=by
 unfold kW_;refine ag_ (P:=λy=>PL y 1025) (cN_ (λs=>s.2.1) (λs=>(0<=s.1/\s.1<=s.2.1)/\s.2.1<=(x0.length:Int)+1/\(s.2.2.length:Int)<=s.2.1/\∀y∈s.2.2,y.length<=1024) ((x0.length:Int)+1) (by omega) (qD 0) ⟨⟨by simp,by simp⟩,om,by simp,by simp⟩ λs u ⟨⟨m,q⟩,D,C,j⟩=>?_) λo f=>ai_ f
 unfold pk_;refine al_ (λe=>?_) λe=>ai_ ⟨by omega,j⟩
 have F:=of_decide_eq_true e;rw[bi_ u (by omega)];refine ag_ (P:=λo=>(0<=o.1/\o.1<=s.2.1+1)/\(o.2.length:Int)<=s.2.1+1/\∀y∈o.2,y.length<=1024) ?_ λo f=>fj_ (om) rfl ⟨by simpa using f.1,om,om,f.2.2⟩
 refine ag_ (c9_ (R:=True) λ_=>tot) λc _=>al_ (λ_=>?_) λ_=>ai_ ⟨⟨m,om⟩,om,j⟩
 refine ag_ (W_subL m q (by omega)) λy ⟨_,G⟩=>ag_ (mA_ (p:=λy=>y.length<=1024) j (by omega) (by decide) (by omega)) λz x=>ai_ ⟨⟨om,by simp⟩,om,x.1⟩
theorem yR_{x0:tR}[Ft x0]:T (bV_ x0):=by
 unfold bV_;exact tot
instance{x0:tR}[Ft x0]:Tc (bV_ x0):=⟨yR_⟩
theorem AU_{x0:tR}[h:Ft x0]:W (λy=>PL y.1 32) (eC_ x0):=by
 have z:PL [] 32:=⟨qv _,λ_ h=>by cases h⟩;unfold eC_;refine al_ (λ_=>ai_ z) λh0=>?_
 have hl:¬(x0.length:Int)>1024:=qn h0;refine ag_ (AT_ (by omega)) λl hp=>?_
 refine bE_ (P:=λo=>PL o 1025) (cN_ (λs=>s.1) (λs=>PL s.2 1025) 1025 (by decide) (qD 0) hp λs j f=>?_) λo u=>?_
 .have:=f.ft (by decide);unfold pl_;refine al_ (λe=>?_) λe=>ai_ f
  have x:=of_decide_eq_true e;have:=f.1;rw[bi_ j (by omega)];have N:W (StI (λs:Int×tL tR=>s.1) (λs=>PL s.2 1025) (ea_ (λo=>PL o 1025) λy:tL tR×Int=>PL y.1 32) 1025 s) (some (.next (s.1+1,s.2))):=fj_ (show s.1<1025 by omega) rfl f;have N':W (StI (λs:Int×tL tR=>s.1) (λs=>PL s.2 1025) (ea_ (λo=>PL o 1025) λy:tL tR×Int=>PL y.1 32) 1025 s) (rtn ([],6)):=j5_ z;exact tot
 .refine ag_ (P:=λo=>PL o 1025) ?_ λo u=>al_ (λ_=>ai_ z) λh1=>ai_ ⟨by have:=qn h1;show o.length<=32;omega,u.2⟩
  refine cN_ (λs=>s.1) (λs=>PL s.2.1 1025/\(s.2.1.length=o.length/\s.1<=(o.length:Int))/\(s.2.2.length:Int)<=s.1/\∀y∈s.2.2,y.length<=1024) (o.length:Int) (by have:=u.1;omega) (qD 0) ⟨u,⟨rfl,by simp⟩,by simp,by simp⟩ λs j ⟨f,⟨Y,k5⟩,k6,D⟩=>?_
  have:=f.ft (by decide);have:=u.1;unfold pm_;refine al_ (λe=>?_) λe=>ai_ ⟨by have:=u.1;show s.2.2.length<=_;omega,D⟩
  have x:=of_decide_eq_true e;rw[bi_ j (by omega)];refine ag_ (P:=λo=>o.1=s.2.1/\(o.2.length:Int)<=s.1+1/\∀y∈o.2,y.length<=1024) ?_ λq ⟨O,q2,U⟩=>fj_ (om) rfl ⟨by rw[O];exact f,⟨by rw[O];exact Y,om⟩,om,U⟩
  have A:W (λq:tL tR×tL tR=>q.1=s.2.1/\(q.2.length:Int)<=s.1+1/\∀y∈q.2,y.length<=1024) (some s.2):=ai_ ⟨rfl,om,D⟩;have B:W (λq:tL tR×tL tR=>q.1=s.2.1/\(q.2.length:Int)<=s.1+1/\∀y∈q.2,y.length<=1024) ((ah_ s.2.1 s.1).bind λy=>(room 16 s.2.2 [y]).bind λz=>some (s.2.1,z)):=
   ag_ (bg_ j x) λy m=>ag_ (mA_ (p:=λy=>y.length<=1024) D (f.2 y m) (by decide) (by have:=u.1;omega)) λz Z=>ai_ ⟨rfl,om,Z.1⟩
  have C:W (λq:tL tR×tL tR=>q.1=s.2.1/\(q.2.length:Int)<=s.1+1/\∀y∈q.2,y.length<=1024) ((ah_ s.2.1 s.1).bind λy=>(anO (y==[46,46]) ((bV_ x0).bind λM=>some M)).bind λJ=>bif J then some s.2 else(ah_ s.2.1 s.1).bind λG=>(room 16 s.2.2 [G]).bind λF=>some (s.2.1,F)):=
   ag_ (bg_ j x) λy m=>ag_ (dq_ (R:=True) λ_=>tot) λc _=>al_ (λ_=>A) λ_=>B
  refine ag_ (bg_ j x) λy m=>al_ (λ_=>A) λ_=>ag_ (bg_ j x) λy m=>al_ (λ_=>A) λ_=>ag_ (bg_ j x) λy m=>al_ (λ_=>al_ (λe=>?_) λ_=>C) λ_=>C
  have k8:=of_decide_eq_true e;have V:w64 ((s.2.2.length:Int)-1)=(s.2.2.length:Int)-1:=ao_ ⟨by omega,by have:=u.1;omega⟩;rw[V];refine ag_ (bg_ (by omega) (by omega)) λy m=>al_ (λ_=>ag_ (W_sub (by omega) (by omega) (by omega)) λ_ _=>ai_ ⟨rfl,?_,λy m=>D y (qh m)⟩) λ_=>C
  show((s.2.2.take _).length:Int)<=s.1+1;rw[qX];omega
instance{x0:tR}[Ft x0]:Tk (eC_ x0) (λy=>PL y.1 32):=⟨AU_⟩
theorem AV_{x0:tV}{m:tL tR}(h:PL m 32):W (λy=>Ft y/\y≠[]) (kX_ x0 m):=by
 have:=h.ft (by decide);have D:=h.1;unfold kX_;refine ag_ (P:=λo=>o.length<=32800) (cN_ (λs=>s.2) (λs=>(s.1.length:Int)<=1025*s.2/\s.2<=(m.length:Int)) (m.length:Int) nn (qD 0) ⟨by simp,by simp⟩ λs p ⟨C,x⟩=>?_) λo u=>?_
 .unfold pn_;refine al_ (λe=>?_) λe=>tot
  have q:=of_decide_eq_true e;rw[bi_ p (by omega)];refine ag_ (P:=λo=>(o.length:Int)<=1025*s.2+1) tot λo u=>ag_ (bg_ p q) λy j=>?_
  have:=h.2 y j;exact tot
 .have:=Ft.str (s:=o) (by omega);exact al_ (λ_=>ag_ (mw_ (by simp;omega)) λy j=>ai_ ⟨Ft.str (by simp at j;omega),λe=>by rw[e]at j;simp at j;omega⟩) λ_=>al_ (λ_=>ai_ ⟨inferInstance,λe=>by cases e⟩) λe=>ai_ ⟨this,λf=>by rw[f]at e;cases e⟩
theorem AW_{x0:tR}[Ft x0]:W (λy=>Ft y.1/\(y.2=0->y.1≠[])) (dL_ x0):=by
 unfold dL_;exact ag_ Tk.ok λy j=>al_ (λe=>ai_ ⟨inferInstance,λ(f:y.2=0)=>by rw[f]at e;cases e⟩) λ_=>ag_ Tc.ok λc _=>ag_ (AV_ j) λz h=>ai_ ⟨h.1,λ_=>h.2⟩
instance{x0:tR}[Ft x0]:Tk (dL_ x0) (λy=>Ft y.1/\(y.2=0->y.1≠[])):=⟨AW_⟩
theorem yS_{x0:Zv}{f:Wr}[Ft x0][Ft f]:T (gt_ x0 f):=by
 unfold gt_;exact tot
instance{x0:Zv}{x1:Wr}[Ft x0][Ft x1]:Tc (gt_ x0 x1):=⟨yS_⟩
theorem AX_{x0:Zv}[Ft x0]:T (hF_ x0):=by
 unfold hF_
 delta po_
 exact tot
instance{x0:Zv}[Ft x0]:Tc (hF_ x0):=⟨AX_⟩
theorem yT_{x0:tL tR}[Ft x0]:T (gu_ x0):=by
 unfold gu_;refine al_ (λ_=>tot) λ_=>al_ (λ_=>tot) λh0=>?_
 have F:¬(x0.length:Int)>256:=qn h0;refine bE_ (P:=λ_=>True) (cN_ (λs=>s.2) (λs=>(s.1.length:Int)<=140737488351233*s.2/\s.2<=(x0.length:Int)) (x0.length:Int) nn (qD 0) ⟨by simp,by simp⟩ λs m ⟨C,x⟩=>?_) λo q=>tot
 unfold nM_;refine al_ (λe=>?_) λe=>tot
 have p:=of_decide_eq_true e;rw[bi_ m (by omega)];refine W_afdI (P:=λ_=>True) ?_ λ_ _=>ag_ (P:=λo=>(o.length:Int)<=140737488351233*s.2+1) tot λo q=>tot
 obtain⟨y,ey,D⟩:=j4_ (xs:=x0) m p;have u:jq_ x0 s=λf=>bif decide (f<(y.length:Int))then(ap_ y f).bind λh=>bif(h==0)then rtn ([],2)else nxt f else some (.done (.fall ())):=by
  funext f
  unfold jq_;rw[ey];rfl
 rw[u];exact gN_ (xs:=y) λj h1 J G=>tot
instance{x0:tL tR}[Ft x0]:Tc (gu_ x0):=⟨yT_⟩
theorem AY_{x0:Vz}{f:tR}[Ft x0][Ft f]:T (hG_ x0 f):=by
 unfold hG_;exact tot
instance{x0:Vz}{x1:tR}[Ft x0][Ft x1]:Tc (hG_ x0 x1):=⟨AY_⟩
theorem AZ_{x0:tL Vz}[Ft x0]:T (hH_ x0):=by
 unfold hH_;exact tot
instance{x0:tL Vz}[Ft x0]:Tc (hH_ x0):=⟨AZ_⟩
theorem A0_{x0:Yp}[Ft x0]:T (hI_ x0):=by
 unfold hI_;exact tot
instance{x0:Yp}[Ft x0]:Tc (hI_ x0):=⟨A0_⟩
theorem t_ref18_next{x0:Uo}[Ft x0]:T (jw_ x0):=by
 unfold jw_;exact tot
instance{x0:Uo}[Ft x0]:Tc (jw_ x0):=⟨t_ref18_next⟩
theorem t_ref18_end{x0:Kg}[Ft x0]:T (i5_ x0):=by
 unfold i5_;exact tot
instance{x0:Kg}[Ft x0]:Tc (i5_ x0):=⟨t_ref18_end⟩
set_option linter.unusedSectionVars false
theorem vp_{x0:Jn}[Ft x0]:T (e0_ x0):=by
 unfold e0_;exact tot
instance{x0:Jn}[Ft x0]:Tc (e0_ x0):=⟨vp_⟩
theorem A1_{x0:Uo}[Ft x0]:T (hN_ x0):=by
 unfold hN_;exact tot
instance{x0:Uo}[Ft x0]:Tc (hN_ x0):=⟨A1_⟩
theorem tS_{x0:Int}  : T (ej_ x0):=by
 unfold ej_;exact tot
instance{x0:Int}  : Tc (ej_ x0):=⟨tS_⟩
theorem A2_{x0:Jp}[Ft x0]:T (hO_ x0):=by
 unfold hO_;exact tot
instance{x0:Jp}[Ft x0]:Tc (hO_ x0):=⟨A2_⟩
theorem A3_{x0:Un}[Ft x0]:T (hP_ x0):=by
 unfold hP_
 delta pp_
 exact tot
instance{x0:Un}[Ft x0]:Tc (hP_ x0):=⟨A3_⟩
theorem t_ref23_text{x0:tR}[Ft x0]:T (g3_ x0):=by
 unfold g3_;exact tot
instance{x0:tR}[Ft x0]:Tc (g3_ x0):=⟨t_ref23_text⟩
theorem A4_{x0:tR}[Ft x0]:T (eD_ x0):=by
 unfold eD_;exact tot
instance{x0:tR}[Ft x0]:Tc (eD_ x0):=⟨A4_⟩
theorem gP_{p:Xw}{i:Zc}(h:p.L_.length<=100000):W (λq=>q={ p with L_:=p.L_++[i] }) (bn_ p i):=by
 unfold bn_;exact⟨_,ae_ (cL_ (by simp;omega) (by simp;omega)) rfl,rfl⟩
theorem is21{x:tR}{p:Xw}{c:Int}(h:p.Zy=false->0<=p.At_):W (λr=>r.2=p/\(r.1=true->p.Zy=false/\p.At_<(x.length:Int))) (eE_ x p c):=by
 unfold eE_;refine ag_ (dq_ (R:=True) λe=>?_) λc f=>ai_ ⟨rfl,λe=>?_⟩
 .have e:p.Zy=false/\p.At_<(x.length:Int):=by simpa using e
  exact ag_ (cd_ (h e.1) e.2) λ_ _=>ai_ λ_=>trivial
 .have:=(f e).1;simpa using this
structure P0(x:tR)(p:Xw):Prop where
 h0:0<=p.At_
 h1:p.At_<=(x.length:Int)
 hL:(p.L_.length:Int)<=2*p.At_+10
 hx:x.length<=256
structure RX(x:tR)(p q:Xw)(k:Int):Prop where
 len:p.L_.length<=q.L_.length
 ok:q.Zy=false->p.At_+k<=q.At_/\q.At_<=(x.length:Int)/\(q.L_.length:Int)<=p.L_.length+2*(q.At_-p.At_)
theorem RX.bad{x:tR}{p q:Xw}{k:Int}(h:p.L_.length<=q.L_.length)(e:q.Zy=true):RX x p q k:=⟨h,λf=>by rw[e]at f;cases f⟩
theorem RX.pos{x:tR}{p q:Xw}{k:Int}(h:RX x p q k)(z:P0 x p)(j:0<=k)(f:q.Zy=false):P0 x q:=by
 have:=h.ok f;exact⟨by have:=z.h0;omega,by omega,by have:=z.hL;omega,z.hx⟩
theorem RX.weak{x:tR}{p q:Xw}{k j:Int}(h:RX x p q k)(f:j<=k):RX x p q j:=⟨h.len,λe=>by have:=h.ok e;omega⟩
theorem RX.trans{x:tR}{p q r:Xw}{j k:Int}(h:RX x p q j)(g:RX x q r k)(f:q.Zy=false):RX x p r (j+k):=
 ⟨qN h.len g.len,λe=>by have:=h.ok f;have:=g.ok e;omega⟩
theorem class21{x:tR}{p:Xw}(h:P0 x p)(ZZ:p.At_<(x.length:Int)):W (λq=>RX x p q 1) (hQ_ x p):=by
 obtain⟨h0,h1,hL,hx⟩:=h;have e1:w64 (p.At_+1)=p.At_+1:=ao_ ⟨by omega,by omega⟩;have e2:w64 (p.At_+1+1)=p.At_+1+1:=ao_ ⟨by omega,by omega⟩;unfold hQ_;rw[e1,e2];refine ag_ (P:=λo=>(p.At_+1<=o.1/\o.1<=(x.length:Int))/\o.2.2.2.1=p.L_) ?_ λU ⟨g1,g2⟩=>?_
 .refine ag_ (is21 λ_=>by show 0<=p.At_+1;omega) λr ⟨m,C⟩=>al_ (λe=>ai_ ⟨?_,by rw[m]⟩) λe=>ai_ ⟨⟨qD _,by show p.At_+1<=_;omega⟩,by rw[m]⟩
  have:p.At_+1<(x.length:Int):=(C e).2;exact⟨by show p.At_+1<=p.At_+1+1;omega,by show p.At_+1+1<=_;omega⟩
 refine bE_ (P:=λo=>(p.At_+1<=o.1/\o.1<=(x.length:Int))/\o.2.2.2.1=p.L_) (W_lpm (λs=>(257-s.1).toNat) (λs=>((p.At_+1<=s.1/\s.1<=(x.length:Int))/\s.2.2.2.1=p.L_)/\(s.2.2.2.2.length:Int)<=2*s.1) (by show(257-U.1).toNat<_;omega) ⟨⟨g1,g2⟩,by show(0:Int)<=2*U.1;omega⟩ λs ⟨⟨⟨k1,k2⟩,j⟩,k4⟩=>?_) λo ⟨g3,u⟩=>?_
 .have f1:w64 (s.1+1)=s.1+1:=ao_ ⟨by omega,by omega⟩;have f2:w64 (s.1+1+1)=s.1+1+1:=ao_ ⟨by omega,by omega⟩;unfold pq_;rw[f1,f2];refine ag_ (dq_ (R:=True) λe=>ag_ (cd_ (by omega) (of_decide_eq_true e)) λ_ _=>ai_ λ_=>trivial) λy hy=>al_ (λe=>?_) λ_=>ai_ ⟨⟨k1,k2⟩,j⟩
  have lt:s.1<(x.length:Int):=of_decide_eq_true (hy e).1;refine ag_ (cd_ (by omega) lt) λc _=>ag_ (c9_ (R:=True) λ_=>ag_ (cd_ (by omega) lt) λ_ _=>ai_ λ_=>trivial) λd _=>al_ (λ_=>StM_r (RX.bad (by show _<=s.2.2.2.1.length;rw[j];exact qA _) rfl)) λ_=>?_
  refine ag_ (P:=λo=>o.2.1=p.L_/\(o.2.2.2.2=false->s.1+1<=o.2.2.1/\o.2.2.1<=(x.length:Int))) ?_ λf ⟨J,v2⟩=>?_
  .refine ag_ (cd_ (by omega) lt) λc _=>al_ (λ_=>ai_ ⟨j,λ_=>⟨qD _,by show s.1+1<=_;omega⟩⟩) λ_=>al_ (λ_=>ai_ ⟨j,λh=>nomatch h⟩) λe=>?_
   have G:s.1+1<(x.length:Int):=by
    have:¬s.1+1=(x.length:Int):=by simpa using e
    omega
   have A:s.1+1<=s.1+1+1/\s.1+1+1<=(x.length:Int):=by omega
   exact ag_ (cd_ (by omega) G) λc _=>al_ (λ_=>ai_ ⟨j,λ_=>A⟩) λ_=>al_ (λ_=>ai_ ⟨j,λ_=>A⟩) λ_=>ai_ ⟨j,λ_=>A⟩
  refine W_afdM (P:=λo=>o.2.1=p.L_/\(o.2.2.2.2=false->s.1+1<=o.2.2.1/\o.2.2.1<=(x.length:Int))) ?_ λO ⟨u1,u2⟩=>al_ (λe=>StM_r (RX.bad (by show _<=O.2.1.length;rw[u1];exact qA _) e)) λe=>?_
  .refine ag_ (is21 λe=>by have:=v2 e;show 0<=f.2.2.1;omega) λr ⟨m,C⟩=>al_ (λe=>?_) λe=>ai_ ⟨by rw[m];exact J,v2⟩
   obtain⟨b1,Y⟩:=C e;have Y:f.2.2.1<(x.length:Int):=Y;have b3:=v2 b1;have q1:w64 (f.2.2.1+1)=f.2.2.1+1:=ao_ ⟨by omega,by omega⟩;have q2:w64 (f.2.2.1+1+1)=f.2.2.1+1+1:=ao_ ⟨by omega,by omega⟩;have Z:w64 (f.2.2.1+1+1+1)=f.2.2.1+1+1+1:=ao_ ⟨by omega,by omega⟩;have rl:r.2.L_=p.L_:=by rw[m];exact J
   rw[q1,q2,Z];have ne:∀{c:tV},(((f.2.2.1+1)==(x.length:Int))||c)=false->f.2.2.1+1<(x.length:Int):=fun{c} h=>by
    have:¬f.2.2.1+1=(x.length:Int):=by
     have:=(qP.1 h).1;simpa using this
    omega
   refine ag_ (c9_ (R:=True) λe=>ag_ (cd_ (by omega) (ne (c:=false) (by simpa using e))) λ_ _=>ai_ λ_=>trivial) λc V=>ag_ (c9_ (R:=True) λe=>ag_ (cd_ (by omega) (ne (c:=false) (by simpa using(V e).1))) λ_ _=>ai_ λ_=>trivial) λd hd=>al_ (λ_=>ai_ (RX.bad (by show _<=r.2.L_.length;rw[rl];exact qA _) rfl)) λe=>?_
   have F:=ne (c:=false) (by simpa using(V (hd e).1).1);refine ag_ (P:=λo=>o.2.1=p.L_/\(o.2.2.2.2=false->s.1+1<=o.2.2.1/\o.2.2.1<=(x.length:Int))) ?_ λo6 ⟨M,t2⟩=>al_ (λ_=>ai_ ⟨M,λh=>nomatch h⟩) λ_=>ai_ ⟨M,t2⟩
   refine ag_ (cd_ (by omega) F) λc _=>al_ (λ_=>ai_ ⟨rl,λ_=>⟨om,om⟩⟩) λ_=>al_ (λ_=>ai_ ⟨rl,λh=>nomatch h⟩) λe=>?_
   have D:f.2.2.1+1+1<(x.length:Int):=by
    have:¬f.2.2.1+1+1=(x.length:Int):=by simpa using e
    omega
   exact ag_ (cd_ (by omega) D) λc _=>al_ (λ_=>ai_ ⟨rl,λ_=>⟨om,om⟩⟩) λ_=>al_ (λ_=>ai_ ⟨rl,λ_=>⟨om,om⟩⟩) λ_=>ai_ ⟨rl,λ_=>⟨om,om⟩⟩
  .have:=u2 e;refine ag_ (P:=λz=>(z.length:Int)<=2*O.2.2.1) ?_ λz hz=>StM_h (om) ⟨⟨⟨om,om⟩,u1⟩,hz⟩
   refine⟨_,cL_ (by simp;omega) (by simp;omega),?_⟩;simp;omega
 .refine al_ (λ_=>ai_ (RX.bad (by show _<=o.2.2.2.1.length;rw[u];exact qA _) rfl)) λe=>?_
  have lt:o.1<(x.length:Int):=by
   have:¬o.1=(x.length:Int):=by simpa using e
   omega
  rw[ao_ ⟨by omega,by omega⟩];refine ag_ (gP_ (by show o.2.2.2.1.length<=_;rw[u];omega)) λq hq=>?_
  subst hq;refine ai_ ⟨?_,λ_=>⟨?_,?_,?_⟩⟩
  .show _<=(o.2.2.2.1++_).length;rw[u,qLa];omega
  .show _<=o.1+1;omega
  .show o.1+1<=_;omega
  .show((o.2.2.2.1++_).length:Int)<=_+2*(o.1+1-_);rw[u,qLa,jZ];omega
theorem xB_{x0:Int}  : T (fH_ x0):=by
 unfold fH_;exact tot
instance{x0:Int}  : Tc (fH_ x0):=⟨xB_⟩
theorem atom21{f:tR->Xw->tO Xw}{x:tR}{p:Xw}(J:∀q,P0 x q->q.Zy=false->p.At_<q.At_->W (λr=>RX x q r 0) (f x q))(h:P0 x p)(M:p.Zy=false)(m:p.At_<(x.length:Int)):W (λq=>RX x p q 1) (jx_ f x p):=by
 obtain⟨h0,h1,hL,hx⟩:=id h;have V:w64 (p.At_+1)=p.At_+1:=ao_ ⟨by omega,by omega⟩;have U:w64 (p.At_+1+1)=p.At_+1+1:=ao_ ⟨by omega,by omega⟩;unfold jx_;rw[V,U];have E:∀i,W (ea_ (λo:P_5=>p.L_.length<=o.2.2.2.length/\(o.2.2.1=false->p.At_<=o.1/\o.1<(x.length:Int)/\(o.2.2.2.length:Int)<=p.L_.length+2*(o.1+1-p.At_))) (λq=>RX x p q 1)) ((bn_ p i).bind λy=>some (.fall (y.At_,y.N_,y.Zy,y.L_))):=λi=>by
  refine ag_ (gP_ (by omega)) λq j=>?_
  subst j;exact ai_ ⟨by simp,λ_=>⟨qD _,m,by simp;omega⟩⟩
 refine ag_ (cd_ h0 m) λy _=>bE_ (P:=λo:P_5=>p.L_.length<=o.2.2.2.length/\(o.2.2.1=false->p.At_<=o.1/\o.1<(x.length:Int)/\(o.2.2.2.length:Int)<=p.L_.length+2*(o.1+1-p.At_))) (al_ (λ_=>al_ (λ_=>ai_ (RX.bad (qA _) rfl)) λ_=>?_) λ_=>al_ (λ_=>E _) λ_=>al_ (λ_=>E _) λ_=>al_ (λ_=>E _) λ_=>al_ (λ_=>ag_ (class21 h m) λq j=>ai_ j) λ_=>ag_ Tc.ok λ_ _=>al_ (λ_=>ai_ (RX.bad (qA _) rfl)) λ_=>?_) λo ⟨g1,O⟩=>ai_ ⟨g1,λe=>?_⟩
 .refine ag_ (gP_ (by show p.L_.length<=_;omega)) λq j=>?_
  subst j;have z:P0 x ⟨p.L_++[Zc.mk 8 0 [] false (w64 (2*w64 (p.N_+1))) 0],p.At_+1,w64 (p.N_+1),p.Zy⟩:=⟨by show 0<=p.At_+1;omega,by show p.At_+1<=_;omega,by show((p.L_++[_]).length:Int)<=2*(p.At_+1)+10;simp;omega,hx⟩;refine ag_ (J _ z M (by show p.At_<p.At_+1;omega)) λq j=>ag_ (is21 λe=>by have:=(j.ok e).1;have:p.At_+1+0<=q.At_:=this;omega) λr ⟨C,G⟩=>?_
  have l1:p.L_.length+1<=q.L_.length:=by have:=j.len;simpa using this
  refine al_ (λ_=>ai_ (RX.bad (by show _<=r.2.L_.length;rw[C];omega) rfl)) λe=>?_
  obtain⟨Z,Y⟩:=G (by simpa using e);obtain⟨F,c2,D⟩:=j.ok Z;have F:p.At_+1+0<=q.At_:=F;have D:(q.L_.length:Int)<=((p.L_.length+1:Nat):Int)+2*(q.At_-(p.At_+1)):=by simpa using D
  rw[C];refine ag_ (gP_ (by show q.L_.length<=_;omega)) λq' u=>?_
  subst u;exact ai_ ⟨by show _<=(q.L_++[_]).length;simp;omega,λ_=>⟨by show _<=q.At_;omega,Y,by show((q.L_++[_]).length:Int)<=_+2*(q.At_+1-_);simp;omega⟩⟩
 .refine ag_ (P:=λo:Int×P_5=>o.2.2.2.2=p.L_/\(o.2.2.2.1=false->p.At_+1<=o.2.1/\o.2.1<=(x.length:Int))) ?_ λo ⟨u1,u2⟩=>al_ (λe=>ai_ (RX.bad (by show _<=o.2.2.2.2.length;rw[u1];exact qA _) e)) λe=>?_
  .refine ag_ (cd_ h0 m) λc _=>al_ (λ_=>ai_ ⟨rfl,λ_=>⟨qD _,by show p.At_+1<=_;omega⟩⟩) λ_=>al_ (λ_=>ai_ ⟨rfl,λh=>nomatch h⟩) λe=>?_
   have s:p.At_+1<(x.length:Int):=by
    have:¬p.At_+1=(x.length:Int):=by simpa using e
    omega
   have A:p.At_+1<=p.At_+1+1/\p.At_+1+1<=(x.length:Int):=by omega
   exact ag_ (cd_ (by omega) s) λc _=>al_ (λ_=>ai_ ⟨rfl,λ_=>A⟩) λ_=>al_ (λ_=>ai_ ⟨rfl,λ_=>A⟩) λ_=>ai_ ⟨rfl,λ_=>A⟩
  .have:=u2 e;refine ag_ (gP_ (by show o.2.2.2.2.length<=_;rw[u1];omega)) λq j=>?_
   subst j;refine ai_ ⟨?_,λ_=>⟨this.1,this.2,?_⟩⟩
   .show _<=(o.2.2.2.2++[_]).length;rw[u1];simp
   .show((o.2.2.2.2++[_]).length:Int)<=_+2*(o.2.1-_);rw[u1];simp;omega
 .obtain⟨a1,a2,a3⟩:=O e;have:w64 (o.1+1)=o.1+1:=ao_ ⟨by omega,by omega⟩;show p.At_+1<=w64 (o.1+1)/\w64 (o.1+1)<=_/\_<=_+2*(w64 (o.1+1)-_);rw[this];exact⟨by omega,by omega,a3⟩
theorem vr_{p:Xw}{n:Nat}{i:Zc}(D:n<=p.L_.length)(F:p.L_.length<=10000):W (λq=>q.At_=p.At_/\q.Zy=p.Zy/\q.L_.length=p.L_.length+1) (e1_ p (n:Int) i):=by
 unfold e1_;refine ag_ (W_sub (by omega) (by omega) (by omega)) λ_ _=>ag_ (P:=λy=>y.length=n) ⟨_,cL_ (by simp;omega) (by simp;omega),by simp;omega⟩ λy j=>ag_ (P:=λy=>y.length=n+1) ⟨_,cL_ (by simp;omega) (by simp;omega),by simp;omega⟩ λz C=>?_
 refine ag_ (P:=λs=>s.2.length=p.L_.length+1) (cN_ (λs=>s.1) (λs=>s.2.1=p.L_/\(s.2.2.length:Int)=s.1+1/\s.1<=(p.L_.length:Int)) (p.L_.length:Int) (by omega) (by show(0:Int)<=n;omega) ⟨rfl,by show(z.length:Int)=n+1;omega,by show(n:Int)<=_;omega⟩ λs f ⟨h,x,u⟩=>?_) λs m=>ai_ ⟨rfl,rfl,m⟩
 unfold nR_;rw[h];refine al_ (λe=>?_) λe=>ai_ (by have:=qn e;show s.2.2.length=_;omega)
 have lt:=of_decide_eq_true e;rw[bi_ f (by omega)];refine ag_ (bg_ f lt) λc _=>ag_ (P:=λ_=>True) (al_ (λ_=>ai_ trivial) λ_=>ai_ trivial) λd _=>ag_ (P:=λ_=>True) (al_ (λ_=>ai_ trivial) λ_=>ai_ trivial) λg _=>ag_ (P:=λy=>(y.length:Int)=s.1+2) ⟨_,cL_ (by simp;omega) (by simp;omega),by simp;omega⟩ λy j=>fj_ lt rfl ⟨rfl,by show(y.length:Int)=s.1+1+1;omega,by show s.1+1<=_;omega⟩
theorem piece21{f:tR->Xw->tO Xw}{x:tR}{p:Xw}(hf:∀q,P0 x q->q.Zy=false->p.At_<q.At_->W (λr=>RX x q r 0) (f x q))(h:P0 x p)(hb:p.Zy=false)(M:p.At_<(x.length:Int)):W (λq=>RX x p q 1) (ix_ f x p):=by
 obtain⟨h0,h1,hL,hx⟩:=id h;unfold ix_;refine ag_ (atom21 hf h hb M) λy F=>?_
 have O:=F.len;have G:y.Zy=false->0<=y.At_:=λe=>by have:=(F.ok e).1;omega
 have key:y.Zy=false->y.At_<(x.length:Int)->w64 (y.At_+1)=y.At_+1/\y.L_.length<=9000/\p.At_+1<=y.At_/\(y.L_.length:Int)<=p.L_.length+2*(y.At_-p.At_):=λe1 e2=>by
  obtain⟨a,b,c⟩:=F.ok e1;exact⟨ao_ ⟨by omega,by omega⟩,by omega,a,c⟩
 refine ag_ (P:=λo:P_5=>RX x p ⟨o.2.2.2,o.1,o.2.1,o.2.2.1⟩ 1) ?_ λo Z=>ai_ Z
 refine ag_ (is21 G) λr ⟨m,u⟩=>al_ (λe=>?_) λ_=>?_
 .obtain⟨D,j⟩:=u e;have j:y.At_<(x.length:Int):=j;obtain⟨C,Y,V,U⟩:=key D j;rw[m,C];refine ag_ (vr_ (by exact O) (by show y.L_.length<=_;omega)) λz ⟨s,z2,z3⟩=>?_
  have s:z.At_=y.At_+1:=s;have z3:z.L_.length=y.L_.length+1:=z3;refine ag_ (gP_ (by omega)) λq J=>?_
  subst J;refine ag_ (bg_ (by omega) (by show _<((z.L_++[_]).length:Int);simp;omega)) λc _=>ai_ ⟨by show _<=((z.L_++[_]).set _ _).length;simp;omega,λ_=>⟨by show _<=z.At_;omega,by show z.At_<=_;omega,by show(((z.L_++[_]).set _ _).length:Int)<=_+2*(z.At_-_);simp;omega⟩⟩
 rw[m];refine ag_ (is21 G) λr ⟨m,u⟩=>al_ (λe=>?_) λ_=>?_
 .obtain⟨D,j⟩:=u e;have j:y.At_<(x.length:Int):=j;obtain⟨C,Y,V,U⟩:=key D j;rw[m,C];refine ag_ (gP_ (by show y.L_.length<=_;omega)) λq J=>?_
  subst J;exact ai_ ⟨by show _<=(y.L_++[_]).length;simp;omega,λ_=>⟨by show _<=y.At_+1;omega,by show y.At_+1<=_;omega,by show((y.L_++[_]).length:Int)<=_+2*(y.At_+1-_);simp;omega⟩⟩
 rw[m];refine ag_ (is21 G) λr ⟨m,u⟩=>al_ (λe=>?_) λ_=>ai_ ⟨by show _<=r.2.L_.length;rw[m];exact O,λe=>by have:=F.ok e;show _/\_/\(r.2.L_.length:Int)<=_;rw[m];exact this⟩
 obtain⟨D,j⟩:=u e;have j:y.At_<(x.length:Int):=j;obtain⟨C,Y,V,U⟩:=key D j;rw[m,C];refine ag_ (vr_ (by exact O) (by show y.L_.length<=_;omega)) λz ⟨s,z2,z3⟩=>?_
 have s:z.At_=y.At_+1:=s;have z3:z.L_.length=y.L_.length+1:=z3;exact ag_ (bg_ (by omega) (by omega)) λc _=>ai_ ⟨by show _<=(z.L_.set _ _).length;simp;omega,λ_=>⟨by show _<=z.At_;omega,by show z.At_<=_;omega,by show((z.L_.set _ _).length:Int)<=_+2*(z.At_-_);simp;omega⟩⟩
theorem branch21{f:tR->Xw->tO Xw}{x:tR}{p:Xw}(C:∀q,P0 x q->q.Zy=false->p.At_<q.At_->W (λr=>RX x q r 0) (f x q))(h:P0 x p)(F:p.Zy=false):W (λq=>RX x p q 0) (g4_ f x p):=by
 unfold g4_;refine ag_ (P:=λs=>RX x p ⟨s.2.2.2,s.1,s.2.1,s.2.2.1⟩ 0) (W_lpm (λs=>bif s.2.2.1 then 0 else(257-s.1).toNat+1) (λs=>RX x p ⟨s.2.2.2,s.1,s.2.1,s.2.2.1⟩ 0) (by show(bif p.Zy then 0 else(257-p.At_).toNat+1)<_;rw[F];have:=h.h0;show(257-p.At_).toNat+1<_;omega) ⟨qA _,λ_=>⟨by show p.At_+0<=p.At_;omega,h.h1,by show(p.L_.length:Int)<=p.L_.length+2*(p.At_-p.At_);omega⟩⟩ λs k=>?_) λs k=>ai_ k
 have hx:=h.hx;unfold nS_;refine ag_ (dq_ (R:=True) λe=>?_) λc u=>ag_ (dq_ (R:=True) λe=>?_) λd D=>al_ (λe=>?_) λ_=>ai_ k
 .have e:s.2.2.1=false/\s.1<(x.length:Int):=by simpa using e
  have:=(k.pos h (qD 0) e.1).h0;exact ag_ (cd_ this e.2) λ_ _=>ai_ λ_=>trivial
 .have e:s.2.2.1=false/\s.1<(x.length:Int):=by simpa using(u e).1
  have:=(k.pos h (qD 0) e.1).h0;exact ag_ (cd_ this e.2) λ_ _=>ai_ λ_=>trivial
 .have e:s.2.2.1=false/\s.1<(x.length:Int):=by simpa using(u (D e).1).1
  have z:=k.pos h (qD 0) e.1;have g:p.At_+0<=s.1:=(k.ok e.1).1;refine ag_ (piece21 (λq m j y=>C q m j (by have:s.1<q.At_:=y;omega)) z e.1 e.2) λq m=>StM_h ?_ ((k.trans m e.1).weak (by decide))
  show(bif q.Zy then 0 else(257-q.At_).toNat+1)<(bif s.2.2.1 then 0 else(257-s.1).toNat+1);rw[e.1];cases j:q.Zy with
  | true=>exact Nat.succ_pos _
  | false=>
   have:s.1+1<=q.At_:=(m.ok j).1;show(257-q.At_).toNat+1<(257-s.1).toNat+1;omega
theorem regex21{x:tR}:∀(n:Nat) (p:Xw),P0 x p->p.Zy=false->(x.length:Int)-p.At_<n->W (λq=>RX x p q 0) (fW_ n x p)
 | 0,p,h,_,J=>by have:=h.h1;omega
 | n+1,p,h,M,J=>by
  obtain⟨h0,h1,hL,hx⟩:=id h;show W _ (iy_ (fW_ n) x p);unfold iy_;refine ag_ (branch21 (λq f m C=>regex21 n q f m (by omega)) h M) λy j=>ag_ (is21 λe=>by have:=(j.ok e).1;omega) λr ⟨u,G⟩=>al_ (λ_=>ai_ (by rw[u];exact j)) λe=>?_
  obtain⟨D,b2⟩:=G (by simpa using e);obtain⟨Z,Y,V⟩:=j.ok D;have C:=j.len;have O:w64 (y.At_+1)=y.At_+1:=ao_ ⟨by omega,by omega⟩;rw[u,O];refine ag_ (vr_ (by exact C) (by show y.L_.length<=_;omega)) λz ⟨s,z2,z3⟩=>?_
  have s:z.At_=y.At_+1:=s;have z2:z.Zy=y.Zy:=z2;have z3:z.L_.length=y.L_.length+1:=z3;refine ag_ (gP_ (by omega)) λq f=>?_
  subst f;refine ag_ (bg_ (by omega) (by show _<((z.L_++[_]).length:Int);simp;omega)) λc _=>?_
  refine ag_ (regex21 n _ ⟨by show 0<=z.At_;omega,by show z.At_<=_;omega,by show(((z.L_++[_]).set _ _).length:Int)<=2*z.At_+10;simp;omega,hx⟩ (by show z.Zy=false;rw[z2,D]) (by show _-z.At_<_;omega)) λq f=>?_
  have U:z.L_.length+1<=q.L_.length:=by have:=f.len;simpa using this
  refine ag_ (bg_ (by omega) (by omega)) λc _=>ai_ ⟨by show _<=(q.L_.set _ _).length;simp;omega,λe=>?_⟩
  obtain⟨F,a2,a3⟩:=f.ok e;have F:z.At_+0<=q.At_:=F;have a3:(q.L_.length:Int)<=((z.L_.length+1:Nat):Int)+2*(q.At_-z.At_):=by simpa using a3
  exact⟨by show _<=q.At_;omega,a2,by show((q.L_.set _ _).length:Int)<=_+2*(q.At_-_);simp;omega⟩
theorem xC_{x0:tR}:T (fI_ x0):=by
 unfold fI_;refine al_ (λ_=>ai_ trivial) λe=>?_
 have hx:=qn e;refine ag_ (gP_ (by show 0<=_;omega)) λq f=>?_
 subst f;refine ag_ (regex21 BIG _ ⟨qD 0,by show(0:Int)<=_;omega,by show(1:Int)<=2*0+10;omega,by omega⟩ rfl (by show(x0.length:Int)-0<_;unfold BIG;omega)) λq f=>al_ (λ_=>ai_ trivial) λe=>?_
 have:q.Zy=false:=(qP.1 e).1;have h1:=(f.ok this).2.2;have j:=(f.ok this).2.1;have h:(q.L_.length:Int)<=1+2*(q.At_-0):=h1;refine ag_ (gP_ (by omega)) λr hr=>?_
 subst hr;exact ag_ (gP_ (by show(q.L_++[_]).length<=_;simp;omega)) λ_ _=>ai_ trivial
instance{x0:tR}:Tc (fI_ x0):=⟨xC_⟩
theorem xD_{x0:Qx}[Ft x0]:T (fJ_ x0):=by
 unfold fJ_;exact tot
instance{x0:Qx}[Ft x0]:Tc (fJ_ x0):=⟨xD_⟩
theorem A5_{x0:Ue}[Ft x0]:W (λy=>y=true->x0.Qb.length<=32) (hR_ x0):=by
 unfold hR_;refine al_ (λ_=>ai_ (by simp)) λe=>?_
 have h:x0.Qb.length<=32:=by simp at e;omega
 exact bE_ (Q:=λy=>y=true->x0.Qb.length<=32) (P:=λ_=>True) (gN_ λa b c d=>tot) λ_ _=>ai_ λ_=>h
instance{x0:Ue}[Ft x0]:Tk (hR_ x0) (λy=>y=true->x0.Qb.length<=32):=⟨A5_⟩
theorem t_ref23_Text{x0:tL Ue}[Ft x0]:T (jy_ x0):=by
 unfold jy_;refine al_ (λ_=>ai_ trivial) λe=>?_
 have q:=qn e;refine bE_ (P:=λ_=>True) (cN_ (λs=>s.2) (λs=>(s.1.length:Int)<=13510798882242891*s.2/\s.2<=(x0.length:Int)) (x0.length:Int) nn (qD 0) ⟨by simp,by simp⟩ λs j ⟨G,F⟩=>?_) λo f=>ai_ trivial
 unfold ra_;refine al_ (λe=>?_) λe=>ai_ trivial
 have h:=of_decide_eq_true e;rw[bi_ j (by omega)];obtain⟨y,ey,J⟩:=j4_ (xs:=x0) j h;refine bQ_ ey (ag_ Tk.ok λc p=>al_ (λ_=>j5_ trivial) λe=>?_);have u:=p (by simpa using e);refine ag_ (P:=λo=>(o.length:Int)<=13510798882242891*s.2+1) tot λo f=>?_
 refine ag_ (P:=λo=>(o.length:Int)<=13510798882242891*(s.2+1)) (cN_ (λt=>t.2) (λt=>(t.1.length:Int)<=13510798882242891*s.2+1+422212465053700*t.2/\t.2<=(y.Qb.length:Int)) (y.Qb.length:Int) nn (qD 0) ⟨by simp;omega,by simp⟩ λt m ⟨D,C⟩=>?_) λo f=>fj_ h rfl ⟨f,by show s.2+1<=_;omega⟩
 unfold q9_;refine bQ_ ey (al_ (λe=>?_) λe=>ai_ (by show(t.1.length:Int)<=_;omega));have x:=of_decide_eq_true e;rw[bi_ m (by omega)];refine bQ_ ey ?_;exact tot
instance{x0:tL Ue}[Ft x0]:Tc (jy_ x0):=⟨t_ref23_Text⟩
theorem vs_{x0:tR}[Ft x0]:T (dS_ x0):=by
 unfold dS_;exact tot
instance{x0:tR}[Ft x0]:Tc (dS_ x0):=⟨vs_⟩
theorem A6_{x0:Wm}[Ft x0]:W (λy=>y=0->x0.Qv.length<=32) (hS_ x0):=by
 unfold hS_;refine bE_ (P:=λ_=>True) (cN_ (λs=>s.1) (λs=>Ft s.2/\s.2.length=4) 4 (by decide) (qD 0) ⟨inferInstance,rfl⟩ λs j ⟨p,m⟩=>?_) λ_ _=>ag_ Tk.ok λc q=>al_ (λe=>ai_ λf=>by subst f;simp at e) λe=>?_
 .unfold pr_;refine al_ (λe=>?_) λ_=>ai_ trivial
  have lt:=of_decide_eq_true e;rw[bi_ j (by omega)];exact ag_ (j4_ j lt) λy _=>ag_ Tc.ok λc _=>al_ (λe=>j5_ λf=>by subst f;simp at e) λ_=>fj_ (by omega) rfl ⟨p,m⟩
 .have h:=q (by simpa using e);refine bE_ (P:=λ_=>True) (W_forI (I:=λ_=>True) nn trivial (λs a b c d=>?_) λ_ _ _ _=>trivial) λ_ _=>al_ (λ_=>ai_ (by simp)) λ_=>ai_ λ_=>h
  exact ag_ (j4_ a b) λy _=>al_ (λ_=>j5_ (by simp)) λ_=>St_n a b c trivial
instance{x0:Wm}[Ft x0]:Tk (hS_ x0) (λy=>y=0->x0.Qv.length<=32):=⟨A6_⟩
theorem nv_{x0:Int}(h:I64 x0):W (λy=>y.length<=21) (dG_ x0 10):=⟨_,ref_text_eq h,itoaS_len x0⟩
theorem A7_{x0:Wm}[Ft x0]:T (hT_ x0):=by
 unfold hT_;refine ag_ Tk.ok λc _=>al_ (λ_=>ai_ trivial) λ_=>ag_ Tk.ok λy j=>?_
 have h1:=(inferInstance:Ft x0.Gr).len;have f:∀{z:tR},z.length<=1048576->W (λy=>y.length<=21) (dG_ (z.length:Int) 10):=λh=>nv_ ⟨by omega,by omega⟩
 have m:=(inferInstance:Ft x0.Xi).len;refine ag_ (gO_ (by omega)) λ_ ⟨_,_⟩=>ag_ (gO_ (by omega)) λ_ ⟨_,_⟩=>ag_ (gO_ (by omega)) λ_ ⟨_,_⟩=>ag_ (gO_ (by omega)) λ_ ⟨_,_⟩=>ag_ (gO_ (by omega)) λ_ ⟨_,_⟩=>ag_ (gO_ (by omega)) λ_ ⟨_,_⟩=>ag_ (gO_ (by omega)) λ_ ⟨_,_⟩=>ag_ (mw_ (by omega)) λ_ _=>ag_ (gO_ (by omega)) λ_ ⟨_,_⟩=>ag_ (f (by omega)) λ_ _=>ag_ (mw_ (by omega)) λ_ _=>ag_ (gO_ (by omega)) λ_ ⟨_,_⟩=>ag_ (gO_ (by omega)) λ_ _=>ai_ trivial
instance{x0:Wm}[Ft x0]:Tc (hT_ x0):=⟨A7_⟩
theorem A8_{x0:Ul}[Ft x0]:T (hU_ x0):=by
 unfold hU_;exact tot
instance{x0:Ul}[Ft x0]:Tc (hU_ x0):=⟨A8_⟩
theorem t_ref26_New{x0:tR}{f:tR}[Ft x0][Ft f]:T (i6_ x0 f):=by
 unfold i6_;exact tot
instance{x0:tR}{x1:tR}[Ft x0][Ft x1]:Tc (i6_ x0 x1):=⟨t_ref26_New⟩
theorem t_ref22_Find{x0:tL Xr}{f:tR}[Ft x0][Ft f]:T (fv_ x0 f):=by
 unfold fv_;exact tot
instance{x0:tL Xr}{x1:tR}[Ft x0][Ft x1]:Tc (fv_ x0 x1):=⟨t_ref22_Find⟩
theorem t_ref26_find{x0:tL Xr}{f:tR}[Ft x0][Ft f]:T (g5_ x0 f):=by
 unfold g5_;exact tot
instance{x0:tL Xr}{x1:tR}[Ft x0][Ft x1]:Tc (g5_ x0 x1):=⟨t_ref26_find⟩
theorem A9_{x0:tL Xr}[Ft x0]:T (hV_ x0):=by
 unfold hV_;exact tot
instance{x0:tL Xr}[Ft x0]:Tc (hV_ x0):=⟨A9_⟩
theorem yV_{x0:tL Xr}[h:Ft x0]:W (λy=>Ft y) (de_ x0):=by
 have F:x0.length*1<=1048576:=h.ok.1;unfold de_;refine ag_ (P:=λy=>Ft y) (cN_ (λs=>s.1) (λs=>((s.2.length:Int)<=s.1/\s.1<=(x0.length:Int))/\∀y∈s.2,Sm.p y) (x0.length:Int) nn (qD 0) ⟨⟨by simp,by simp⟩,by simp⟩ λs j ⟨⟨D,C⟩,f⟩=>?_) λy u=>ai_ u
 unfold nT_;refine al_ (λe=>?_) λe=>ai_ ⟨by show s.2.length*1<=_;omega,f⟩
 have lt:=of_decide_eq_true e;rw[bi_ j (by omega)];refine ag_ (P:=λo=>((o.length:Int)<=s.1+1)/\∀y∈o,Sm.p y) (ag_ (j4_ j lt) λc _=>ag_ Tk.ok λd _=>al_ (λ_=>?_) λ_=>ai_ ⟨by omega,f⟩) λo m=>fj_ lt rfl ⟨⟨m.1,by show s.1+1<=_;omega⟩,m.2⟩
 exact ag_ (j4_ j lt) λa x=>ag_ (mA_ (p:=λy=>Sm.p y) f x.ok (by decide) (by omega)) λz q=>ai_ ⟨by omega,q.1⟩
instance{x0:tL Xr}[Ft x0]:Tf (de_ x0):=⟨yV_⟩
theorem t_ref26_Same{x0:tL Xr}{f:tL Xr}[Ft x0][Ft f]:T (g6_ x0 f):=by
 unfold g6_;exact tot
instance{x0:tL Xr}{x1:tL Xr}[Ft x0][Ft x1]:Tc (g6_ x0 x1):=⟨t_ref26_Same⟩
theorem Ba_{x0:tL (tL Xr)}{f:tL Xr}[Ft x0][Ft f]:T (eF_ x0 f):=by
 unfold eF_;exact tot
instance{x0:tL (tL Xr)}{x1:tL Xr}[Ft x0][Ft x1]:Tc (eF_ x0 x1):=⟨Ba_⟩
theorem vt_{x0:Wd}{f:Wd}[Ft x0][Ft f]:T (e3_ x0 f):=by
 unfold e3_;exact tot
instance{x0:Wd}{x1:Wd}[Ft x0][Ft x1]:Tc (e3_ x0 x1):=⟨vt_⟩
theorem Bb_{x0:Wd}[Ft x0]:T (hW_ x0):=by
 unfold hW_;exact tot
instance{x0:Wd}[Ft x0]:Tc (hW_ x0):=⟨Bb_⟩
set_option linter.unusedSectionVars false
theorem vu_{x0:tR}[Ft x0]:T (cX_ x0):=by
 unfold cX_;exact tot
instance{x0:tR}[Ft x0]:Tc (cX_ x0):=⟨vu_⟩
theorem yW_{x0:tL Xr}[Ft x0]:T (e4_ x0):=by
 unfold e4_;exact tot
instance{x0:tL Xr}[Ft x0]:Tc (e4_ x0):=⟨yW_⟩
theorem vv_{x0:tL Xr}[Ft x0]:T (e5_ x0):=by
 unfold e5_;exact tot
instance{x0:tL Xr}[Ft x0]:Tc (e5_ x0):=⟨vv_⟩
theorem vw_{x0:tL Xr}[Ft x0]:T (e6_ x0):=by
 unfold e6_;exact tot
instance{x0:tL Xr}[Ft x0]:Tc (e6_ x0):=⟨vw_⟩
theorem Bc_{x0:Wd}[Ft x0]:T (fX_ x0):=by
 unfold fX_;exact tot
instance{x0:Wd}[Ft x0]:Tc (fX_ x0):=⟨Bc_⟩
theorem Bd_{x0:tR}[Ft x0]:T (hX_ x0):=by
 unfold hX_;exact tot
instance{x0:tR}[Ft x0]:Tc (hX_ x0):=⟨Bd_⟩
theorem Be_{x0:Wd}[Ft x0]:T (hY_ x0):=by
 unfold hY_;exact tot
instance{x0:Wd}[Ft x0]:Tc (hY_ x0):=⟨Be_⟩
theorem Bf_{x0:Wd}[Ft x0]:T (hZ_ x0):=by
 unfold hZ_;exact tot
instance{x0:Wd}[Ft x0]:Tc (hZ_ x0):=⟨Bf_⟩
theorem Bg_{x0:Vm}[Ft x0]:T (h0_ x0):=by
 unfold h0_;simp only[tj_,both_self];exact tot
instance{x0:Vm}[Ft x0]:Tc (h0_ x0):=⟨Bg_⟩
theorem NodesB.of{x:Zq}(h:Ft x):NodesB x:=λn f=>by
 have h1:Ft n:=(inferInstance:Ft x.Zm.Xz).el f;exact⟨h1.api_NodeMode_.2,by have:=Sm.le (inferInstance:Ft n.Xk).ok.1;omega⟩
theorem SizeOK.of{x:Zq}(h:Ft x)(h1:x.Ug.length<=1000)(p:x.Wo.length<=1000)(m:x.Zm.Xz.length<=1024)(j:x.Zu.length<=500):SizeOK x:=
 ⟨h1,λu f=>by have:Ft u:=(inferInstance:Ft x.Ug).el f;have:=Sm.le (inferInstance:Ft u.Vs).ok.1;omega,λu f=>by have:Ft u:=(inferInstance:Ft x.Ug).el f;have:=Sm.le (inferInstance:Ft u.Xk).ok.1;omega,p,λu f=>by have:Ft u:=(inferInstance:Ft x.Wo).el f;have:=Sm.le (inferInstance:Ft u.Ye).ok.1;omega,m,j⟩
class Sd (d:Yp):Prop where
 fu:d.Xo.Ug.length<=1000
 fq:d.Xo.Wo.length<=1000
 fn:d.Xo.Zm.Xz.length<=1024
 fe:d.Xo.Zu.length<=500
 su:d.Zt.Xo.Ug.length<=1000
 sq:d.Zt.Xo.Wo.length<=1000
 sn:d.Zt.Xo.Zm.Xz.length<=1024
 se:d.Zt.Xo.Zu.length<=500
class Sw (w:Xl):Prop where
 ok:∀d∈w.Yb,Sd d
class Sy (s:Xv):Prop where
 ok:Sw s.Yj
instance{s:Xv}[h:Sy s]:Sw s.Yj:=h.ok
instance{d:Yp}[h:Ft d][s:Sd d]:Tc (fU_ d.Xo):=by
 obtain⟨b,e,_⟩:=oc_ d.Xo (SizeOK.of inferInstance s.fu s.fq s.fn s.fe) (NodesB.of inferInstance);exact⟨⟨b,e,trivial⟩⟩
theorem xE_{d:Yp}[h:Ft d][s:Sd d]:∃b,bh_ d.Zt=some b/\(b=true↔Ok17 d.Zt):=
 Right_eq d.Zt (SizeOK.of inferInstance s.su s.sq s.sn s.se) (NodesB.of inferInstance) (by have:=Sm.le (inferInstance:Ft d.Zt.Ux.Xp).ok.1;omega)
theorem Bh_{x0:Xl}{j:Yp}[Ft x0][Ft j][Sd j]:W (λy=>y=true->j.Xj=2->bh_ j.Zt=some true) (h1_ x0 j):=by
 unfold h1_;have no:∀{k:Int} {b:tV},(j.Xj==k)=true->k≠2->(b=true->j.Xj=2->bh_ j.Zt=some true):=λe h _ f=>absurd ((by simpa using e:j.Xj=_).symm.trans f) h
 refine ag_ Tc.ok λ_ _=>al_ (λ_=>ai_ (by simp)) λ_=>al_ (λe=>ag_ Tc.ok λ_ _=>ai_ (no e (by decide))) λ_=>al_ (λ_=>?_) λe=>(tot:T _).mono λ_ _ _ f=>by rw[f]at e;cases e
 obtain⟨b,e,_⟩:=xE_ (d:=j);exact bQ_ e (ai_ λh _=>by rw[e,h])
instance{x0:Xl}{x1:Yp}[Ft x0][Ft x1][Sd x1]:Tk (h1_ x0 x1) (λy=>y=true->x1.Xj=2->bh_ x1.Zt=some true):=⟨Bh_⟩
theorem Bi_{x0:Xl}[Ft x0][k:Sw x0]:W (λy=>y=true->∀d∈x0.Yb,d.Xj=2->bh_ d.Zt=some true) (fY_ x0):=by
 unfold fY_;refine ag_ (c9_ (R:=True) λ_=>tot) λ_ _=>ag_ (c9_ (R:=True) λ_=>tot) λ_ _=>ag_ (c9_ (R:=True) λ_=>tot) λ_ _=>al_ (λ_=>ai_ (by simp)) λ_=>bE_ (P:=λ_=>∀d∈x0.Yb,d.Xj=2->bh_ d.Zt=some true) (W_forI (I:=λs=>∀d∈x0.Yb.take s.toNat,d.Xj=2->bh_ d.Zt=some true) nn (by simp) (λs a b c q=>?_) (λs a b q=>?_)) λ_ h=>ai_ λ_=>h
 .obtain⟨y,ey,j⟩:=bg_ (xs:=x0.Yb) a b;have:Ft y:=(inferInstance:Ft x0.Yb).el j;have:=k.ok y j;refine bQ_ ey (ag_ Tk.ok λr hr=>al_ (λ_=>j5_ (by simp)) λe=>St_n a b c ?_);have m:x0.Yb[s.toNat]? = some y:=by
   unfold ah_ at ey;rw[qY a]at ey;exact ey
  have p:(s+1).toNat=s.toNat+1:=by omega
  intro z f;rw[p,List.take_add_one,m]at f;rcases qW.1 f with f|f
  .exact q z f
  .obtain rfl:=qT.1 f;exact hr (by simpa using e)
 .rw[zA (by omega)]at q;exact q
instance{x0:Xl}[Ft x0][Sw x0]:Tk (fY_ x0) (λy=>y=true->∀d∈x0.Yb,d.Xj=2->bh_ d.Zt=some true):=⟨Bi_⟩
theorem Bj_{x0:Xl}{f:Int}[Ft x0]:T (eG_ x0 f):=by
 unfold eG_;exact tot
instance{x0:Xl}{x1:Int}[Ft x0]:Tc (eG_ x0 x1):=⟨Bj_⟩
theorem t_ref32_Root{x0:Xl}{f:Int}[Ft x0]:T (jz_ x0 f):=by
 unfold jz_;exact tot
instance{x0:Xl}{x1:Int}[Ft x0]:Tc (jz_ x0 x1):=⟨t_ref32_Root⟩
theorem t_ref34_in{x0:Int}{h:Int}{f:Int}  : T (iP_ x0 h f):=by
 unfold iP_;exact tot
instance{x0:Int}{x1:Int}{x2:Int}  : Tc (iP_ x0 x1 x2):=⟨t_ref34_in⟩
theorem yX_{x0:Int}  : T (gx_ x0):=by
 unfold gx_;exact tot
instance{x0:Int}  : Tc (gx_ x0):=⟨yX_⟩
theorem yY_{x0:Zs}{f:Zs}[Ft x0][Ft f]:T (gy_ x0 f):=by
 unfold gy_;exact tot
instance{x0:Zs}{x1:Zs}[Ft x0][Ft x1]:Tc (gy_ x0 x1):=⟨yY_⟩
theorem Bk_{x0:tL Zs}[Ft x0]:T (h2_ x0):=by
 unfold h2_;exact tot
instance{x0:tL Zs}[Ft x0]:Tc (h2_ x0):=⟨Bk_⟩
theorem t_ref35_at{x0:tL Vy}{f:tR}[Ft x0][Ft f]:T (mV_ x0 f):=by
 unfold mV_;exact tot
instance{x0:tL Vy}{x1:tR}[Ft x0][Ft x1]:Tc (mV_ x0 x1):=⟨t_ref35_at⟩
theorem Bl_{x0:Zi}[Ft x0]:T (fZ_ x0):=by
 unfold fZ_;exact tot
instance{x0:Zi}[Ft x0]:Tc (fZ_ x0):=⟨Bl_⟩
theorem Bm_{x0:tL Zi}[Ft x0]:T (f0_ x0):=by
 unfold f0_;exact tot
instance{x0:tL Zi}[Ft x0]:Tc (f0_ x0):=⟨Bm_⟩
theorem Bn_{x0:Int}  : T (h3_ x0):=by
 unfold h3_;exact tot
instance{x0:Int}  : Tc (h3_ x0):=⟨Bn_⟩
theorem Bo_{x0:tL Vy}[Ft x0]:T (h4_ x0):=by
 unfold h4_;exact tot
instance{x0:tL Vy}[Ft x0]:Tc (h4_ x0):=⟨Bo_⟩
theorem yZ_{x0:Int}  : T (gz_ x0):=by
 unfold gz_;exact tot
instance{x0:Int}  : Tc (gz_ x0):=⟨yZ_⟩
theorem t_ref08_late{x0:Int}  : T (jA_ x0):=by
 unfold jA_;exact tot
instance{x0:Int}  : Tc (jA_ x0):=⟨t_ref08_late⟩
theorem t_ref08_Name{x0:Int}  : T (g7_ x0):=by
 unfold g7_;exact tot
instance{x0:Int}  : Tc (g7_ x0):=⟨t_ref08_Name⟩
theorem t_ref08_tag{x0:Xm}[Ft x0]:T (lm_ x0):=by
 unfold lm_;exact tot
instance{x0:Xm}[Ft x0]:Tc (lm_ x0):=⟨t_ref08_tag⟩
theorem y0_{x0:Int}:W (λy=>Ft y) (e7_ x0):=by
 unfold e7_;exact tot
instance{x0:Int}:Tf (e7_ x0):=⟨y0_⟩
theorem t_ref08_Uses{x0:Int}{f:Int}  : T (jB_ x0 f):=by
 unfold jB_;exact tot
instance{x0:Int}{x1:Int}  : Tc (jB_ x0 x1):=⟨t_ref08_Uses⟩
theorem vx_{x0:Xm}{f:Int}[Ft x0]:T (e8_ x0 f):=by
 unfold e8_;exact tot
instance{x0:Xm}{x1:Int}[Ft x0]:Tc (e8_ x0 x1):=⟨vx_⟩
theorem t_ref08_Zero{x0:Xm}{f:Int}[Ft x0]:T (jC_ x0 f):=by
 unfold jC_;exact tot
instance{x0:Xm}{x1:Int}[Ft x0]:Tc (jC_ x0 x1):=⟨t_ref08_Zero⟩
theorem y1_{x0:Int}{f:Int}  : T (aX_ x0 f):=by
 unfold aX_;exact tot
instance{x0:Int}{x1:Int}  : Tc (aX_ x0 x1):=⟨y1_⟩
theorem y2_{x0:tR}{f:Int}[Ft x0]:T (cF_ x0 f):=by
 unfold cF_;exact tot
instance{x0:tR}{x1:Int}[Ft x0]:Tc (cF_ x0 x1):=⟨y2_⟩
theorem Bp_{x0:tL tR}[Ft x0]:T (h5_ x0):=by
 unfold h5_;exact tot
instance{x0:tL tR}[Ft x0]:Tc (h5_ x0):=⟨Bp_⟩
theorem t_ref08_qid{x0:Yu}[Ft x0]:T (i7_ x0):=by
 unfold i7_;exact tot
instance{x0:Yu}[Ft x0]:Tc (i7_ x0):=⟨t_ref08_qid⟩
theorem t_ref08_qids{x0:tL Yu}[Ft x0]:T (jD_ x0):=by
 unfold jD_;exact tot
instance{x0:tL Yu}[Ft x0]:Tc (jD_ x0):=⟨t_ref08_qids⟩
theorem t_ref07_sum{x0:Int}{f:Int}  : T (i8_ x0 f):=by
 unfold i8_;exact tot
instance{x0:Int}{x1:Int}  : Tc (i8_ x0 x1):=⟨t_ref07_sum⟩
set_option linter.unusedSectionVars false
theorem t_ref07_in{x0:Int}{f:Int}  : T (dX_ x0 f):=by
 unfold dX_;exact tot
instance{x0:Int}{x1:Int}  : Tc (dX_ x0 x1):=⟨t_ref07_in⟩
theorem xF_{x0:Zf}[Ft x0]:T (fK_ x0):=by
 unfold fK_;exact tot
instance{x0:Zf}[Ft x0]:Tc (fK_ x0):=⟨xF_⟩
theorem Bq_{x0:Zf}[Ft x0]:T (f1_ x0):=by
 unfold f1_;exact tot
instance{x0:Zf}[Ft x0]:Tc (f1_ x0):=⟨Bq_⟩
theorem tT_{x0:Xm}{f:Int}[Ft x0]:T (ek_ x0 f):=by
 unfold ek_;exact tot
instance{x0:Xm}{x1:Int}[Ft x0]:Tc (ek_ x0 x1):=⟨tT_⟩
theorem Br_{x0:Xm}{f:Int}[Ft x0]:T (h6_ x0 f):=by
 unfold h6_;exact tot
instance{x0:Xm}{x1:Int}[Ft x0]:Tc (h6_ x0 x1):=⟨Br_⟩
theorem Bs_{x0:Xm}[Ft x0]:T (cx_ x0):=by
 unfold cx_;exact tot
instance{x0:Xm}[Ft x0]:Tc (cx_ x0):=⟨Bs_⟩
theorem Bt_{x0:tL Xm}[Ft x0]:T (h7_ x0):=by
 unfold h7_;exact tot
instance{x0:tL Xm}[Ft x0]:Tc (h7_ x0):=⟨Bt_⟩
theorem Bu_{x0:tL Zi}[Ft x0]:T (f2_ x0):=by
 unfold f2_;exact tot
instance{x0:tL Zi}[Ft x0]:Tc (f2_ x0):=⟨Bu_⟩
theorem t_ref35_Name{x0 f:Int}(h:I64 x0)(k:I64 f):T (g8_ x0 f):=by
 unfold g8_;exact ag_ (nv_ h) λ_ h1=>ag_ (mw_ (by simp;omega)) λ_ j=>ag_ (mw_ (by simp at j ⊢;omega)) λ_ m=>ag_ (nv_ k) λ_ p=>ag_ (mw_ (by simp at j m ⊢;omega)) λ_ _=>ai_ trivial
instance{c:Zw}[h:Ft c]:Tc (g8_ c.Id_ 1):=⟨t_ref35_Name h.api_ConnId_ ⟨by decide,by decide⟩⟩
theorem Bv_{x0:Zw}{f:tV}[Ft x0]:T (h8_ x0 f):=by
 unfold h8_;exact tot
instance{x0:Zw}{x1:tV}[Ft x0]:Tc (h8_ x0 x1):=⟨Bv_⟩
theorem Bw_{x0:Xl}{f:Xe}[Ft x0][Ft f][Sw x0]:T (f3_ x0 f):=by
 unfold f3_;exact tot
instance{x0:Xl}{x1:Xe}[Ft x0][Ft x1][Sw x0]:Tc (f3_ x0 x1):=⟨Bw_⟩
theorem Bx_{x0:Vh}[Ft x0]:T (h9_ x0):=by
 unfold h9_;exact tot
instance{x0:Vh}[Ft x0]:Tc (h9_ x0):=⟨Bx_⟩
theorem t_ref37_Idle{x0:Vh}[Ft x0]:T (jE_ x0):=by
 unfold jE_;exact tot
instance{x0:Vh}[Ft x0]:Tc (jE_ x0):=⟨t_ref37_Idle⟩
theorem xG_{x0:Int}  : T (bZ_ x0):=by
 unfold bZ_;exact tot
instance{x0:Int}  : Tc (bZ_ x0):=⟨xG_⟩
theorem By_{x0:tL Vv}{f:Int}[Ft x0]:W (λy=>-1<=y/\y<(x0.length:Int)) (c5_ x0 f):=by
 unfold c5_;exact tot
instance{x0:tL Vv}{x1:Int}[Ft x0]:Tk (c5_ x0 x1) (λy=>-1<=y/\y<(x0.length:Int)):=⟨By_⟩
theorem Bz_{x0:tL Vv}{f:Int}[Ft x0]:T (eH_ x0 f):=by
 unfold eH_;exact tot
instance{x0:tL Vv}{x1:Int}[Ft x0]:Tc (eH_ x0 x1):=⟨Bz_⟩
theorem td_{x0:tL Vv}[Ft x0]:T (dY_ x0):=by
 unfold dY_;exact tot
instance{x0:tL Vv}[Ft x0]:Tc (dY_ x0):=⟨td_⟩
theorem t_ref02_Get{x0:tR}{m j:Int}[h:Ft x0]:W (λy=>y.2.2=0->0<=m/\1<=j/\y.2.1=m+j/\m+j<=(x0.length:Int)/\0<=y.1/\(j=2->y.1<=65535)) (fo_ x0 m j):=by
 have hl:=h.len;unfold fo_;refine ag_ (P:=λy=>y=true->1<=j/\j<=8) (ai_ (by simp)) λc Z=>al_ (λ_=>ai_ (by simp)) λe=>?_
 have e:(c=true/\¬m<0)/\¬m>(x0.length:Int):=by simpa using e
 have h2:=Z e.1.1;have J:w64 ((x0.length:Int)-m)=(x0.length:Int)-m:=ao_ ⟨by omega,by omega⟩;have G:w64 (j-1)=j-1:=ao_ ⟨by omega,by omega⟩;have F:w64 (m+j)=m+j:=ao_ ⟨by omega,by omega⟩;rw[J,G,F];refine al_ (λ_=>ai_ (by simp)) λu=>?_
 have u:=qn u;refine bE_ (P:=λv=>0<=v/\(j=2->v<=65535)) (W_lpm (λs=>(s.2+1).toNat) (λs=>0<=s.1 /\ -1<=s.2/\s.2<j/\(s.2=j-1->s.1=0)/\(s.2=j-2->s.1<=255)/\(s.2=j-3->s.1<=65535)) (by show(j-1+1).toNat<_;omega) ⟨qD 0,by show -1<=j-1;omega,by show j-1<j;omega,λ_=>rfl,λ_=>by show(0:Int)<=255;decide,λ_=>by show(0:Int)<=65535;decide⟩ λs ⟨V,k2,k3,U,O,M⟩=>?_) λv Y=>ai_ λ_=>⟨by omega,by omega,rfl,by omega,Y⟩
 unfold sp_;refine al_ (λq=>al_ (λ_=>StM_r (by simp)) λp=>?_) λe=>ai_ ⟨V,λ_=>by have:=qn e;exact M (by omega)⟩
 have q:=of_decide_eq_true q;have p:=qn p;have D:w64 (m+s.2)=m+s.2:=ao_ ⟨by omega,by omega⟩;have C:w64 (s.2-1)=s.2-1:=ao_ ⟨by omega,by omega⟩;rw[D,C];obtain⟨b,eb,hb⟩:=bg_ (xs:=x0) (i:=m+s.2) (by omega) (by omega);have:b.toNat<256:=b.toNat_lt;unfold ap_;rw[eb];have x:w64 (w64 (256*s.1)+w64 (b.toNat:Int))=256*s.1+(b.toNat:Int):=by
  rw[ao_ (n:=256*s.1) ⟨by omega,by omega⟩,ao_ (n:=(b.toNat:Int)) ⟨by omega,by omega⟩,ao_ ⟨by omega,by omega⟩]
 show W _ (some (Step.next (w64 (w64 (256*s.1)+w64 (b.toNat:Int)),s.2-1)));rw[x];exact StM_h (by show(s.2-1+1).toNat<_;omega) ⟨by show 0<=256*s.1+(b.toNat:Int);omega,by show -1<=s.2-1;omega,by show s.2-1<j;omega,λ(f:s.2-1=j-1)=>by omega,λ(f:s.2-1=j-2)=>by have:=U (by omega);show 256*s.1+(b.toNat:Int)<=255;omega,λ(f:s.2-1=j-3)=>by have:=O (by omega);show 256*s.1+(b.toNat:Int)<=65535;omega⟩
instance{x0:tR}{x1 x2:Int}[Ft x0]:Tk (fo_ x0 x1 x2) (λy=>y.2.2=0->0<=x1/\1<=x2/\y.2.1=x1+x2/\x1+x2<=(x0.length:Int)/\0<=y.1/\(x2=2->y.1<=65535)):=⟨t_ref02_Get⟩
theorem hj_{x0:Zh}{f:Int}[Ft x0]:W (λy=>Ft y/\0<=y.2/\(f=2->y.2<=65535)) (aE_ x0 f):=by
 unfold aE_;refine ag_ Tk.ok λy h=>al_ (λ_=>ai_ ⟨inferInstance,qD 0,λ_=>by show(0:Int)<=65535;decide⟩) λe=>?_
 have e:y.2.2=0:=by
  have:=(qP.1 e).2;simpa using this
 have:=h e;exact ag_ (ip_ (by omega) (by omega) (qD _)) λz _=>ai_ ⟨inferInstance,this.2.2.2.2⟩
instance{x0:Zh}{x1:Int}[Ft x0]:Tk (aE_ x0 x1) (λy=>Ft y/\0<=y.2/\(x1=2->y.2<=65535)):=⟨hj_⟩
theorem y3_{x0:Int}:W (λy=>y.1.length<=4) (e9_ x0):=by
 unfold e9_;exact tot
instance{x0:Int}:Tk (e9_ x0) (λy=>y.1.length<=4):=⟨y3_⟩
theorem xH_{x0:tR}{m:Int}[h:Ft x0]:W (λy=>Ft y.1/\(y.2.2=0->0<=y.2.1/\y.2.1<=(x0.length:Int))) (iz_ x0 m):=by
 have u:=h.len;unfold iz_;refine ag_ Tk.ok λy s=>al_ (λe=>ai_ ⟨inferInstance,λ(f:y.2.2=0)=>by rw[f]at e;simp at e⟩) λe=>?_
 have e:y.2.2=0:=by simpa using e
 obtain⟨x,a2,a3,a4,a5,_⟩:=s e;have p:w64 ((x0.length:Int)-y.2.1)=(x0.length:Int)-y.2.1:=ao_ ⟨by omega,by omega⟩;rw[p];refine al_ (λ_=>ai_ ⟨inferInstance,by simp⟩) λj=>?_
 have j:=qn j;rw[ao_ (n:=y.2.1+y.1) ⟨by omega,by omega⟩];exact ag_ (ip_ (by omega) (by omega) (by omega)) λz q=>ai_ ⟨q,λ_=>⟨by show 0<=y.2.1+y.1;omega,by show y.2.1+y.1<=_;omega⟩⟩
theorem xI_{x0:Zh}[Ft x0]:W (λy=>Ft y) (bG_ x0):=by
 unfold bG_;refine ag_ xH_ λy ⟨h,f⟩=>al_ (λ_=>ai_ inferInstance) λe=>?_
 have e:y.2.2=0:=by
  have:=(qP.1 e).2;simpa using this
 have:=f e;exact ag_ (ip_ (by omega) (by omega) (qD _)) λz _=>ai_ inferInstance
instance{x0:Zh}[Ft x0]:Tf (bG_ x0):=⟨xI_⟩
theorem y4_{x0:Zh}[Ft x0]:W (λy=>Ft y) (fa_ x0):=by
 unfold fa_;exact ag_ hj_ λ_ ⟨_,_⟩=>ag_ hj_ λ_ ⟨_,_⟩=>ag_ hj_ λ_ ⟨_,_⟩=>ai_ inferInstance
instance{x0:Zh}[Ft x0]:Tf (fa_ x0):=⟨y4_⟩
theorem t_ref04_Find{x0:tR}[Ft x0]:T (jF_ x0):=by
 unfold jF_ oy_;refine ag_ (P:=λy=>y.length=60) (ai_ rfl) λl h1=>bE_ (P:=λ_=>True) (cN_ (λs=>s.1) (λs=>s.2=l) 60 (by decide) (by show(0:Int)<=1;decide) rfl λs f h=>?_) λ_ _=>ai_ trivial
 unfold rb_;rw[h];refine al_ (λe=>?_) λ_=>ai_ trivial
 have e:=of_decide_eq_true e;rw[bi_ f (by omega)];exact ag_ (bg_ f e) λ_ _=>al_ (λ_=>j5_ trivial) λ_=>fj_ (by omega) rfl rfl
instance{x0:tR}[Ft x0]:Tc (jF_ x0):=⟨t_ref04_Find⟩
theorem uA_{x0:Zh}{f:Int}[Ft x0](h:0<=f):W (λy=>Ft y) (ln_ x0 f):=by
 unfold ln_;refine al_ (λ_=>ai_ inferInstance) λe=>?_
 have e:¬f>(x0.S_.length:Int):=qn (qP.1 e).2;exact ag_ (ip_ h (by omega) (qD _)) λ_ _=>ag_ (ip_ (by omega) h (by omega)) λ_ _=>ai_ inferInstance
theorem BA_{x0:tR}[h:Ft x0]:W (λy=>Ft y) (ia_ x0):=by
 have U:=h.len;unfold ia_;refine bE_ (P:=λo:Int×Zd=>Ft o) (cN_ (λs:Int×Int×Zd=>s.2.1) (λs=>(0<=s.1/\s.1<=(x0.length:Int))/\Ft s.2.2) 4 (by decide) (qD 0) ⟨⟨qD 0,by omega⟩,inferInstance⟩ λs C ⟨⟨M,J⟩,G⟩=>?_) λo _=>ai_ (show Ft (o.2,_)from inferInstance)
 unfold ps_;refine al_ (λe=>?_) λ_=>ai_ (show Ft (s.1,s.2.2)from inferInstance)
 have e:=of_decide_eq_true e;have x:w64 ((x0.length:Int)-s.1)=(x0.length:Int)-s.1:=ao_ ⟨by omega,by omega⟩;rw[x];refine al_ (λ_=>j5_ inferInstance) λj=>?_
 have j:=qn j;have u:w64 (s.1+1)=s.1+1:=ao_ ⟨by omega,by omega⟩;have q:w64 (s.1+2)=s.1+2:=ao_ ⟨by omega,by omega⟩;have p:w64 ((x0.length:Int)-s.1-2)=(x0.length:Int)-s.1-2:=ao_ ⟨by omega,by omega⟩;rw[u,q,p,bi_ C (by omega)];obtain⟨b,eb,_⟩:=bg_ (xs:=x0) (i:=s.1) (by omega) (by omega);obtain⟨c,ec,_⟩:=bg_ (xs:=x0) (i:=s.1+1) (by omega) (by omega);have Y:b.toNat<256:=b.toNat_lt;have V:c.toNat<256:=c.toNat_lt;unfold ap_;rw[eb,ec];obtain⟨n,en,h0⟩:∃n:Int,n=w64 (w64 (b.toNat:Int)+w64 (256*w64 (c.toNat:Int)))/\0<=n:=⟨_,rfl,by
  rw[ao_ (n:=(b.toNat:Int)) ⟨by omega,by omega⟩,ao_ (n:=(c.toNat:Int)) ⟨by omega,by omega⟩,ao_ (n:=256*(c.toNat:Int)) ⟨by omega,by omega⟩,ao_ ⟨by omega,by omega⟩];omega⟩
 show W _ (bif decide ((x0.length:Int)-s.1-2<w64 (w64 (b.toNat:Int)+w64 (256*w64 (c.toNat:Int))))then _ else _);rw[←en];refine al_ (λ_=>j5_ inferInstance) λf=>?_
 have f:=qn f;have m:w64 (s.1+2+n)=s.1+2+n:=ao_ ⟨by omega,by omega⟩;rw[m];have K:∀{a:Zd},Ft a->W (StI (λs:Int×Int×Zd=>s.2.1) (λs=>(0<=s.1/\s.1<=(x0.length:Int))/\Ft s.2.2) (ea_ (λo:Int×Zd=>Ft o) λy:Zd×tV=>Ft y) 4 s) (some (.next (s.1+2+n,s.2.1+1,a))):=λD=>fj_ e rfl ⟨⟨by show 0<=s.1+2+n;omega,by show s.1+2+n<=_;omega⟩,D⟩
 refine ag_ (ip_ (xs:=x0) (by omega) (by omega) (by omega)) λy O=>al_ (λ_=>K inferInstance) λF=>al_ (λ_=>K inferInstance) λf1=>al_ (λ_=>K inferInstance) λf2=>al_ (λ_=>K inferInstance) λf3=>?_
 simp at F f1 f2 f3;omega
instance{x0:tR}[Ft x0]:Tf (ia_ x0):=⟨BA_⟩
theorem b3_{x0:tR}{j f:Int}[h:Ft x0](h0:0<=j)(h1:1<=f)(C:j+f<=(x0.length:Int)):T (bH_ x0 j f):=by
 have y:=h.len;unfold bH_;rw[ao_ (n:=f-1) ⟨by omega,by omega⟩];refine ag_ (P:=λ_=>True) (W_lpm (λs=>(s.2.2+1).toNat) (λs=>-1<=s.2.2/\s.2.2<f) (by show(f-1+1).toNat<_;omega) ⟨by show -1<=f-1;omega,by show f-1<f;omega⟩ λs ⟨x,u⟩=>?_) λo _=>al_ (λ_=>ai_ trivial) λ_=>ai_ trivial
 unfold nU_;refine al_ (λm=>?_) λ_=>ai_ trivial
 have m:=of_decide_eq_true m;have q:w64 (j+s.2.2)=j+s.2.2:=ao_ ⟨by omega,by omega⟩;have p:w64 (s.2.2-1)=s.2.2-1:=ao_ ⟨by omega,by omega⟩;rw[q,p];have B:T (ap_ x0 (j+s.2.2)):=cd_ (by omega) (by omega);exact ag_ (P:=λ_=>True) (ag_ (dq_ (R:=True) λ_=>ag_ B λ_ _=>ai_ λ_=>trivial) λ_ _=>al_ (λ_=>ai_ trivial) λ_=>ag_ B λ_ _=>ai_ trivial) λo _=>StM_h (by show(s.2.2-1+1).toNat<_;omega) ⟨by show -1<=s.2.2-1;omega,by show s.2.2-1<f;omega⟩
theorem t_ref07_Get{x0:tR}{f:Int}[h:Ft x0]:W (λy=>Ft y) (lp_ x0 f):=by
 have F:=h.len;unfold lp_;refine al_ (λ_=>ai_ inferInstance) λe=>?_
 have e:¬f<0/\¬f>(x0.length:Int):=by simpa using e
 have x:w64 ((x0.length:Int)-f)=(x0.length:Int)-f:=ao_ ⟨by omega,by omega⟩;rw[x];refine al_ (λ_=>ai_ inferInstance) λp=>?_
 have p:=qn p;have u:w64 (f+1)=f+1:=ao_ ⟨by omega,by omega⟩;have s:w64 (f+2)=f+2:=ao_ ⟨by omega,by omega⟩;have q:w64 ((x0.length:Int)-f-2)=(x0.length:Int)-f-2:=ao_ ⟨by omega,by omega⟩;rw[u,s,q];obtain⟨b,eb,_⟩:=bg_ (xs:=x0) (i:=f) (by omega) (by omega);obtain⟨c,ec,_⟩:=bg_ (xs:=x0) (i:=f+1) (by omega) (by omega);have J:b.toNat<256:=b.toNat_lt;have G:c.toNat<256:=c.toNat_lt;unfold ap_;rw[eb,ec];obtain⟨n,en,h0⟩:∃n:Int,n=w64 (w64 (b.toNat:Int)+w64 (256*w64 (c.toNat:Int)))/\0<=n:=⟨_,rfl,by
  rw[ao_ (n:=(b.toNat:Int)) ⟨by omega,by omega⟩,ao_ (n:=(c.toNat:Int)) ⟨by omega,by omega⟩,ao_ (n:=256*(c.toNat:Int)) ⟨by omega,by omega⟩,ao_ ⟨by omega,by omega⟩];omega⟩
 show W _ (bif decide ((x0.length:Int)-f-2<w64 (w64 (b.toNat:Int)+w64 (256*w64 (c.toNat:Int))))then _ else _);rw[←en];refine al_ (λ_=>ai_ inferInstance) λm=>?_
 have m:=qn m;rw[ao_ (n:=f+2+n) ⟨by omega,by omega⟩];refine ag_ (W_subL (by omega) (by omega) (by omega)) λy ⟨C,D⟩=>al_ (λ_=>ai_ inferInstance) λj=>?_
 have j:=qn j;refine ag_ (ip_ (by omega) (by omega) (qD _)) λz _=>ag_ Tf.ok λt _=>al_ (λ_=>ai_ inferInstance) λ_=>?_
 exact ag_ (b3_ (by omega) (by omega) (by omega)) λ_ _=>ag_ (b3_ (by omega) (by omega) (by omega)) λ_ _=>ag_ (b3_ (by omega) (by omega) (by omega)) λ_ _=>ag_ (b3_ (by omega) (by omega) (by omega)) λ_ _=>ag_ (b3_ (by omega) (by omega) (by omega)) λ_ _=>ag_ (b3_ (by omega) (by omega) (by omega)) λ_ _=>ag_ (b3_ (by omega) (by omega) (by omega)) λ_ _=>ag_ (b3_ (by omega) (by omega) (by omega)) λ_ _=>ag_ (b3_ (by omega) (by omega) (by omega)) λ_ _=>ag_ Tc.ok λ_ _=>al_ (λ_=>ai_ inferInstance) λ_=>ai_ inferInstance
instance{x0:tR}{x1:Int}[Ft x0]:Tf (lp_ x0 x1):=⟨t_ref07_Get⟩
theorem mO_ft{o:P_36}(h:Ft o):Ft (Xm.mk o.2.1 o.2.2.1 o.2.2.2.1 o.2.2.2.2.1 (d4 o).2.1 (d4 o).2.2.1 (d4 o).2.2.2.1 (d8 o).1 (d8 o).2.1 (d8 o).2.2.1 (d4 (d32 o)).2.2.1 (d4 (d32 o)).2.2.2 (Yu.mk (d8 o).2.2.2.1 (d4 (d8 o)).1 (d4 (d8 o)).2.1) (d4 (d8 o)).2.2.1 (d4 (d8 o)).2.2.2.1 (d16 o).1 (d16 o).2.1 (d16 o).2.2.1 (d16 o).2.2.2.1 (d4 (d16 o)).1 (Zf.mk (d4 (d16 o)).2.1 (d4 (d16 o)).2.2.1 (Yu.mk (d4 (d16 o)).2.2.2.1 (d8 (d16 o)).1 (d8 (d16 o)).2.1) (d8 (d16 o)).2.2.1 (d8 (d16 o)).2.2.2.1 (d4 (d8 (d16 o))).1 (d4 (d8 (d16 o))).2.1 (d4 (d8 (d16 o))).2.2.1 (d4 (d8 (d16 o))).2.2.2.1 (d32 o).1 (d32 o).2.1) (d32 o).2.2.1 (d32 o).2.2.2.1 (d4 (d32 o)).1 (d4 (d32 o)).2.1):=by
 obtain⟨_,_,_,_,_,_,_,_,F,D,C,_,_,_,_,_,_,y,_,_,x,_,_,_,_,_,_,_,_,_,u,s,q,p,_,_,_,m,j,f⟩:=h.ok;exact⟨⟨F,D,C,j,f,trivial,y,x,⟨trivial,u,s,q,p⟩,m⟩⟩
theorem mG_ft{o:P_37}(h:Ft o):Ft (Xm.mk o.1 o.2.1 o.2.2.1 o.2.2.2.1 o.2.2.2.2.1 (d4 o).2.1 (d4 o).2.2.1 (d4 o).2.2.2.1 (d8 o).1 (d8 o).2.1 (d4 (d32 o)).2.1 (d4 (d32 o)).2.2.1 (Yu.mk (d8 o).2.2.1 (d8 o).2.2.2.1 (d4 (d8 o)).1) (d4 (d8 o)).2.1 (d4 (d8 o)).2.2.1 (d4 (d8 o)).2.2.2.1 (d16 o).1 (d16 o).2.1 (d16 o).2.2.1 (d16 o).2.2.2.1 (Zf.mk (d4 (d16 o)).1 (d4 (d16 o)).2.1 (Yu.mk (d4 (d16 o)).2.2.1 (d4 (d16 o)).2.2.2.1 (d8 (d16 o)).1) (d8 (d16 o)).2.1 (d8 (d16 o)).2.2.1 (d8 (d16 o)).2.2.2.1 (d4 (d8 (d16 o))).1 (d4 (d8 (d16 o))).2.1 (d4 (d8 (d16 o))).2.2.1 (d4 (d8 (d16 o))).2.2.2.1 (d32 o).1) (d32 o).2.1 (d32 o).2.2.1 (d32 o).2.2.2.1 (d4 (d32 o)).1):=by
 obtain⟨_,_,_,_,_,_,_,F,D,C,_,_,_,_,_,_,y,_,_,x,_,_,_,_,_,_,_,_,_,u,s,q,p,_,_,_,m,j,f,_⟩:=h.ok;exact⟨⟨F,D,C,j,f,trivial,y,x,⟨trivial,u,s,q,p⟩,m⟩⟩
theorem vy_{x0:Zh}{f:Xm}{G:Int}{k:Nat}[Ft x0][Ft f](hk:k<=900000)(h1:f.Wv.length<=k)(h2:f.Vj.length<=k):W (λy=>Ft y/\y.2.Wv.length<=k+65536/\y.2.Vj.length<=k+65536) (g9_ x0 f G):=by
 have g1:f.Wv.length<=k+65536:=by omega
 have q:f.Vj.length<=k+65536:=by omega
 unfold g9_;refine bE_ (P:=λo:P_36=>Ft o/\(d4 (d32 o)).2.2.1.length<=k+65536/\(d4 (d32 o)).2.2.2.length<=k+65536) ?_ λo ⟨Y,a2,a3⟩=>ai_ ⟨have:=mO_ft Y;inferInstance,a2,a3⟩
 refine al_ (λ_=>ag_ Tf.ok λ_ _=>ag_ Tc.ok λ_ _=>W_oret ⟨inferInstance,g1,q⟩) λ_=>al_ (λ_=>?_) λ_=>al_ (λ_=>?_) λ_=>al_ (λ_=>ag_ Tk.ok λ_ ⟨_,a,_⟩=>ag_ (uA_ a) λ_ _=>jb_ ⟨inferInstance,g1,q⟩) λ_=>al_ (λ_=>ag_ Tk.ok λ_ ⟨_,a,_⟩=>ag_ (uA_ a) λ_ _=>ag_ Tf.ok λ_ _=>W_oret ⟨inferInstance,g1,q⟩) λ_=>jb_ ⟨inferInstance,g1,q⟩
 .refine ag_ Tk.ok λy ⟨U,x,h⟩=>ag_ (P:=λo:P_36=>Ft o/\(d4 (d32 o)).2.2.1.length<=k+65536/\(d4 (d32 o)).2.2.2.length<=k+65536) ?_ λo D=>jb_ D
  have h:=h rfl;refine cN_ (λs=>s.1) (λs=>Ft s.2/\((d4 (d32 s.2)).2.2.1.length:Int)<=k+s.1/\s.1<=y.2/\(d4 (d32 s.2)).2.2.2.length<=k+65536) y.2 (by omega) (qD 0) ⟨inferInstance,by show(f.Wv.length:Int)<=k+0;omega,x,q⟩ λs C ⟨m,O,M,j⟩=>?_
  unfold lR_;refine al_ (λe=>?_) λe=>ai_ ⟨m,by omega,j⟩
  have e:s.1<y.2:=of_decide_eq_true (Bool.and_eq_true_iff.1 e).1;rw[bi_ C (by omega)];refine ag_ Tf.ok λc V=>ag_ (mA_ (p:=λy=>Sm.p y) (mO_ft m).ok.2.2.2.1.2 (inferInstance:Ft c.2).ok (by decide) (by show((d4 (d32 s.2)).2.2.1.length+1)*16<=_;omega)) λz ⟨u,z2⟩=>?_
  have z2:z.length=(d4 (d32 s.2)).2.2.1.length+1:=z2;have F:Ft z:=⟨by show z.length*1<=_;omega,u⟩;have f1:Ft (u32 (u4 (u1 (λJ=>(z,J.2)))) s.2.2):=Ft.u32 (inferInstance:Ft s.2.2) λ_ g=>g.u4 λ_ g=>g.u1 λ_ _=>inferInstance
  exact fj_ e rfl ⟨inferInstance,by show(z.length:Int)<=k+(s.1+1);omega,by show s.1+1<=_;omega,j⟩
 .refine ag_ Tk.ok λy ⟨U,x,h⟩=>ag_ (P:=λo:P_36=>Ft o/\(d4 (d32 o)).2.2.1.length<=k+65536/\(d4 (d32 o)).2.2.2.length<=k+65536) ?_ λo D=>jb_ D
  have h:=h rfl;refine cN_ (λs=>s.1) (λs=>Ft s.2/\((d4 (d32 s.2)).2.2.2.length:Int)<=k+s.1/\s.1<=y.2/\(d4 (d32 s.2)).2.2.1.length<=k+65536) y.2 (by omega) (qD 0) ⟨inferInstance,by show(f.Vj.length:Int)<=k+0;omega,x,g1⟩ λs C ⟨m,O,M,j⟩=>?_
  unfold lS_;refine al_ (λe=>?_) λe=>ai_ ⟨m,j,by omega⟩
  have e:s.1<y.2:=of_decide_eq_true (Bool.and_eq_true_iff.1 e).1;rw[bi_ C (by omega)];refine ag_ Tf.ok λc V=>ag_ (mA_ (p:=λy=>Sm.p y) (mO_ft m).ok.2.2.2.2.1.2 (inferInstance:Ft c.2).ok (by decide) (by show((d4 (d32 s.2)).2.2.2.length+1)*24<=_;omega)) λz ⟨u,z2⟩=>?_
  have z2:z.length=(d4 (d32 s.2)).2.2.2.length+1:=z2;have F:Ft z:=⟨by show z.length*1<=_;omega,u⟩;have f1:Ft (u32 (u4 (u2 (λZ=>z))) s.2.2):=Ft.u32 (inferInstance:Ft s.2.2) λ_ g=>g.u4 λ_ g=>g.u2 λ_ _=>F
  exact fj_ e rfl ⟨inferInstance,by show(z.length:Int)<=k+(s.1+1);omega,by show s.1+1<=_;omega,j⟩
theorem t_ref09_read{x0:Zh}{f:Xm}{m:Int}{k:Nat}[Ft x0][Ft f](p:k<=900000)(h1:f.Wv.length<=k)(q:f.Vj.length<=k):W (λy=>Ft y/\y.2.Wv.length<=k+65536/\y.2.Vj.length<=k+65536) (mf_ x0 f m):=by
 have g1:f.Wv.length<=k+65536:=by omega
 have j:f.Vj.length<=k+65536:=by omega
 unfold mf_;refine bE_ (P:=λo:P_36=>Ft o/\(d4 (d32 o)).2.2.1.length<=k+65536/\(d4 (d32 o)).2.2.2.length<=k+65536) ?_ λo ⟨s,a2,a3⟩=>ai_ ⟨have:=mO_ft s;inferInstance,a2,a3⟩
 repeat' first
  | exact ag_ (vy_ p h1 q) λ_ h=>W_oret h
  | refine al_ (λ_=>ag_ Tf.ok λ_ _=>jb_ ⟨inferInstance,g1,j⟩) λ_=>?_
  | refine al_ (λ_=>ag_ Tk.ok λ_ ⟨_,_⟩=>jb_ ⟨inferInstance,g1,j⟩) λ_=>?_
theorem t_ref09_Get{x0:tR}{j:Int}[h:Ft x0]:W (λy=>Ft y.1/\(y.2.2=0->j+7<=y.2.1/\y.2.1<=(x0.length:Int))) (nV_ x0 j):=by
 have hl:=h.len;have Z:∀e:Int,e≠0->Ft (((default:Xm),(0:Int),e):Xm×Int×Int).1/\((((default:Xm),(0:Int),e):Xm×Int×Int).2.2=0->j+7<=(((default:Xm),(0:Int),e):Xm×Int×Int).2.1/\(((default:Xm),(0:Int),e):Xm×Int×Int).2.1<=(x0.length:Int)):=λe J=>⟨inferInstance,λf=>absurd f J⟩
 unfold nV_;refine al_ (λ_=>ai_ (Z 1 (by decide))) λe=>ag_ Tk.ok λy Y=>al_ (λe=>ai_ (Z _ (by simpa using e))) λe1=>al_ (λ_=>ai_ (Z 4 (by decide))) λC=>al_ (λ_=>ai_ (Z 2 (by decide))) λx=>al_ (λ_=>ai_ (Z 3 (by decide))) λq=>?_
 have e:¬j<0/\¬j>(x0.length:Int):=by simpa using e
 have C:=qn C;have x:=qn x;have q:=qn q;rw[ao_ (n:=(x0.length:Int)-j) ⟨by omega,by omega⟩]at q;rw[ao_ (n:=j+4) ⟨by omega,by omega⟩,ao_ (n:=j+y.1) ⟨by omega,by omega⟩];refine ag_ (ip_ (by omega) (by omega) (by omega)) λs _=>ag_ Tk.ok λa ⟨_,_⟩=>ag_ Tk.ok λb ⟨_,_⟩=>ag_ Tk.ok λf hf=>?_
 refine ag_ (P:=λo:P_37=>Ft o) ?_ λo G=>al_ (λ_=>ai_ (Z 2 (by decide))) λ_=>have:=mG_ft G;ag_ Tc.ok λc _=>al_ (λe=>ai_ (Z _ (by simpa using e))) λ_=>ai_ ⟨this,λ_=>⟨by show j+7<=j+y.1;omega,by show j+y.1<=_;omega⟩⟩
 refine cN_ (λs=>s.1) (λs=>Ft s.2/\(((d4 (d32 s)).2.2.1.length:Int)<=65536*s.1/\s.1<=(f.1.length:Int))/\((d4 (d32 s)).2.2.2.1.length:Int)<=65536*s.1) (f.1.length:Int) (by omega) (qD 0) ⟨inferInstance,⟨qD 0,by show(0:Int)<=_;omega⟩,qD 0⟩ λs u ⟨m,⟨V,O⟩,U⟩=>?_
 unfold sq_;refine al_ (λe=>?_) λe=>ai_ m
 have e:=of_decide_eq_true e;rw[bi_ u (by omega)];have F:=mG_ft m;have D:Ft (d8 (d32 s)):=⟨by obtain⟨_,_,_,_,_,_,_,_,_,_,_,_,_,_,_,_,_,_,_,_,_,_,_,_,_,_,_,_,_,_,_,_,_,_,_,_,_,_,_,p⟩:=m.ok;exact p⟩;refine ag_ (bg_ u e) λc _=>ag_ (@t_ref09_read _ _ _ (65536*s.1.toNat) D F (by omega) (by show(d4 (d32 s)).2.2.1.length<=_;omega) (by show(d4 (d32 s)).2.2.2.1.length<=_;omega)) λz ⟨M,z2,z3⟩=>fj_ e rfl ⟨inferInstance,⟨by show(z.2.Wv.length:Int)<=65536*(s.1+1);omega,by show s.1+1<=_;omega⟩,by show(z.2.Vj.length:Int)<=65536*(s.1+1);omega⟩
theorem BB_{x0:tR}{j:Int}[h:Ft x0]:T (c6_ x0 j):=by
 have M:=h.len;unfold c6_;refine ag_ (P:=λ_=>True) (al_ (λ_=>ai_ trivial) λ_=>ai_ trivial) λo _=>bE_ (P:=λ_=>True) (W_lpm (λs=>s.1.length) (λs=>Ft s.1/\s.2.length*7+s.1.length<=x0.length) (by show x0.length<_;omega) ⟨h,by show 0*7+x0.length<=_;omega⟩ λs ⟨D,C⟩=>?_) λ_ _=>ai_ trivial
 unfold pt_;refine al_ (λe=>?_) λ_=>ai_ trivial
 refine ag_ Tk.ok λy G=>al_ (λ_=>StM_r trivial) λ_=>al_ (λ_=>ai_ trivial) λ_=>ag_ t_ref09_Get λm ⟨x,f⟩=>al_ (λ_=>StM_r trivial) λu=>?_
 have f:=f (by simpa using u);refine ag_ (mA_ (p:=λ_=>True) (λ_ _=>trivial) trivial (by decide) (by omega)) λz ⟨_,F⟩=>ag_ (W_subL (by omega) (by omega) (qD _)) λt ⟨q,J⟩=>StM_h (by show t.length<_;omega) ⟨q,by show z.length*7+t.length<=_;omega⟩
instance{x0:tR}{x1:Int}[Ft x0]:Tc (c6_ x0 x1):=⟨BB_⟩
theorem BC_{x0:Yd}[Ft x0]:T (ib_ x0):=by
 unfold ib_;exact tot
instance{x0:Yd}[Ft x0]:Tc (ib_ x0):=⟨BC_⟩
theorem y5_{x0:Jq}[Ft x0]:T (gA_ x0):=by
 unfold gA_;exact tot
instance{x0:Jq}[Ft x0]:Tc (gA_ x0):=⟨y5_⟩
set_option linter.unusedSectionVars false
theorem t_ref39_hold{x0:Ww}{f:Int}[Ft x0]:W (λy=>-1<=y/\y<(x0.Ut.length:Int)) (jG_ x0 f):=by
 unfold jG_;exact tot
instance{x0:Ww}{x1:Int}[Ft x0]:Tk (jG_ x0 x1) (λy=>-1<=y/\y<(x0.Ut.length:Int)):=⟨t_ref39_hold⟩
theorem tU_{x0:Ww}{f:Uk}[Ft x0][Ft f]:T (el_ x0 f):=by
 unfold el_;exact tot
instance{x0:Ww}{x1:Uk}[Ft x0][Ft x1]:Tc (el_ x0 x1):=⟨tU_⟩
theorem t_ref39_ends{x0:Uk}[Ft x0]:T (em_ x0):=by
 unfold em_;exact tot
instance{x0:Uk}[Ft x0]:Tc (em_ x0):=⟨t_ref39_ends⟩
theorem BD_{x0:Uk}{f:Uk}[Ft x0][Ft f]:T (ic_ x0 f):=by
 unfold ic_;exact tot
instance{x0:Uk}{x1:Uk}[Ft x0][Ft x1]:Tc (ic_ x0 x1):=⟨BD_⟩
theorem BE_{x0:Ww}[Ft x0]:T (id_ x0):=by
 unfold id_;exact tot
instance{x0:Ww}[Ft x0]:Tc (id_ x0):=⟨BE_⟩
theorem t_ref40_conn{x0:tL Xe}{f:Zb}[Ft x0](h0:0<=f.Wt)(h1:f.Wt<(x0.length:Int)):T (mg_ x0 f):=by
 unfold mg_;exact tot
theorem BF_{x0:Xl}{h:tL Xe}{f:Zb}[Ft x0][Sw x0][Ft h][Ft f]:T (ie_ x0 h f):=by
 unfold ie_;refine bE_ (gN_ λ_ _ _ _=>tot) λ_ _=>ag_ (c9_ (R:=True) λ_=>tot) λc m=>ag_ (c9_ (R:=True) λ_=>tot) λd j=>al_ (λ_=>ai_ trivial) λe=>?_
 have e:(decide (f.Wt<0)||decide (f.Wt>=(h.length:Int)))=false:=(m (j (qP.1 e).1).1).1;have e:¬f.Wt<0/\¬f.Wt>=(h.length:Int):=by simpa using e
 refine ag_ Tc.ok λ_ _=>ag_ (c9_ (R:=True) λ_=>tot) λ_ _=>al_ (λ_=>ai_ trivial) λ_=>al_ (λ_=>ai_ trivial) λ_=>ag_ (t_ref40_conn (by omega) (by omega)) λ_ _=>ai_ trivial
instance{x0:Xl}{x1:tL Xe}{x2:Zb}[Ft x0][Sw x0][Ft x1][Ft x2]:Tc (ie_ x0 x1 x2):=⟨BF_⟩
theorem BG_{x0:Xv}[Ft x0][Sy x0]:W (λy=>y=true->∀d∈x0.Yj.Yb,d.Xj=2->bh_ d.Zt=some true) (if_ x0):=by
 unfold if_;refine ag_ Tk.ok λy f=>al_ (λ_=>ai_ (by simp)) λe=>?_
 have h:=f (by simpa using(qP.1 (qP.1 e).1).1);exact(tot:T _).mono λ_ _ _=>h
instance{x0:Xv}[Ft x0][Sy x0]:Tk (if_ x0) (λy=>y=true->∀d∈x0.Yj.Yb,d.Xj=2->bh_ d.Zt=some true):=⟨BG_⟩
theorem BH_{x0:Xa}[Ft x0]:T (c7_ x0):=by
 unfold c7_;exact tot
instance{x0:Xa}[Ft x0]:Tc (c7_ x0):=⟨BH_⟩
theorem t_ref42_same{x0:Xa}{f:Xa}[Ft x0][Ft f]:T (ha_ x0 f):=by
 unfold ha_;exact tot
instance{x0:Xa}{x1:Xa}[Ft x0][Ft x1]:Tc (ha_ x0 x1):=⟨t_ref42_same⟩
theorem t_ref42_at{x0:Yi}{f:Xa}[Ft x0][Ft f]:T (iQ_ x0 f):=by
 unfold iQ_;exact tot
instance{x0:Yi}{x1:Xa}[Ft x0][Ft x1]:Tc (iQ_ x0 x1):=⟨t_ref42_at⟩
theorem t_ref42_in{x0:tL Wl}{f:Xa}[Ft x0][Ft f]:T (kz_ x0 f):=by
 unfold kz_;exact tot
instance{x0:tL Wl}{x1:Xa}[Ft x0][Ft x1]:Tc (kz_ x0 x1):=⟨t_ref42_in⟩
theorem BI_{x0:Yi}[Ft x0]:T (ig_ x0):=by
 unfold ig_;exact tot
instance{x0:Yi}[Ft x0]:Tc (ig_ x0):=⟨BI_⟩
theorem BJ_{x0:Xa}[Ft x0]:T (ih_ x0):=by
 unfold ih_;exact tot
instance{x0:Xa}[Ft x0]:Tc (ih_ x0):=⟨BJ_⟩
theorem y6_{x0:tL Jb}{f:Jb}[Ft x0][Ft f]:T (gB_ x0 f):=by
 unfold gB_;exact tot
instance{x0:tL Jb}{x1:Jb}[Ft x0][Ft x1]:Tc (gB_ x0 x1):=⟨y6_⟩
theorem BK_{x0:Qd}[Ft x0]:T (ii_ x0):=by
 unfold ii_
 delta pu_
 exact tot
instance{x0:Qd}[Ft x0]:Tc (ii_ x0):=⟨BK_⟩
theorem rJ_{x0:Xv}[Ft x0]:T (dx_ x0):=by
 unfold dx_;exact tot
instance{x0:Xv}[Ft x0]:Tc (dx_ x0):=⟨rJ_⟩
theorem et_w(x:Xt):Xt.et x=x:=by cases x;rfl
theorem eta_r(r:Vl):Vl.mk r.Xj r.Fd_ r.Ql r.Uy r.Gg=r:=by cases r;rfl
theorem et_c(x:Xd):Xd.et x=x:=by cases x;rfl
theorem oh_(x:Xt):SizeOf.sizeOf x.Yr<SizeOf.sizeOf x/\SizeOf.sizeOf x.Jj<SizeOf.sizeOf x:=by cases x;simp;omega
theorem q4_(x:Vl):SizeOf.sizeOf x.Uy<SizeOf.sizeOf x:=by cases x;simp;omega
theorem nw_(x:Xd):SizeOf.sizeOf x.Yr<SizeOf.sizeOf x/\SizeOf.sizeOf x.Vg<SizeOf.sizeOf x/\SizeOf.sizeOf x.We<SizeOf.sizeOf x:=by cases x;simp;omega
theorem pX_{x0:Vl}[Ft x0]:W (λl=>Ft l/\SizeOf.sizeOf l<=SizeOf.sizeOf x0+1) (gC_ x0):=by
 have h:=q4_ x0;unfold gC_;rw[et_w];exact al_ (λ_=>ai_ ⟨inferInstance,by simp⟩) λ_=>ai_ ⟨inferInstance,by simp;omega⟩
theorem size48:∀n,(∀x:tL Xd,Ft x->SizeOf.sizeOf x<n->T ((bI_ n).1 x))/\(∀x:tL Xt,Ft x->SizeOf.sizeOf x<n->T ((bI_ n).2 x))
 | 0=>⟨λ_ _ h=>absurd h (zV _),λ_ _ h=>absurd h (zV _)⟩
 | n+1=>by
  obtain⟨h1,m⟩:=size48 n;refine⟨λx hx C=>?_,λx hx C=>?_⟩
  .show T (jH_ (bI_ n).2 (bI_ n).1 x);have D:=hx.len;unfold jH_;refine ag_ (P:=λ_=>True) (cN_ (λs=>s.2) (λs=>s.2<=(x.length:Int)) (x.length:Int) nn (qD 0) (by show(0:Int)<=_;omega) λs f u=>?_) λ_ _=>ai_ trivial
   unfold rd_;refine al_ (λe=>?_) λ_=>ai_ trivial
   have e:=of_decide_eq_true e;rw[bi_ f (by omega)];obtain⟨y,ey,j⟩:=bg_ (xs:=x) f e;have fy:Ft y:=hx.el j;have sy:=qu j;have q:=nw_ y;have hr:=(inferInstance:Ft y.Vg).len;refine bQ_ ey (ag_ (m y.Yr inferInstance (by omega)) λ_ _=>bQ_ ey (ag_ (h1 y.We inferInstance (by omega)) λ_ _=>bQ_ ey (ag_ (P:=λ_=>True) (cN_ (λt=>t.2) (λ_=>True) (y.Vg.length:Int) nn (qD 0) trivial λt p _=>?_) λ_ _=>fj_ e rfl (by show s.2+1<=_;omega))));unfold rc_;refine bQ_ ey (al_ (λe=>?_) λ_=>ai_ trivial);have e:=of_decide_eq_true e;rw[bi_ p (by omega)];refine bQ_ ey (ag_ (bg_ p e) λr hr=>?_)
   have fr:Ft r:=(inferInstance:Ft y.Vg).el hr;have sr:=qu hr;rw[et_w,eta_r];exact ag_ pX_ λl ⟨fl,sl⟩=>ag_ (m l fl (by omega)) λ_ _=>fj_ e rfl trivial
  .show T (eN_ (bI_ n).2 (bI_ n).1 x);have D:=hx.len;unfold eN_;refine ag_ (P:=λ_=>True) (cN_ (λs=>s.2) (λs=>s.2<=(x.length:Int)) (x.length:Int) nn (qD 0) (by show(0:Int)<=_;omega) λs f u=>?_) λ_ _=>ai_ trivial
   unfold lq_;refine al_ (λe=>?_) λ_=>ai_ trivial
   have e:=of_decide_eq_true e;rw[bi_ f (by omega)];obtain⟨y,ey,j⟩:=bg_ (xs:=x) f e;have fy:Ft y:=hx.el j;have sy:=qu j;have q:=oh_ y;exact bQ_ ey (ag_ (m y.Yr inferInstance (by omega)) λ_ _=>bQ_ ey (ag_ (h1 y.Jj inferInstance (by omega)) λ_ _=>fj_ e rfl (by show s.2+1<=_;omega)))
theorem T_lim{R:Type}{f:Nat->tO R}{n:Nat}(h:T (f n)):T (limO f):=by
 obtain⟨y,e,_⟩:=h;obtain⟨z,e⟩:=limO_ex e;exact⟨z,e,trivial⟩
instance{x0:tL Xd}[h:Ft x0]:Tc (qz_ x0):=⟨T_lim ((size48 (SizeOf.sizeOf x0+1)).1 x0 h (by omega))⟩
theorem deep48:∀n,(∀x:tL Xd,Ft x->SizeOf.sizeOf x<n->T ((bJ_ n).1 x))/\(∀x:tL Xt,Ft x->SizeOf.sizeOf x<n->T ((bJ_ n).2 x))
 | 0=>⟨λ_ _ h=>absurd h (zV _),λ_ _ h=>absurd h (zV _)⟩
 | n+1=>by
  obtain⟨h1,m⟩:=deep48 n;refine⟨λx hx C=>?_,λx hx C=>?_⟩
  .show T (jI_ (bJ_ n).2 (bJ_ n).1 x);have D:=hx.len;unfold jI_;refine ag_ (P:=λ_=>True) (cN_ (λs=>s.2) (λs=>s.2<=(x.length:Int)) (x.length:Int) nn (qD 0) (by show(0:Int)<=_;omega) λs f u=>?_) λ_ _=>ai_ trivial
   unfold rf_;refine al_ (λe=>?_) λ_=>ai_ trivial
   have e:=of_decide_eq_true e;rw[bi_ f (by omega)];obtain⟨y,ey,j⟩:=bg_ (xs:=x) f e;have fy:Ft y:=hx.el j;have sy:=qu j;have q:=nw_ y;have hr:=(inferInstance:Ft y.Vg).len;refine bQ_ ey (ag_ (m y.Yr inferInstance (by omega)) λ_ _=>bQ_ ey (ag_ (h1 y.We inferInstance (by omega)) λ_ _=>ag_ (P:=λ_=>True) (cN_ (λt=>t.2) (λ_=>True) (y.Vg.length:Int) nn (qD 0) trivial λt p _=>?_) λ_ _=>fj_ e rfl (by show s.2+1<=_;omega)));unfold re_;refine bQ_ ey (al_ (λe=>?_) λ_=>ai_ trivial);have e:=of_decide_eq_true e;rw[bi_ p (by omega)];refine bQ_ ey (ag_ (bg_ p e) λr hr=>?_);have fr:Ft r:=(inferInstance:Ft y.Vg).el hr
   have sr:=qu hr;rw[et_w,eta_r];exact ag_ pX_ λl ⟨fl,sl⟩=>ag_ (m l fl (by omega)) λ_ _=>fj_ e rfl trivial
  .show T (eO_ (bJ_ n).2 (bJ_ n).1 x);have D:=hx.len;unfold eO_;refine ag_ (P:=λ_=>True) (cN_ (λs=>s.2) (λs=>s.2<=(x.length:Int)) (x.length:Int) nn (qD 0) (by show(0:Int)<=_;omega) λs f u=>?_) λ_ _=>ai_ trivial
   unfold lr_;refine al_ (λe=>?_) λ_=>ai_ trivial
   have e:=of_decide_eq_true e;rw[bi_ f (by omega)];obtain⟨y,ey,j⟩:=bg_ (xs:=x) f e;have fy:Ft y:=hx.el j;have sy:=qu j;have q:=oh_ y;exact bQ_ ey (ag_ (m y.Yr inferInstance (by omega)) λ_ _=>bQ_ ey (ag_ (h1 y.Jj inferInstance (by omega)) λ_ _=>fj_ e rfl (by show s.2+1<=_;omega)))
instance{x0:tL Xd}[h:Ft x0]:Tc (qA_ x0):=⟨T_lim ((deep48 (SizeOf.sizeOf x0+1)).1 x0 h (by omega))⟩
theorem BL_{x0:Int}  : T (ij_ x0):=by
 unfold ij_;exact tot
instance{x0:Int}  : Tc (ij_ x0):=⟨BL_⟩
theorem t_ref48_Name{x0:tR}[Ft x0]:T (fw_ x0):=by
 unfold fw_;exact tot
instance{x0:tR}[Ft x0]:Tc (fw_ x0):=⟨t_ref48_Name⟩
theorem BM_{x0:Xd}[Ft x0]:W (λy=>y=true->x0.Xj=8\/x0.Xj=11\/x0.Xj=5\/x0.Xj=6->x0.We.length=2) (k1_ x0):=by
 unfold k1_;refine ag_ (dq_ (R:=True) λ_=>ag_ Tc.ok λ_ _=>ai_ λ_=>trivial) λ_ _=>al_ (λ_=>ai_ (by simp)) λ_=>?_
 have no:∀{k:Int} {c:tV},x0.Xj=k->(k≠8/\k≠11/\k≠5/\k≠6)->(c=true->x0.Xj=8\/x0.Xj=11\/x0.Xj=5\/x0.Xj=6->x0.We.length=2):=λe h _ f=>by rw[e]at f;omega
 have or:∀{c:tV},(x0.Xj≠8/\x0.Xj≠11/\x0.Xj≠5/\x0.Xj≠6)->(c=true->x0.Xj=8\/x0.Xj=11\/x0.Xj=5\/x0.Xj=6->x0.We.length=2):=λh _ f=>by omega
 refine al_ (λe=>ai_ (no (k:=1) (by simpa using e) (by decide))) λ_=>al_ (λe=>ai_ (no (k:=2) (by simpa using e) (by decide))) λ_=>?_
 refine ag_ (P:=λo=>o=true->x0.Xj=7\/x0.Xj=13\/x0.Xj=9\/x0.Xj=14) tot λo j=>al_ (λe=>ai_ (or (by have:=j e;omega))) λ_=>?_
 refine ag_ (P:=λo=>o=false->x0.Xj≠8/\x0.Xj≠11/\x0.Xj≠5/\x0.Xj≠6) tot λo j=>al_ (λe=>ai_ λf _=>by simp at f;omega) λe=>?_
 have:=j e;exact al_ (λ_=>ai_ (or this)) λ_=>ag_ (P:=λ_=>True) (al_ (λ_=>ai_ trivial) λ_=>ai_ trivial) λ_ _=>al_ (λ_=>ai_ (or this)) λ_=>al_ (λ_=>ai_ (or this)) λ_=>al_ (λ_=>ai_ (or this)) λ_=>ai_ (or this)
theorem xJ_{x0:tR}[Ft x0]:T (fL_ x0):=by
 unfold fL_;exact tot
instance{x0:tR}[Ft x0]:Tc (fL_ x0):=⟨xJ_⟩
theorem y7_{x0:tR}[Ft x0]:T (gD_ x0):=by
 unfold gD_;exact tot
instance{x0:tR}[Ft x0]:Tc (gD_ x0):=⟨y7_⟩
theorem y8_{x0:Xt}[Ft x0](h:x0.Xj=4->0<x0.Yr.length):T (jJ_ x0):=by
 unfold jJ_;refine ag_ (P:=λy=>Ft y) (al_ (λe=>?_) λ_=>ai_ (by rw[et_w];infer_instance)) λ_ _=>tot
 have:=h (by simpa using e);exact ag_ (j4_ (qD 0) (by omega)) λy f=>ai_ (by rw[et_w];exact f)
theorem t_ref48_none{x0:Xt}[Ft x0]:T (jK_ x0):=by
 unfold jK_;exact tot
instance{x0:Xt}[Ft x0]:Tc (jK_ x0):=⟨t_ref48_none⟩
theorem BN_{n:Nat}(h:n<=1048576):T (k2_ (n:Int)):=by
 unfold k2_;refine ag_ (P:=λ_=>True) (cN_ (λs=>s.2) (λs=>(s.1.length:Int)<=s.2/\s.2<=(n:Int)) (n:Int) (by omega) (qD 0) ⟨qD 0,by show(0:Int)<=n;omega⟩ λs f ⟨p,m⟩=>?_) λ_ _=>ai_ trivial
 unfold pv_;refine al_ (λe=>?_) λ_=>ai_ trivial
 have e:=of_decide_eq_true e;rw[bi_ f (by omega)];exact ag_ (mw_ (by simp;omega)) λz j=>fj_ e rfl ⟨by show(z.length:Int)<=s.2+1;simp at j;omega,by show s.2+1<=_;omega⟩
theorem vz_{x0:Int}  : T (fb_ x0):=by
 unfold fb_;exact tot
instance{x0:Int}  : Tc (fb_ x0):=⟨vz_⟩
theorem tV_{x0:Xt}[Ft x0]:T (en_ x0):=by
 unfold en_;refine al_ (λ_=>ai_ trivial) λe=>bE_ (gN_ λa b c d=>tot) λ_ _=>?_
 have e:x0.Ub.length=x0.Wf.length:=by simp at e;omega
 have p:(x0.Wf==[])=false->0<x0.Wf.length:=λh=>by
  cases f:x0.Wf with
  | nil=>rw[f]at h;cases h
  | cons a l=>simp
 refine ag_ (c9_ (R:=True) λh=>ag_ (cd_ (qD 0) (by have:=p h;omega)) λ_ _=>ai_ λ_=>trivial) λc j=>ag_ (c9_ (R:=True) λh=>?_) λ_ _=>ai_ trivial
 have B:T (ap_ x0.Wf 0):=cd_ (qD 0) (by have:=p (j h).1;omega);exact ag_ B λ_ _=>ag_ (dq_ (R:=True) λ_=>ag_ B λ_ _=>ai_ λ_=>trivial) λ_ _=>ag_ (dq_ (R:=True) λ_=>ag_ B λ_ _=>ai_ λ_=>trivial) λ_ _=>ai_ λ_=>trivial
instance{x0:Xt}[Ft x0]:Tc (en_ x0):=⟨tV_⟩
set_option linter.unusedSectionVars false
structure G48(n:Nat):Prop where
 items:∀x,Ft x->4*SizeOf.sizeOf x+3<n->T ((aq_ n).1 x)
 upTo:∀x k,Ft x->4*SizeOf.sizeOf x+2<n->T ((aq_ n).2.1 x k)
 cmd:∀x,Ft x->4*SizeOf.sizeOf x+1<n->T ((aq_ n).2.2.1 x)
 words:∀x,Ft x->4*SizeOf.sizeOf x<n->W (λb=>b=true->∀y∈x,y.Xj=4->0<y.Yr.length) ((aq_ n).2.2.2.1 x)
 redir:∀x,Ft x->4*SizeOf.sizeOf x<n->T ((aq_ n).2.2.2.2.1 x)
 cond:∀x,Ft x->4*SizeOf.sizeOf x+2<n->T ((aq_ n).2.2.2.2.2.1 x)
 cases:∀x,Ft x->4*SizeOf.sizeOf x<n->T ((aq_ n).2.2.2.2.2.2.1 x)
 word:∀x,Ft x->4*SizeOf.sizeOf x<n->W (λb=>b=true->x.Xj=4->0<x.Yr.length) ((aq_ n).2.2.2.2.2.2.2 x)
theorem sub_size{α:Type}[SizeOf α](l:tL α):∀k,SizeOf.sizeOf (l.drop k)<=SizeOf.sizeOf l/\SizeOf.sizeOf (l.take k)<=SizeOf.sizeOf l:=by
 induction l with
 | nil=>intro k;simp
 | cons a l f=>
  intro k;cases k with
  | zero=>simp;omega
  | succ k=>
   have:=f k;simp;omega
theorem W_subS{α:Type}[Sm α][SizeOf α]{xs:tL α}{lo hi:Int}[h:Ft xs](h0:0<=lo)(h1:lo<=hi)(j:hi<=(xs.length:Int)):W (λf=>Ft f/\SizeOf.sizeOf f<=SizeOf.sizeOf xs) (aA_ xs lo hi):=by
 obtain⟨y,e,m⟩:=ip_ (xs:=xs) h0 h1 j;refine⟨y,e,m,?_⟩;rw[cM_ h0 h1 j]at e;obtain rfl:=qSj e;have:=(sub_size xs hi.toNat).2;have:=(sub_size (xs.take hi.toNat) lo.toNat).1;omega
theorem words48{f:Xt->tO tV}{x:tL Xt}[Ft x](h:∀y∈x,W (λb=>b=true->y.Xj=4->0<y.Yr.length) (f y)):W (λb=>b=true->∀y∈x,y.Xj=4->0<y.Yr.length) (eo_ f x):=by
 unfold eo_;refine bE_ (P:=λ_=>∀y∈x,y.Xj=4->0<y.Yr.length) (W_forI (I:=λs=>∀y∈x.take s.toNat,y.Xj=4->0<y.Yr.length) nn (by simp) (λs a b c d=>?_) (λs a b d=>?_)) λ_ k=>ai_ λ_=>k
 .obtain⟨y,ey,m⟩:=bg_ (xs:=x) a b;refine bQ_ ey ?_;rw[et_w];refine ag_ (h y m) λr hr=>al_ (λ_=>j5_ (by simp)) λe=>St_n a b c ?_
  have p:x[s.toNat]? = some y:=by
   unfold ah_ at ey;rw[qY a]at ey;exact ey
  have q:(s+1).toNat=s.toNat+1:=by omega
  intro z j;rw[q,List.take_add_one,p]at j;rcases qW.1 j with j|j
  .exact d z j
  .obtain rfl:=qT.1 j;exact hr (by simpa using e)
 .rw[zA (by omega)]at d;exact d
theorem items48:∀n,G48 n
 | 0=>⟨λ_ _ h=>absurd h (zV _),λ_ _ _ h=>absurd h (zV _),λ_ _ h=>absurd h (zV _),λ_ _ h=>absurd h (zV _),λ_ _ h=>absurd h (zV _),λ_ _ h=>absurd h (zV _),λ_ _ h=>absurd h (zV _),λ_ _ h=>absurd h (zV _)⟩
 | n+1=>by
  have g:=items48 n;refine⟨λx hx m=>?_,λx k hx m=>?_,λx hx m=>?_,λx hx m=>?_,λx hx m=>?_,λx hx m=>?_,λx hx m=>?_,λx hx m=>?_⟩
  .exact ag_ (g.upTo x 4 hx (by omega)) λ_ _=>ai_ trivial
  .show T (jL_ (aq_ n).2.2.1 x k);unfold jL_;refine bE_ (gN_ λs a b c=>?_) λ_ _=>ai_ trivial
   obtain⟨y,ey,j⟩:=bg_ (xs:=x) a b;have fy:Ft y:=hx.el j;have sy:=qu j;refine bQ_ ey (ag_ Tc.ok λ_ _=>ag_ (c9_ (R:=True) λ_=>bQ_ ey ?_) λ_ _=>al_ (λ_=>W_rtn trivial) λ_=>W_nxt a c);rw[et_c];exact ag_ (g.cmd y fy (by omega)) λ_ _=>ai_ λ_=>trivial
  .have u:=nw_ x;show T (fx_ (aq_ n).2.2.2.1 (aq_ n).2.2.2.2.1 (aq_ n).2.2.2.2.2.1 (aq_ n).2.1 (aq_ n).1 (aq_ n).2.2.2.2.2.2.1 x);unfold fx_;rw[et_c];refine ag_ BM_ λc C=>ag_ (P:=λy=>y=false->(c=true/\∀y∈x.Yr,y.Xj=4->0<y.Yr.length)) ?_ λd F=>al_ (λ_=>ai_ trivial) λe=>?_
   .cases c with
    | false=>exact⟨true,rfl,λh=>by cases h⟩
    | true=>exact ag_ (g.words x.Yr inferInstance (by omega)) λb G=>ai_ λh=>⟨rfl,G (by simpa using h)⟩
   obtain⟨J,D⟩:=F e;have q:=C J;refine bE_ (gN_ λs a b c=>?_) λ_ _=>?_
   .obtain⟨r,er,hr⟩:=bg_ (xs:=x.Vg) a b;have fr:Ft r:=(inferInstance:Ft x.Vg).el hr;have sr:=qu hr;refine bQ_ er ?_;rw[et_w,eta_r];exact ag_ (g.redir r fr (by omega)) λ_ _=>al_ (λ_=>W_rtn trivial) λ_=>W_nxt a c
   refine al_ (λ_=>ag_ (c9_ (R:=True) λh=>?_) λ_ _=>ai_ trivial) λ_=>ag_ (P:=λo=>o=true->x.We.length=2) (al_ (λh=>ai_ λ_=>q (.inl (by simpa using h))) λ_=>ai_ λh=>q (.inr (.inl (by simpa using h)))) λo p=>al_ (λh=>?_) λ_=>ag_ (P:=λ_=>True) (al_ (λ_=>ai_ trivial) λ_=>ai_ trivial) λ_ _=>al_ (λ_=>ag_ (g.items x.We inferInstance (by omega)) λ_ _=>ai_ trivial) λ_=>ag_ (P:=λo=>o=true->x.We.length=2) (al_ (λh=>ai_ λ_=>q (.inr (.inr (.inl (by simpa using h))))) λ_=>ai_ λh=>q (.inr (.inr (.inr (by simpa using h))))) λo p=>al_ (λh=>?_) λ_=>al_ (λ_=>ag_ (g.upTo x.We 3 inferInstance (by omega)) λ_ _=>ai_ trivial) λ_=>al_ (λ_=>ag_ (g.cases x.We inferInstance (by omega)) λ_ _=>ai_ trivial) λ_=>ag_ (g.upTo x.We 1 inferInstance (by omega)) λ_ _=>ai_ trivial
   .have:¬x.Yr.length=0:=by simpa using h
    refine ag_ (bg_ (qD 0) (by omega)) λy j=>?_
    have:Ft y:=(inferInstance:Ft x.Yr).el j;rw[et_w];exact ag_ (y8_ (D y j)) λ_ _=>ai_ λ_=>trivial
   .have:=p h;refine ag_ (bg_ (qD 0) (by omega)) λy j=>?_
    have fy:Ft y:=(inferInstance:Ft x.We).el j;have sy:=qu j;rw[et_c];exact ag_ (g.cond y fy (by omega)) λ_ _=>ag_ (dq_ (R:=True) λ_=>ag_ (W_subS (by decide) (by omega) (qD _)) λz ⟨fz,sz⟩=>ag_ (g.upTo z 1 fz (by omega)) λ_ _=>ai_ λ_=>trivial) λ_ _=>ai_ trivial
   .have:=p h;exact ag_ (W_subS (by decide) (by decide) (by omega)) λz ⟨fz,sz⟩=>ag_ (g.upTo z 3 fz (by omega)) λ_ _=>ag_ (dq_ (R:=True) λ_=>ag_ (W_subS (by decide) (by omega) (qD _)) λz ⟨fz,sz⟩=>ag_ (g.upTo z 2 fz (by omega)) λ_ _=>ai_ λ_=>trivial) λ_ _=>ai_ trivial
  .exact words48 λy j=>g.word y (hx.el j) (by have:=qu j;omega)
  .have u:=q4_ x;have M:=(inferInstance:Ft x.Uy.Wf).len;show T (ep_ (aq_ n).2.2.2.2.2.2.2 x);unfold ep_;rw[et_w];refine al_ (λ_=>ai_ trivial) λ_=>ag_ (P:=λ_=>True) (al_ (λ_=>ai_ trivial) λ_=>al_ (λ_=>ai_ trivial) λ_=>ai_ trivial) λ_ _=>al_ (λ_=>ag_ (g.word x.Uy inferInstance (by omega)) λ_ _=>ai_ trivial) λ_=>ag_ (P:=λ_=>True) (al_ (λ_=>ai_ trivial) λ_=>ai_ trivial) λ_ _=>al_ (λ_=>ag_ Tc.ok λ_ _=>ai_ trivial) λ_=>al_ (λ_=>ag_ (dq_ (R:=True) λ_=>ag_ (BN_ (by omega)) λ_ _=>ai_ λ_=>trivial) λ_ _=>ag_ (dq_ (R:=True) λ_=>ag_ (c9_ (R:=True) λh=>?_) λ_ _=>ai_ λ_=>trivial) λ_ _=>ai_ trivial) λ_=>ai_ trivial
   have:¬x.Uy.Wf.length=0:=by simpa using h
   rw[ao_ (n:=(x.Uy.Wf.length:Int)-1) ⟨by omega,by omega⟩];exact ag_ (cd_ (by omega) (by omega)) λ_ _=>ai_ λ_=>trivial
  .show T (jM_ (aq_ n).2.2.1 x);unfold jM_;rw[et_c];exact ag_ (dq_ (R:=True) λ_=>ag_ (g.cmd x hx (by omega)) λ_ _=>ai_ λ_=>trivial) λ_ _=>ai_ trivial
  .show T (iA_ (aq_ n).2.2.2.1 (aq_ n).1 x);unfold iA_;refine bE_ (gN_ λs a b c=>?_) λ_ _=>ai_ trivial
   obtain⟨y,ey,j⟩:=bg_ (xs:=x) a b;have fy:Ft y:=hx.el j;have sy:=qu j;have u:=nw_ y;exact bQ_ ey (ag_ (c9_ (R:=True) λ_=>ag_ (g.words y.Yr inferInstance (by omega)) λ_ _=>ai_ λ_=>trivial) λ_ _=>ag_ (c9_ (R:=True) λ_=>ag_ (g.items y.We inferInstance (by omega)) λ_ _=>ai_ λ_=>trivial) λ_ _=>al_ (λ_=>W_rtn trivial) λ_=>W_nxt a c)
  .have u:=oh_ x;show W _ (eP_ (aq_ n).2.2.2.1 (aq_ n).1 x);unfold eP_;rw[et_w];have no:∀{k:Int} {c:tV},x.Xj=k->k≠4->(c=true->x.Xj=4->0<x.Yr.length):=λe h _ f=>absurd (e.symm.trans f) h
   refine al_ (λe=>ag_ Tc.ok λ_ _=>ai_ (no (k:=1) (by simpa using e) (by decide))) λ_=>ag_ (P:=λo=>o=true->x.Xj=2\/x.Xj=3) (al_ (λh=>ai_ λ_=>.inl (by simpa using h)) λ_=>ai_ λh=>.inr (by simpa using h)) λo p=>al_ (λh=>ag_ Tc.ok λ_ _=>ai_ λ_ f=>by rcases p h with e|e<;>rw[e]at f<;>cases f) λ_=>al_ (λe=>ag_ Tc.ok λ_ _=>ag_ (dq_ (R:=True) λ_=>ag_ (g.words x.Yr inferInstance (by omega)) λ_ _=>ai_ λ_=>trivial) λ_ _=>ai_ (no (k:=7) (by simpa using e) (by decide))) λ_=>al_ (λe=>ag_ (dq_ (R:=True) λ_=>ag_ (g.words x.Yr inferInstance (by omega)) λ_ _=>ai_ λ_=>trivial) λ_ _=>ai_ (no (k:=5) (by simpa using e) (by decide))) λ_=>al_ (λe=>ag_ (dq_ (R:=True) λ_=>ag_ (g.items x.Jj inferInstance (by omega)) λ_ _=>ai_ λ_=>trivial) λ_ _=>ai_ (no (k:=6) (by simpa using e) (by decide))) λ_=>al_ (λ_=>bE_ (Q:=λb=>b=true->x.Xj=4->0<x.Yr.length) (P:=λ_=>True) (gN_ λs a b c=>ag_ (bg_ a b) λ_ _=>al_ (λ_=>W_rtn (by simp)) λ_=>W_nxt a c) λ_ _=>ag_ (dq_ (R:=True) λ_=>ag_ (g.words x.Yr inferInstance (by omega)) λ_ _=>ai_ λ_=>trivial) λc C=>ai_ λh _=>?_) λ_=>ai_ (by simp)
   have:=(C h).1;simp at this;omega
instance{x0:tL Xd}[h:Ft x0]:Tc (oz_ x0):=⟨T_lim ((items48 (4*SizeOf.sizeOf x0+4)).items x0 h (by omega))⟩
theorem BO_{x0:tL Xd}[Ft x0]:T (f4_ x0):=by
 unfold f4_;exact tot
instance{x0:tL Xd}[Ft x0]:Tc (f4_ x0):=⟨BO_⟩
theorem tW_{x0:Xv}[Ft x0]:T (eq_ x0):=by
 unfold eq_;exact tot
instance{x0:Xv}[Ft x0]:Tc (eq_ x0):=⟨tW_⟩
theorem vA_{x0:Xv}[Ft x0]:T (fc_ x0):=by
 unfold fc_;exact tot
instance{x0:Xv}[Ft x0]:Tc (fc_ x0):=⟨vA_⟩
theorem rK_{x0:Xv}{f:Wr}[Ft x0][Ft f]:T (dy_ x0 f):=by
 unfold dy_;refine ag_ (P:=λ_=>True) ?_ λ_ _=>ag_ (P:=λ_=>True) ?_ λ_ _=>ag_ (P:=λ_=>True) ?_ λ_ _=>ag_ Tk.ok λy ⟨_,j⟩=>ag_ (dq_ (R:=True) λe=>ag_ (cd_ (qD 0) ?_) λ_ _=>ai_ λ_=>trivial) λ_ _=>ai_ trivial
 .exact W_l2 nn (qD 0) inferInstance (λ_ _ _ _ _=>tot) (λ_ _=>trivial)
 .exact W_l2 nn (qD 0) inferInstance (λ_ _ _ _ _=>tot) (λ_ _=>trivial)
 .exact W_l2 nn (qD 0) inferInstance (λ_ _ _ _ _=>tot) (λ_ _=>trivial)
 .simp at e;obtain⟨⟨_,q⟩,p⟩:=e;have h:=j q;rw[p]at h;cases m:f.Kb with
  | nil=>exact absurd m h
  | cons a l=>simp
instance{x0:Xv}{x1:Wr}[Ft x0][Ft x1]:Tc (dy_ x0 x1):=⟨rK_⟩
theorem BP_{x0:Xv}[Ft x0][Sy x0]:W (λy=>y=true->∀d∈x0.Yj.Yb,d.Xj=2->bh_ d.Zt=some true) (k3_ x0):=by
 unfold k3_;refine ag_ Tk.ok λy f=>ag_ (c9_ (R:=True) λ_=>tot) λa p=>ag_ (c9_ (R:=True) λ_=>tot) λb m=>ag_ (c9_ (R:=True) λ_=>tot) λc j=>al_ (λ_=>ai_ (by simp)) λe=>?_
 have h:=f (by simpa using(p (m (j (qP.1 (qP.1 e).1).1).1).1).1);exact(tot:T _).mono λ_ _ _=>h
theorem BQ_{x0:Xv}[Ft x0][Sy x0]:W (λy=>y=true->∀d∈x0.Yj.Yb,d.Xj=2->bh_ d.Zt=some true) (k4_ x0):=by
 unfold k4_;exact ag_ BP_ λy f=>ai_ f
end Go.Proofs.YtokncnjohiobcaaGreatDoor
