/-
 What the statements of this seat hang on,part 9: Hza Hzb Hzc Hzd Uc Hzh Hzi Hzj Hzk Hzl Ud Ue Uf.
-/
import Derived.Test.YtebokaoegomboaaGreatDoorZD8
namespace Go.Proofs.YtebokaoegomboaaGreatDoor
open Go.Rt Go.RowKit
theorem rn_{s:Str}{a:Nat}{q:Xq×Xp×Nat}(ha:a<=s.length)(h:entD s a=some q):q.2.2<=s.length/\a+77<=q.2.2/\q.1.Xv<=9223372036854775807/\q.1.Xy.length<=s.length:=by
 unfold entD at h;obtain⟨q1,p1,h⟩:=qOb.1 h;obtain⟨q2,p2,h⟩:=qOb.1 h;obtain⟨q3,p3,h⟩:=qOb.1 h;obtain⟨q4,p4,h⟩:=qOb.1 h;obtain⟨q5,p5,h⟩:=qOb.1 h;obtain⟨q6,p6,h⟩:=qOb.1 h;obtain⟨q7,p7,h⟩:=qOb.1 h;obtain⟨q8,p8,h⟩:=qOb.1 h;obtain⟨q9,p9,h⟩:=qOb.1 h;obtain⟨q10,p10,h⟩:=qOb.1 h;obtain⟨q11,p11,h⟩:=qOb.1 h;obtain⟨q12,p12,h⟩:=qOb.1 h;obtain⟨q13,p13,h⟩:=qOb.1 h;obtain rfl:=qSj h;have b1:=kV_ ha p1;have b2:=kV_ b1.1 p2;have b3:=kV_ b2.1 p3;have b4:=kV_ b3.1 p4;have b5:=kV_ b4.1 p5;have b6:=kV_ b5.1 p6;have b7:=mW_ p7;have b8:=mW_ p8;have b9:=mW_ p9;have b10:=mW_ p10;have b11:=kV_ b10.1 p11;have b12:=kV_ b11.1 p12
 have b13:=sD_le b12.1 p13;simp only;omega
def gD_(s:Str):Nat->Nat->Option (List (Xq×Xp)) | 0,_=>none|f+1,a=>if a<s.length then(entD s a).bind λ q=>(gD_ s f q.2.2).map λ l=>(q.1,q.2.1)::l else some []
def e7_(q:Xq×Xp):Xr:=Xr.mk q.1 q.2
theorem P_entries{s:Str}(hs:s.length<=2000000):∀(f a:Nat) (out:List Xr) {d:Yy},DS s (some a) d->a<=s.length->s.length-a<f->out.length<=a ->
  ∃o,ak_ (cO_ s) (f+1) (d,out)=some o/\match gD_ s f a with|some l=>o.1.Zv=false/\o.2=out++l.map e7_|none=>o.1.Zv=true
 | 0,a,out,d,_,_,hf,_=>by omega
 | f + 1,a,out,d,hd,ha,hf,ho=>by
  obtain⟨e1,e2,a',e3,_,e5⟩:=id hd;obtain rfl:=e5 a rfl;unfold gD_;by_cases hlt:a'<s.length
  .rw[if_pos hlt];obtain⟨x,d',h1,h2,h3⟩:=d_entry hs hd;have hstep:cO_ s (d,out)=some (.next (d',out++[x])):=by
    unfold cO_;refine ah_ (by simp only[e2,e3];simp;omega) (aa_ h1 (aa_ (cx_ (by simp;omega) (by simp;omega)) rfl))
   cases hq:entD s a' with
   | none =>
    simp only[qBs,hq,Option.map_none]at h2;have hb:d'.Zv=true:=h2.2.1;refine⟨(d',out++[x]),bL_ hstep (aZ_ (n:=f) ?_),hb⟩;unfold cO_;exact ac_ (by simp[hb]) rfl
   | some q =>
    obtain⟨l1,l2,_⟩:=rn_ ha hq;simp only[qBs,hq,Option.map_some]at h2 ⊢;obtain⟨o,g1,g2⟩:=P_entries hs f q.2.2 (out++[x]) h2 l1 (by omega) (by simp;omega);refine⟨o,bL_ hstep g1,?_⟩;have hx:=h3 a' q rfl hq;cases hl:gD_ s f q.2.2 with
    | none=>rw[hl]at g2;exact g2
    | some l =>
     rw[hl]at g2;refine⟨g2.1,?_⟩;rw[g2.2,hx];simp[e7_]
  .rw[if_neg hlt];refine⟨(d,out),aZ_ ?_,e2,by simp⟩;unfold cO_;exact ac_ (by simp only[e3];simp;omega) rfl
def gE_(s:Str)(id:Int)(f a:Nat):Option (List (Xq×Xp)):=(gD_ s f a).bind λ l=>if l.all (λ q=>q.1.Xw==id)then some l else none
theorem R_entries{s:Str}(hs:s.length<=2000000)(n:Xq)(e:Int):∀(f a:Nat) (ns:List Xq) (rs:List Xp) {d:Yc},RS s (some a) d->a<=s.length->s.length-a<f->ns.length<=a->rs.length<=a ->
  ak_ (cp_ (s,e) n) f (ns,rs,d)=some (match gE_ s n.Id_ f a with|some l => .fall (ns++l.map (·.1),rs++l.map (·.2))|none => .ret ([],2))
 | 0,a,ns,rs,d,_,_,hf,_,_=>by omega
 | f + 1,a,ns,rs,d,hd,ha,hf,hn,hr=>by
  obtain⟨e1,e2,a',e3,_,e5⟩:=id hd;obtain rfl:=e5 a rfl;unfold gE_ gD_;by_cases hlt:a'<s.length
  .rw [if_pos hlt];obtain⟨m,r,d',h1,h2,h3⟩:=r_entry hs hd;cases hq:entD s a' with
   | none =>
    simp only[qBs,hq,Option.map_none]at h2;have hb:d'.Zg=true:=h2.2.1;refine aZ_ ?_;unfold cp_;exact ah_ (by simp only[e3];simp;omega) (aa_ h1 (ah_ (by simp[hb]) rfl))
   | some q =>
    obtain⟨l1,l2,_⟩:=rn_ ha hq;simp only[qBs,hq,Option.map_some]at h2 ⊢;obtain⟨rfl,rfl⟩:=h3 a' q rfl hq;have hb:d'.Zg=false:=h2.2.1;by_cases hp:q.1.Xw=n.Id_
    .have hstep:cp_ (s,e) n (ns,rs,d)=some (.next (ns++[q.1],rs++[q.2.1],d')):=by
      unfold cp_;exact ah_ (by simp only[e3];simp;omega) (aa_ h1 (ac_ (by simp[hb,hp]) (aa_ (cx_ (by simp;omega) (by simp;omega)) (aa_ (cx_ (by simp;omega) (by simp;omega)) rfl))))
     have ih:=R_entries hs n e f q.2.2 (ns++[q.1]) (rs++[q.2.1]) h2 l1 (by omega) (by simp;omega) (by simp;omega);refine bL_ hstep (ih.trans ?_);unfold gE_;cases gD_ s f q.2.2 with
     | none=>rfl
     | some l =>
      simp only[qBs,Option.map_some,List.all_cons,hp,beq_self_eq_true,Bool.true_and];cases hall:l.all (λ q=>q.1.Xw==n.Id_)with
      | true=>simp
      | false=>simp
    .have hz:((Option.map (λ l=>(q.1,q.2.1)::l) (gD_ s f q.2.2)).bind λ l=>if l.all (λ q=>q.1.Xw==n.Id_)then some l else none)=none:=by
      cases gD_ s f q.2.2 with
      | none=>rfl
      | some l=>simp[hp]
     rw[hz];refine aZ_ ?_;unfold cp_;exact ah_ (by simp only[e3];simp;omega) (aa_ h1 (ah_ (by simp[hp]) rfl))
  .rw[if_neg hlt];refine aZ_ ?_;unfold cp_;refine ac_ (by simp only[e3];simp;omega) ?_;simp
abbrev Gn:=List Xq×List Str×Int
def fG(rec:Xq->Xp->Int->Gn)(left:Int)(acc:List Xq×List Str)(q:Xq×Xp):(List Xq×List Str) ⊕ Gn:=if(rec q.1 q.2 (left-(acc.1.length:Int))).2.2=0 then .inl (acc.1++(rec q.1 q.2 (left-(acc.1.length:Int))).1,acc.2++(rec q.1 q.2 (left-(acc.1.length:Int))).2.1)else .inr ([],acc.2++(rec q.1 q.2 (left-(acc.1.length:Int))).2.1,(rec q.1 q.2 (left-(acc.1.length:Int))).2.2)
def ro_(n:Xq)(d:Str):Xq:=Xq.mk n.Id_ n.Xw n.Xo n.Xy n.Xv n.Yw n.Yv n.Yg n.Xu n.Xa d
def aO_(n:Xq):Int:=if n.Xv>=2147483648 then 3 else 1
def bi_ (s:Xj):Nat->Xq->Xp->Int->Gn
 | 0,_,_,_=>([],[],2)
 | f + 1,n,r,left=>if left<1 then([],[],2)else
   if (aB_ s (aO_ n) r).2.2=0 then
    (if n.Xv>=2147483648 then
     (match gE_ (aB_ s (aO_ n) r).1 n.Id_ ((aB_ s (aO_ n) r).1.length+1) 0 with
      | none=>([],(aB_ s (aO_ n) r).2.1,2)
      | some l=>outS (λ acc=>(acc.1,acc.2,0)) (λ e=>e) (bD_ (fG (bi_ s f) left) ([n],(aB_ s (aO_ n) r).2.1) l))
    else([ro_ n (aB_ s (aO_ n) r).1],(aB_ s (aO_ n) r).2.1,0))
   else([],(aB_ s (aO_ n) r).2.1,(aB_ s (aO_ n) r).2.2)
theorem kX_{s:Xj}(hs:StOK s)(k:Int)(r:Xp):(aB_ s k r).1.length<=1048576/\(aB_ s k r).2.1.length<=1057:=by
 unfold aB_;split
 .have h2:=hN_le (nP r.Xi.toNat);obtain⟨h3,h4⟩:=nt_ hs k (hN (nP r.Xi.toNat)) r.Yq r.Xi.toNat 0 r.Xi.toNat;exact⟨Nat.le_trans h3 (sH_ h2),Nat.le_trans h4 (cntN_le h2)⟩
 .simp
theorem ma_ {s:Xj} (hs:StOK s):∀(f:Nat) {n:Xq} {r:Xp} {left:Int},(bi_ s f n r left).2.2=0->1<=(bi_ s f n r left).1.length/\((bi_ s f n r left).1.length:Int)<=left/\(bi_ s f n r left).2.1.length<=1057*(bi_ s f n r left).1.length
 | 0,n,r,left,h=>by cases h
 | f + 1,n,r,left,h=>by
  obtain⟨_,hb⟩:=kX_ hs (aO_ n) r;unfold bi_ at h ⊢;split at h
  .cases h
  .rename_i hl;rw[if_neg hl];split at h
   .rename_i hc;rw[if_pos hc];split at h
    .rename_i hd;rw[if_pos hd];split at h
     .cases h
     .rename_i l _;have hi:=i6_ (f:=fG (bi_ s f) left) (λ _ acc=>1<=acc.1.length/\(acc.1.length:Int)<=left/\acc.2.length<=1057*acc.1.length) (λ e=>e.2.2≠0) (xs:=l) (k:=0) (s0:=([n],(aB_ s (aO_ n) r).2.1)) ⟨by simp,by simp;omega,by simp;omega⟩ λ i acc q _ ⟨a1,a2,a3⟩=>by
       unfold fG;refine⟨λ s' he => ?_,λ e he => ?_⟩
       .split at he
        .rename_i h0;obtain⟨b1,b2,b3⟩:=ma_ hs f h0;obtain rfl:=Sum.inl.inj he;simp only[qLa];omega
        .cases he
       .split at he
        .cases he
        .rename_i h0;obtain rfl:=Sum.inr.inj he;exact h0
      cases hr:bD_ (fG (bi_ s f) left) ([n],(aB_ s (aO_ n) r).2.1) l with
      | inl acc=>exact hi.1 acc hr
      | inr e =>
       rw[hr]at h;exact absurd h (hi.2 e hr)
    .rename_i hd;rw[if_neg hd];simp only[List.length_singleton];omega
   .rename_i hc;exact absurd h hc
theorem sI_(n:Xq):ca_ n=some (decide (n.Xv>=2147483648)):=rfl
theorem add_kids{l:List (Xq×Xp)}{n:Xq}{r:Xp}(h:l.length<=1073741824):aK_ (l.map e7_) (fun(u1:Xr)=>Option.bind (cq_ u1 (Xr.mk n r)) fun(v1:Bool)=>some v1)=some (!(l.all λ q=>q.1.Xw==n.Id_)):=by
 unfold aK_;generalize hp:(fun(u:Xr)=>u.Ym.Xw != n.Id_)=p;refine aa_ (a:=at_ p (l.map e7_)) ?_ ?_
 .unfold bZ_;have h:=aU_ (body:=bh_ (l.map e7_) (fun(u1:Xr)=>Option.bind (cq_ u1 (Xr.mk n r)) fun(v1:Bool)=>some v1)) (l.map e7_) (λ i x=>if p x then some ((i:Nat):Int)else none) (bQ_ (by simp;omega)) (λ i hi => ?_) ?_
  .rw[bl_ h (λ r=>rfl) (x := -1) rfl,i3_]
  .unfold bh_;refine ah_ (br_ hi) (aa_ (as_ hi) (aa_ (a:=p (l.map e7_)[i]) (by rw[←hp];rfl) ?_));cases p (l.map e7_)[i]with
   | true=>rfl
   | false =>
    rw[au_ (by simp at hi;omega)];rfl
  .unfold bh_;exact ac_ (bA_ _) rfl
 .congr 1
  rcases kg_ p (l.map e7_)with⟨h1,h2⟩|⟨i,x,h1,h2,h3,h4,_⟩
  .rw[h2];have:l.all (λ q=>q.1.Xw==n.Id_)=true:=by
    rw[List.all_eq_true];intro q hq;have:=List.find?_eq_none.1 h1 (e7_ q) (List.mem_map.2 ⟨q,hq,rfl⟩);rw[←hp]at this;simpa[e7_]using this
   rw[this];rfl
  .rw[h2];have:l.all (λ q=>q.1.Xw==n.Id_)=false:=by
    rw[←Bool.not_eq_true,List.all_eq_true];intro hall;obtain⟨q,hq,rfl⟩:=List.mem_map.1 (List.mem_of_getElem? h3);have:=hall q hq;rw[←hp]at h4;simp only[e7_,bne_iff_ne,ne_eq,beq_iff_eq]at h4 this;exact h4 this
   rw[this];simp
theorem qV_(n:Xq){R:Type}(k:Int->Option R):(Option.bind ((ca_ n).bind λ y1=>bif y1 then some 3 else some 1) k)=k (aO_ n):=by
 rw[sI_];unfold aO_;by_cases h:n.Xv>=2147483648
 .simp[h]
 .simp[h]
theorem qW_{α:Type}{l:List α}{i:Nat}{x:α}{ys:List α}(h:l.drop i=x::ys):l[i]? = some x/\l.drop (i+1)=ys/\i<l.length:=by
 have hi:i<l.length:=by
  rcases Nat.lt_or_ge i l.length with h'|h'
  .exact h'
  .rw[List.drop_of_length_le h']at h;cases h
 rw[List.drop_eq_getElem_cons hi]at h;injection h with h1 h2;exact⟨by rw[List.getElem?_eq_getElem hi,h1],h2,hi⟩
theorem qX_(s:Str):∀(f a:Nat) {l:List (Xq×Xp)},gD_ s f a=some l->l.length<=f
 | 0,a,l,h=>by cases h
 | f+1,a,l,h=>by
  unfold gD_ at h;split at h
  .obtain⟨q,_,h⟩:=qOb.1 h;obtain⟨l',h1,rfl⟩:=Option.map_eq_some_iff.1 h;have:=qX_ s f _ h1;simp;omega
  .obtain rfl:=qSj h;simp
theorem add_P {s:Xj} (hs:StOK s):∀(f m:Nat) {ns:List Xq} {seen:List Str} {most:Int} {n:Xq} {r:Xp},f<=m->(most-(ns.length:Int)).toNat<f->most<=1024->seen.length<=1057*ns.length+2 ->
  ∃e b rd,aS_ m (Xe.mk ns most) (Xg.mk s seen) (Xr.mk n r)=some (e,b,rd)/\e=(bi_ s f n r (most-(ns.length:Int))).2.2/\(e=0->b=Xe.mk (ns++(bi_ s f n r (most-(ns.length:Int))).1) most/\rd=Xg.mk s (seen++(bi_ s f n r (most-(ns.length:Int))).2.1))
 | 0,_,ns,seen,most,n,r,_,hf,_,_=>by omega
 | f + 1, m,ns,seen,most,n,r,hm,hf,hmost,hseen=>by
  obtain⟨m,rfl⟩:∃m',m=m'+1:=⟨m-1,by omega⟩;show ∃e b rd,bp_ (aS_ m) _ _ _=some (e,b,rd)/\_;unfold bi_;by_cases hl:most-(ns.length:Int)<1
  .rw[if_pos hl];refine⟨2,Xe.mk ns most,Xg.mk s seen,?_,rfl,λ e=>by cases e⟩;unfold bp_;exact ah_ (by simp only[qDe];omega) rfl
  .rw [if_neg hl];obtain⟨hb1,hb2⟩:=kX_ hs (aO_ n) r;have hcond:∀{R:Type} (X Y:R),(bif(decide ((ns.length:Int)>=most))then X else Y)=Y:=λ X Y=>by
    have:decide ((ns.length:Int)>=most)=false:=by simp only[qDf];omega
    rw[this];rfl
   have hcon:=contents_eq hs (aO_ n) r (seen:=seen) (by omega);by_cases hc:(aB_ s (aO_ n) r).2.2=0
   .rw [if_pos hc];by_cases hd:n.Xv>=2147483648
    .rw [if_pos hd];have hdir:ca_ n=some true:=by rw[sI_];simp[hd]
     -- the entries
     obtain⟨o,o1,o2⟩:=P_entries (s:=(aB_ s (aO_ n) r).1) (by omega) ((aB_ s (aO_ n) r).1.length+1) 0 [] (d:=Yy.mk (aB_ s (aO_ n) r).1 0 false) ⟨rfl,rfl,0,rfl,Nat.zero_le _,λ b hb=>qSj hb⟩ (Nat.zero_le _) (by omega) (by simp);have hents:gw_ (aB_ s (aO_ n) r).1=some (o.2,!o.1.Zv):=by
      unfold gw_;exact aa_ (hA_ o1 (Nat.le_of_lt (bQ_ (by omega)))) rfl
     have hroom:room 128 ns [n]=some (ns++[n]):=cx_ (by simp;omega) (by simp;omega);have hpre:∀{R:Option (Int×Xe×Xg)},(Option.bind (bif(!(!o.1.Zv))then some true else(aK_ o.2 (fun(u1:Xr)=>Option.bind (cq_ u1 (Xr.mk n r)) fun(v1:Bool)=>some v1)).bind λ y7=>some y7) fun(y8:Bool)=>bif y8 then some ((2,(Xe.mk (ns++[n]) most),Xg.mk s (seen++(aB_ s (aO_ n) r).2.1)))else(ak_ (bO_ (o.2,!o.1.Zv) (aS_ m)) BIG (0,most,s.Ya,s.Xd,seen++(aB_ s (aO_ n) r).2.1,ns++[n],o.2)).bind λ wo2=>match wo2 with
       | .ret r2=>some r2
       | .fall o2=>some ((0,(Xe.mk o2.2.2.2.2 o2.1),(Xg.mk (Xj.mk o2.2.1 o2.2.2.1) o2.2.2.2.1))))=R->bp_ (aS_ m) (Xe.mk ns most) (Xg.mk s seen) (Xr.mk n r)=R:=λ hR=>by
      unfold bp_;simp only[hcond,qV_];refine aa_ hcon (ac_ (by simp[hc]) (aa_ hdir (ac_ rfl (aa_ hroom (aa_ hents hR)))))
     cases hE:gD_ (aB_ s (aO_ n) r).1 ((aB_ s (aO_ n) r).1.length+1) 0 with
     | none =>
      rw[hE]at o2;have hk:gE_ (aB_ s (aO_ n) r).1 n.Id_ ((aB_ s (aO_ n) r).1.length+1) 0=none:=by unfold gE_;rw[hE];rfl
      rw[hk];exact⟨_,_,_,hpre (aa_ (a:=true) (ah_ (by rw[o2];rfl) rfl) (ah_ rfl rfl)),rfl,λ e=>by cases e⟩
     | some l =>
      rw[hE]at o2;obtain⟨o3,o4⟩:=o2;rw[List.nil_append]at o4;have hll:=qX_ _ _ _ hE;have hkids:=add_kids (l:=l) (n:=n) (r:=r) (by omega);cases hall:l.all (λ q=>q.1.Xw==n.Id_)with
      | false =>
       have hk:gE_ (aB_ s (aO_ n) r).1 n.Id_ ((aB_ s (aO_ n) r).1.length+1) 0=none:=by unfold gE_;rw[hE];simp[hall]
       rw[hk];rw[hall]at hkids;refine⟨_,_,_,hpre (aa_ (a:=true) (ac_ (by rw[o3];rfl) ?_) (ah_ rfl rfl)),rfl,λ e=>by cases e⟩;rw[o4];exact aa_ hkids rfl
      | true =>
       have hk:gE_ (aB_ s (aO_ n) r).1 n.Id_ ((aB_ s (aO_ n) r).1.length+1) 0=some l:=by unfold gE_;rw[hE];simp[hall]
       rw[hk];rw[hall]at hkids;have hloop:∀(ys:List (Xq×Xp)) (i:Nat) (acc:List Xq×List Str),l.drop i=ys->i<=l.length->1<=acc.1.length->(acc.1.length:Int)<=most-(ns.length:Int)->acc.2.length<=1057*acc.1.length ->
         ∃w,ak_ (bO_ (l.map e7_,true) (aS_ m)) (ys.length+1) ((i:Int),most,s.Ya,s.Xd,seen++acc.2,ns++acc.1,l.map e7_)=some w/\(match bD_ (fG (bi_ s f) (most-(ns.length:Int))) acc ys with
          | .inl a=>w = .fall (most,s.Ya,s.Xd,seen++a.2,ns++a.1)
          | .inr e=>e.2.2≠0/\∃b rd,w = .ret (e.2.2,b,rd)):=by
        intro ys
        induction ys with
        | nil =>
         intro i acc hdr hi _ _ _;have:i=l.length:=by
          have:=congrArg List.length hdr;simp at this;omega
         subst this;refine⟨.fall (most,s.Ya,s.Xd,seen++acc.2,ns++acc.1),aZ_ ?_,by simp[bD_]⟩;unfold bO_;exact ac_ (by simp) rfl
        | cons q ys ih =>
         intro i acc hdr hi a1 a2 a3;obtain⟨g1,g2,g3⟩:=qW_ hdr;obtain⟨e,b,rd,k1,k2,k3⟩:=add_P hs f m (ns:=ns++acc.1) (seen:=seen++acc.2) (most:=most) (n:=q.1) (r:=q.2) (by omega) (by simp;omega) hmost (by simp;omega);have hleft:most-((ns++acc.1).length:Int)=most-(ns.length:Int)-(acc.1.length:Int):=by simp;omega
         rw[hleft]at k2 k3;have hget:al_ (l.map e7_) (i:Int)=some (Xr.mk q.1 q.2):=by rw[bk_,List.getElem?_map,g1];rfl
         simp only[bD_];unfold fG;by_cases h0:(bi_ s f q.1 q.2 (most-(ns.length:Int)-(acc.1.length:Int))).2.2=0
         .rw[if_pos h0];obtain⟨k4,k5⟩:=k3 (k2.trans h0);obtain⟨c1,c2,c3⟩:=ma_ hs f h0;obtain⟨w,w1,w2⟩:=ih (i+1) (acc.1++(bi_ s f q.1 q.2 (most-(ns.length:Int)-(acc.1.length:Int))).1,acc.2++(bi_ s f q.1 q.2 (most-(ns.length:Int)-(acc.1.length:Int))).2.1) g2 (by omega) (by simp;omega) (by simp;omega) (by simp;omega);refine⟨w,bL_ ?_ w1,w2⟩;unfold bO_;refine ah_ (by simp;omega) (aa_ hget (aa_ k1 (ac_ (by rw[k2,h0];rfl) ?_)));rw[k4,k5,au_ (by omega),List.append_assoc,List.append_assoc]
         .rw[if_neg h0];refine⟨.ret (e,b,rd),aZ_ ?_,h0,b,rd,by rw[k2]⟩;unfold bO_;exact ah_ (by simp;omega) (aa_ hget (aa_ k1 (ah_ (by rw[k2];simpa using h0) rfl)))
       obtain⟨w,w1,w2⟩:=hloop l 0 ([n],(aB_ s (aO_ n) r).2.1) (by simp) (Nat.zero_le _) (by simp) (by simp;omega) (by simp;omega);have w1':=hA_ w1 (show l.length+1<=BIG from Nat.le_of_lt (bQ_ (by omega)));have hgo:∀{R},((some w:Option (Out (Int×Int×List Yk×List Str×List Xq) (Int×Xe×Xg))).bind λ wo2=>match wo2 with
         | .ret r2=>some r2
         | .fall o2=>some ((0,(Xe.mk o2.2.2.2.2 o2.1),(Xg.mk (Xj.mk o2.2.1 o2.2.2.1) o2.2.2.2.1))))=R->bp_ (aS_ m) (Xe.mk ns most) (Xg.mk s seen) (Xr.mk n r)=R:=λ hR=>by
        refine hpre (aa_ (a:=false) (ac_ (by rw[o3];rfl) ?_) (ac_ rfl ?_))
        .rw[o4];exact aa_ hkids rfl
        .rw[o4,o3];have w1'':ak_ (bO_ (l.map e7_,!false) (aS_ m)) BIG (0,most,s.Ya,s.Xd,seen++(aB_ s (aO_ n) r).2.1,ns++[n],l.map e7_)=some w:=w1';rw[w1''];exact hR
       cases hr:bD_ (fG (bi_ s f) (most-(ns.length:Int))) ([n],(aB_ s (aO_ n) r).2.1) l with
       | inl a =>
        rw[hr]at w2;subst w2;simp only[hr,outS];exact⟨_,_,_,hgo rfl,rfl,λ _=>⟨rfl,rfl⟩⟩
       | inr e =>
        rw[hr]at w2;obtain⟨h0,b,rd,rfl⟩:=w2;simp only[hr,outS];exact⟨_,_,_,hgo rfl,rfl,λ e0=>absurd e0 h0⟩
    .rw[if_neg hd];have hdir:ca_ n=some false:=by rw[sI_];simp[hd]
     refine⟨0,Xe.mk (ns++[ro_ n (aB_ s (aO_ n) r).1]) most,Xg.mk s (seen++(aB_ s (aO_ n) r).2.1),?_,rfl,λ _=>⟨rfl,rfl⟩⟩;unfold bp_;simp only[hcond,qV_];exact aa_ hcon (ac_ (by simp[hc]) (aa_ hdir (ah_ rfl (aa_ (cx_ (by simp;omega) (by simp;omega)) rfl))))
   .rw[if_neg hc];refine⟨(aB_ s (aO_ n) r).2.2,Xe.mk ns most,Xg.mk s (seen++(aB_ s (aO_ n) r).2.1),?_,rfl,λ e=>absurd e hc⟩;unfold bp_;simp only[hcond,qV_];exact aa_ hcon (ah_ (by simpa using hc) rfl)
theorem get_R {s:Xj} (hs:StOK s):∀(f m:Nat) {n:Xq} {r:Xp} {left:Int},f<=m->left.toNat<f->left<=1024 ->
  ∃q,cH_ m s n r left=some q/\q.2=(bi_ s f n r left).2.2/\(q.2=0->q.1=(bi_ s f n r left).1)
 | 0,_,n,r,left,_,hf,_=>by omega
 | f + 1, m,n,r,left,hm,hf,hmost=>by
  obtain⟨m,rfl⟩:∃m',m=m'+1:=⟨m-1,by omega⟩;show ∃q,c6_ (cH_ m) s n r left=some q/\_;unfold bi_;by_cases hl:left<1
  .rw[if_pos hl];refine⟨([],2),?_,rfl,λ e=>by cases e⟩;unfold c6_;exact aa_ (a:=true) (ah_ (by simpa using hl) rfl) (ah_ rfl rfl)
  .rw [if_neg hl];obtain⟨hb1,hb2⟩:=kX_ hs (aO_ n) r;cases hok:f8_ r with
   | false =>
    have hfr:aB_ s (aO_ n) r=([],[],2):=by unfold aB_;rw[hok];rfl
    rw[hfr];refine⟨([],2),?_,rfl,λ e=>by cases e⟩;unfold c6_;exact aa_ (a:=true) (ac_ (by simpa using hl) (aa_ (m0_ r) (by rw[hok];rfl))) (ah_ rfl rfl)
   | true =>
    have hpre:∀{R},((ce_ n.Xv).bind λ y3=>(bif(!y3)then(do_ s 1 r).bind λ y4=>some (([ro_ n y4.1],y4.2))else(do_ s 3 r).bind λ y5=>(bif(y5.2 != 0)then some (([],y5.2))else Option.bind (ak_ (cp_ y5 n) BIG ([],[],(Yc.mk y5.1 0 false))) fun(wo1:Out ((List Xq)×(List Xp)) ((List Xq)×Int))=>match wo1 with
      | .ret r1=>some r1
      | .fall o1=>(ak_ (dp_ (cH_ m) s left) BIG (0,o1.1,o1.2,[n])).bind λ wo2=>match wo2 with
       | .ret r2=>some r2
       | .fall o2=>some ((o2,0)))))=R->c6_ (cH_ m) s n r left=R:=λ hR=>by
     unfold c6_;exact aa_ (a:=false) (ac_ (by simpa using hl) (aa_ (m0_ r) (by rw[hok];rfl))) (ac_ rfl hR)
    by_cases hd:n.Xv>=2147483648
    .have hk:aO_ n=3:=if_pos hd;have hdir:ce_ n.Xv=some true:=by unfold ce_;simp[hd]
     rw[hk]at hb1 hb2 ⊢;have hcon:=nu_ hs (k:=3) (by omega) r;by_cases hc:(aB_ s 3 r).2.2=0
     .rw [if_pos hc,if_pos hd];have hen:=hA_ (R_entries (s:=(aB_ s 3 r).1) (by omega) n (aB_ s 3 r).2.2 ((aB_ s 3 r).1.length+1) 0 [] [] (d:=Yc.mk (aB_ s 3 r).1 0 false) ⟨rfl,rfl,0,rfl,Nat.zero_le _,λ b hb=>qSj hb⟩ (Nat.zero_le _) (by omega) (by simp) (by simp)) (show(aB_ s 3 r).1.length+1<=BIG from Nat.le_of_lt (bQ_ (by omega)));cases hkd:gE_ (aB_ s 3 r).1 n.Id_ ((aB_ s 3 r).1.length+1) 0 with
      | none =>
       rw[hkd]at hen;exact⟨([],2),hpre (aa_ hdir (ac_ rfl (aa_ hcon (ac_ (by simp[hc]) (aa_ hen rfl))))),rfl,λ e=>by cases e⟩
      | some l =>
       rw[hkd]at hen;have hll:l.length<=(aB_ s 3 r).1.length+1:=by
        unfold gE_ at hkd;obtain⟨l',h1,h2⟩:=qOb.1 hkd;split at h2
        .obtain rfl:=qSj h2;exact qX_ _ _ _ h1
        .cases h2
       have hloop:∀(ys:List (Xq×Xp)) (i:Nat) (acc:List Xq×List Str),l.drop i=ys->i<=l.length->1<=acc.1.length->(acc.1.length:Int)<=left ->
         ∃w,ak_ (dp_ (cH_ m) s left) (ys.length+1) ((i:Int),l.map (·.1),l.map (·.2),acc.1)=some w/\(match bD_ (fG (bi_ s f) left) acc ys with
          | .inl a=>w = .fall a.1
          | .inr e=>e.2.2≠0/\w = .ret ([],e.2.2)):=by
        intro ys
        induction ys with
        | nil =>
         intro i acc hdr hi _ _;have:i=l.length:=by
          have:=congrArg List.length hdr;simp at this;omega
         subst this;refine⟨.fall acc.1,aZ_ ?_,by simp[bD_]⟩;unfold dp_;exact ac_ (by simp) rfl
        | cons q ys ih =>
         intro i acc hdr hi a1 a2;obtain⟨g1,g2,g3⟩:=qW_ hdr;have hleft:w64 (left-(acc.1.length:Int))=left-(acc.1.length:Int):=ap_ ⟨by omega,by omega⟩;obtain⟨p,k1,k2,k3⟩:=get_R hs f m (n:=q.1) (r:=q.2) (left:=left-(acc.1.length:Int)) (by omega) (by omega) (by omega);have hget1:al_ (l.map (·.1)) (i:Int)=some q.1:=by rw[bk_,List.getElem?_map,g1];rfl
         have hget2:al_ (l.map (·.2)) (i:Int)=some q.2:=by rw[bk_,List.getElem?_map,g1];rfl
         simp only[bD_];unfold fG;by_cases h0:(bi_ s f q.1 q.2 (left-(acc.1.length:Int))).2.2=0
         .rw[if_pos h0];have k4:=k3 (k2.trans h0);obtain⟨c1,c2,c3⟩:=ma_ hs f h0;obtain⟨w,w1,w2⟩:=ih (i+1) (acc.1++(bi_ s f q.1 q.2 (left-(acc.1.length:Int))).1,acc.2++(bi_ s f q.1 q.2 (left-(acc.1.length:Int))).2.1) g2 (by omega) (by simp;omega) (by simp;omega);refine⟨w,bL_ ?_ w1,w2⟩;unfold dp_;refine ah_ (by simp;omega) (aa_ hget1 (aa_ hget2 (aa_ (by rw[hleft];exact k1) (ac_ (by rw[k2,h0];rfl) (aa_ (a:=acc.1++(bi_ s f q.1 q.2 (left-(acc.1.length:Int))).1) (by rw[k4];exact cx_ (show acc.1.length+_<=_ by omega) (show(acc.1.length+_)*128<=_ by omega)) ?_)))));rw[au_ (by omega)]
         .rw[if_neg h0];refine⟨.ret ([],p.2),aZ_ ?_,h0,by rw[k2]⟩;unfold dp_;exact ah_ (by simp;omega) (aa_ hget1 (aa_ hget2 (aa_ (by rw[hleft];exact k1) (ah_ (by rw[k2];simpa using h0) rfl))))
       obtain⟨w,w1,w2⟩:=hloop l 0 ([n],(aB_ s 3 r).2.1) (by simp) (Nat.zero_le _) (by simp) (by simp;omega);have w1':=hA_ w1 (show l.length+1<=BIG from Nat.le_of_lt (bQ_ (by omega)));cases hr:bD_ (fG (bi_ s f) left) ([n],(aB_ s 3 r).2.1) l with
       | inl a =>
        rw[hr]at w2;subst w2;simp only[hr,outS];exact⟨(a.1,0),hpre (aa_ hdir (ac_ rfl (aa_ hcon (ac_ (by simp[hc]) (aa_ hen (aa_ w1' rfl)))))),rfl,λ _=>rfl⟩
       | inr e =>
        rw[hr]at w2;obtain⟨h0,rfl⟩:=w2;simp only[hr,outS];exact⟨([],e.2.2),hpre (aa_ hdir (ac_ rfl (aa_ hcon (ac_ (by simp[hc]) (aa_ hen (aa_ w1' rfl)))))),rfl,λ e0=>absurd e0 h0⟩
     .rw[if_neg hc];exact⟨([],(aB_ s 3 r).2.2),hpre (aa_ hdir (ac_ rfl (aa_ hcon (ah_ (by simpa using hc) rfl)))),rfl,λ e=>absurd e hc⟩
    .have hk:aO_ n=1:=if_neg hd;have hdir:ce_ n.Xv=some false:=by unfold ce_;simp[hd]
     rw[hk];have hcon:=nu_ hs (k:=1) (by omega) r;refine⟨([ro_ n (aB_ s 1 r).1],(aB_ s 1 r).2.2),hpre (aa_ hdir (ah_ rfl (aa_ hcon rfl))),?_,λ e => ?_⟩
     .split
      .rename_i hc;exact hc
      .rfl
     .have hc:(aB_ s 1 r).2.2=0:=e;rw[if_pos hc,if_neg hd]
def leN(x:Xq):List Xq->Nat | []=>0|y::l=>if y.Id_<=x.Id_ then leN x l+1 else 0
theorem leN_le(x:Xq):∀l,leN x l<=l.length
 | []=>Nat.le_refl _
 | y::l=>by
  unfold leN;have:=leN_le x l;split<;>simp<;>omega
theorem leN_lt(x:Xq):∀{l:List Xq} {i:Nat} (h:i<l.length),i<leN x l->l[i].Id_<=x.Id_
 | y::l,0,_,hi=>by
  unfold leN at hi;split at hi
  .assumption
  .omega
 | y::l,i+1,h,hi=>by
  unfold leN at hi;split at hi
  .exact leN_lt x (l:=l) (i:=i) (by simpa using h) (by omega)
  .omega
theorem leN_at(x:Xq):∀{l:List Xq} (h:leN x l<l.length),¬l[leN x l].Id_<=x.Id_
 | y::l,h=>by
  by_cases hy:y.Id_<=x.Id_
  .have e:leN x (y::l)=leN x l+1:=by simp[leN,hy]
   simp only[e]at h ⊢;exact leN_at x (l:=l) (by simpa using h)
  .have e:leN x (y::l)=0:=by simp[leN,hy]
   simp only[e];exact hy
def insA(out:List Xq)(x:Xq):List Xq:=out.take (leN x out)++[x]++out.drop (leN x out)
theorem insA_len(out:List Xq)(x:Xq):(insA out x).length=out.length+1:=by
 have:=leN_le x out;unfold insA;simp;omega
theorem insA_perm(out:List Xq)(x:Xq):(insA out x).Perm (x::out):=by
 unfold insA;rw[List.append_assoc];have h:=List.perm_middle (a:=x) (l₁ := out.take (leN x out)) (l₂ := out.drop (leN x out));rw[List.take_append_drop]at h;exact h
theorem insA_sorted{out:List Xq}(x:Xq)(h:out.Pairwise λ a b=>leK (λ n:Xq=>n.Id_) a b=true):(insA out x).Pairwise λ a b=>leK (λ n:Xq=>n.Id_) a b=true:=by
 have hle:=leN_le x out;unfold insA;have hget:=List.pairwise_iff_getElem.1 h;rw[List.append_assoc];refine List.pairwise_append.2 ⟨h.sublist (List.take_sublist _ _),List.pairwise_append.2 ⟨by simp,h.sublist (List.drop_sublist _ _),λ a ha b hb => ?_⟩,λ a ha b hb => ?_⟩
 .rw[List.mem_singleton]at ha;subst ha;obtain⟨j,hj,e⟩:=List.getElem_of_mem hb;rw[List.length_drop]at hj;rw[List.getElem_drop]at e;have h1:=leN_at a (l:=out) (by omega);unfold leK;simp only[qDe];rw[←e];rcases Nat.eq_zero_or_pos j with h0|h0
  .subst h0;simp only[Nat.add_zero];omega
  .have:=hget (leN a out) (leN a out+j) (by omega) (by omega) (by omega);unfold leK at this;simp only[qDe]at this;omega
 .obtain⟨i,hi,e⟩:=List.getElem_of_mem ha;rw[List.length_take]at hi;rw[List.getElem_take]at e;have h1:=leN_lt x (l:=out) (i:=i) (by omega) (by omega);rcases List.mem_append.1 hb with hb|hb
  .rw[List.mem_singleton]at hb;subst hb;unfold leK;simp only[qDe];rw[←e];exact h1
  .obtain⟨j,hj,e2⟩:=List.getElem_of_mem hb;rw[List.length_drop]at hj;rw[List.getElem_drop]at e2;rw[←e,←e2];exact hget i (leN x out+j) (by omega) (by omega) (by omega)
theorem sorted_step{out l:List Xq}{i:Nat}(hi:i<l.length)(ho:out.length<=1000000):ak_ (gt_ (out,(i:Int)) l) BIG 0=some ((leN l[i] out:Nat):Int):=by
 have hle:=leN_le l[i] out;refine bd_ (T:=λ j=>(j:Int)) (leN l[i] out) (bQ_ (by omega)) (λ j hj => ?_) ?_
 .have hj':j<out.length:=by omega
  unfold gt_;refine aa_ (a:=true) (ah_ (br_ hj') (aa_ (as_ hj') (aa_ (as_ hi) ?_))) (ah_ rfl (by rw[au_ (by omega)]));exact congrArg some (decide_eq_true (leN_lt l[i] hj' hj))
 .unfold gt_;refine aa_ (a:=false) ?_ rfl;by_cases h:leN l[i] out<out.length
  .refine ah_ (br_ h) (aa_ (as_ h) (aa_ (as_ hi) ?_));exact congrArg some (decide_eq_false (leN_at l[i] h))
  .have:leN l[i] out=out.length:=by omega
   rw[this];exact ac_ (bA_ _) rfl
theorem pL_{l:List Xq}(hl:l.length<=100000):∃y,jl_ l=some y/\y.Perm l/\y.Pairwise λ a b=>leK (λ n:Xq=>n.Id_) a b=true:=by
 have h:=jt_ (body:=gu_ l) l (λ out _ x=>insA out x) (λ i s=>(s,(i:Int))) (λ i s=>s.length=i) (λ s=>s) [] (bQ_ (by omega)) rfl (λ i s hi hs => ?_) (λ s hs => ?_)
 .refine⟨_,aa_ h rfl,?_⟩;have hp:∀(xs acc:List Xq) (k:Nat),(acc.Pairwise λ a b=>leK (λ n:Xq=>n.Id_) a b=true)->(fi_ (λ out _ x=>insA out x) acc k xs).Perm (xs++acc)/\(fi_ (λ out _ x=>insA out x) acc k xs).Pairwise λ a b=>leK (λ n:Xq=>n.Id_) a b=true:=λ xs=>by
   induction xs with
   | nil=>exact λ acc k ha=>⟨List.Perm.refl _,ha⟩
   | cons x xs ih =>
    intro acc k ha;obtain⟨i1,i2⟩:=ih (insA acc x) (k+1) (insA_sorted x ha);refine⟨i1.trans ?_,i2⟩;refine((insA_perm acc x).append_left xs).trans ?_;exact List.perm_middle
  obtain⟨p1,p2⟩:=hp l [] 0 List.Pairwise.nil;rw[List.append_nil]at p1;exact⟨p1,p2⟩
 .have hle:=leN_le l[i] s;refine⟨?_,by rw[insA_len,hs]⟩;unfold gu_;refine ah_ (br_ hi) (aa_ (sorted_step (out:=s) hi (by omega)) (aa_ (a:=s.take (leN l[i] s)) ?_ (aa_ (a:=s.take (leN l[i] s)) ?_ (aa_ (as_ hi) (aa_ (a:=s.take (leN l[i] s)++[l[i]]) ?_ (aa_ (a:=s.drop (leN l[i] s)) ?_ (aa_ (a:=insA s l[i]) ?_ (by rw[au_ (by omega)]))))))))
  .show bz_ s 0 ((leN l[i] s:Nat):Int)=_;rw[cf_ (by omega) (by omega) (by omega),qTn];rfl
  .rw[cx_ (by simp;omega) (by simp;omega)];rfl
  .rw[cx_ (by simp;omega) (by simp;omega)]
  .show bz_ s ((leN l[i] s:Nat):Int) (s.length:Int)=_;rw[cf_ (by omega) (by omega) (by omega),qTn,qTn,List.take_length]
  .rw[cx_ (by simp;omega) (by simp;omega)];rfl
 .unfold gu_;exact ac_ (bA_ _) rfl
theorem sorts_agree{l y z:List Xq}(hy:dJ_ (λ n:Xq=>n.Id_) l=some y)(hz:jl_ l=some z)(hl:l.length<=100000)(hn:(l.map (·.Id_)).Nodup):y=z:=by
 obtain⟨p1,p2⟩:=kR_ hy;obtain⟨z',h1,q1,q2⟩:=pL_ hl;rw[hz]at h1;obtain rfl:=qSj h1;refine hw_ (p1.trans q1.symm) p2 q2 λ a ha b hb h3 h4 => ?_
 refine key_inj hn a (p1.subset ha) b (p1.subset hb) ?_;unfold leK at h3 h4;simp only[qDe]at h3 h4;omega
def headD(d:Str):Option (Int×Int×Xq×Xp×Nat):=(nD d 4 0).bind λ q1=>(nD d 4 q1.2).bind λ q2=>(entD d q2.2).map λ q3=>(q1.1,q2.1,q3.1,q3.2.1,q3.2.2)
theorem P_head{d:Str}(hd:d.length<=1024):∃v1 d1 v2 d2 x d3,aw_ (Yy.mk d 0 false) 4=some (v1,d1)/\aw_ d1 4=some (v2,d2)/\cl_ d2=some (x,d3)/\(match headD d with
  | none=>d3.Zv=true
  | some q=>d3.Zv=false/\d3.at_=(q.2.2.2.2:Int)/\v1=q.1/\v2=q.2.1/\x=Xr.mk q.2.2.1 q.2.2.2.1):=by
 have h0:DS d (some 0) (Yy.mk d 0 false):=⟨rfl,rfl,0,rfl,Nat.zero_le _,λ b hb=>qSj hb⟩;obtain⟨v1,d1,a1,b1,c1⟩:=kW_ (by omega) h0 (w:=4) (by omega) (by omega);obtain⟨v2,d2,a2,b2,c2⟩:=kW_ (by omega) b1 (w:=4) (by omega) (by omega);obtain⟨x,d3,a3,b3,c3⟩:=d_entry (by omega) b2;refine⟨v1,d1,v2,d2,x,d3,a1,a2,a3,?_⟩;unfold headD;cases p1:nD d 4 0 with
 | none =>
  simp only[qBs,p1,Option.map_none,Option.bind_none]at b3;exact b3.2.1
 | some q1 =>
  simp only[qBs,p1,Option.map_some]at b3 c2 c3 ⊢;cases p2:nD d 4 q1.2 with
  | none =>
   simp only[p2,Option.map_none,Option.bind_none]at b3;exact b3.2.1
  | some q2 =>
   simp only[qBs,p2,Option.map_some]at b3 c3 ⊢;cases p3:entD d q2.2 with
   | none =>
    simp only[p3,Option.map_none]at b3;exact b3.2.1
   | some q3 =>
    simp only[p3,Option.map_some]at b3 ⊢;obtain⟨_,e2,a,e3,_,e5⟩:=b3;exact⟨e2,by rw[e3,e5 _ rfl],c1 0 q1 rfl p1,c2 q1.2 q2 rfl p2,c3 q2.2 q3 rfl p3⟩
theorem R_head{d:Str}(hd:d.length<=1024):∃v1 d1 v2 d2 n r d3,aC_ (Yc.mk d 0 false) 4=some (v1,d1)/\aC_ d1 4=some (v2,d2)/\et_ d2=some (n,r,d3)/\(match headD d with
  | none=>d3.Zg=true
  | some q=>d3.Zg=false/\d3.At_=(q.2.2.2.2:Int)/\v1=q.1/\v2=q.2.1/\n=q.2.2.1/\r=q.2.2.2.1):=by
 have h0:RS d (some 0) (Yc.mk d 0 false):=⟨rfl,rfl,0,rfl,Nat.zero_le _,λ b hb=>qSj hb⟩;obtain⟨v1,d1,a1,b1,c1⟩:=jQ_ (by omega) h0 (w:=4) (by omega) (by omega);obtain⟨v2,d2,a2,b2,c2⟩:=jQ_ (by omega) b1 (w:=4) (by omega) (by omega);obtain⟨n,r,d3,a3,b3,c3⟩:=r_entry (by omega) b2;refine⟨v1,d1,v2,d2,n,r,d3,a1,a2,a3,?_⟩;unfold headD;cases p1:nD d 4 0 with
 | none =>
  simp only[qBs,p1,Option.map_none,Option.bind_none]at b3;exact b3.2.1
 | some q1 =>
  simp only[qBs,p1,Option.map_some]at b3 c2 c3 ⊢;cases p2:nD d 4 q1.2 with
  | none =>
   simp only[p2,Option.map_none,Option.bind_none]at b3;exact b3.2.1
  | some q2 =>
   simp only[qBs,p2,Option.map_some]at b3 c3 ⊢;cases p3:entD d q2.2 with
   | none =>
    simp only[p3,Option.map_none]at b3;exact b3.2.1
   | some q3 =>
    simp only[p3,Option.map_some]at b3 ⊢;obtain⟨_,e2,a,e3,_,e5⟩:=b3;obtain⟨f1,f2⟩:=c3 q2.2 q3 rfl p3;exact⟨e2,by rw[e3,e5 _ rfl],c1 0 q1 rfl p1,c2 q1.2 q2 rfl p2,f1,f2⟩
theorem entsF_all(s:Str):∀(f a:Nat) {l:List (Xq×Xp)},a<=s.length->gD_ s f a=some l->∀q∈l,q.1.Xv<=9223372036854775807/\q.1.Xy.length<=s.length
 | 0,a,l,_,h=>by cases h
 | f+1,a,l,ha,h=>by
  unfold gD_ at h;split at h
  .obtain⟨q,hq,h⟩:=qOb.1 h;obtain⟨l',h1,rfl⟩:=Option.map_eq_some_iff.1 h;obtain⟨b1,b2,b3,b4⟩:=rn_ ha hq;intro p hp;rcases List.mem_cons.1 hp with rfl|hp
   .exact⟨b3,b4⟩
   .exact entsF_all s f _ b1 h1 p hp
  .obtain rfl:=qSj h;intro p hp;cases hp
abbrev SmN(n:Xq):Prop:=n.Xv<=9223372036854775807/\n.Xy.length<=9223372036854775807
theorem getN_all {s:Xj} (hs:StOK s):∀(f:Nat) {n:Xq} {r:Xp} {left:Int},SmN n->∀x∈(bi_ s f n r left).1,SmN x
 | 0,n,r,left,_,x,hx=>by cases hx
 | f + 1,n,r,left,hn,x,hx=>by
  obtain⟨hb1,_⟩:=kX_ hs (aO_ n) r;unfold bi_ at hx;split at hx
  .cases hx
  .split at hx
   .split at hx
    .split at hx
     .cases hx
     .rename_i l hk;have hkl:∀q∈l,SmN q.1:=by
       unfold gE_ at hk;obtain⟨l',h1,h2⟩:=qOb.1 hk;split at h2
       .obtain rfl:=qSj h2;intro q hq;have:=entsF_all _ _ _ (Nat.zero_le _) h1 q hq;exact⟨this.1,by omega⟩
       .cases h2
      have hi:=i6_ (f:=fG (bi_ s f) left) (λ _ acc=>∀y∈acc.1,SmN y) (λ e=>e.1=[]) (xs:=l) (k:=0) (s0:=([n],(aB_ s (aO_ n) r).2.1)) (λ y hy=>by rw[List.mem_singleton]at hy;rw[hy];exact hn) λ i acc q hq a1=>by
       unfold fG;refine⟨λ s' he => ?_,λ e he => ?_⟩
       .split at he
        .obtain rfl:=Sum.inl.inj he;intro y hy;rcases List.mem_append.1 hy with hy|hy
         .exact a1 y hy
         .exact getN_all hs f (hkl q hq) y hy
        .cases he
       .split at he
        .cases he
        .obtain rfl:=Sum.inr.inj he;rfl
      cases hr:bD_ (fG (bi_ s f) left) ([n],(aB_ s (aO_ n) r).2.1) l with
      | inl acc =>
       rw[hr]at hx;exact hi.1 acc hr x hx
      | inr e =>
       rw[hr]at hx;have he:=hi.2 e hr;simp only[outS,he]at hx;cases hx
    .rw[List.mem_singleton]at hx;rw[hx];exact hn
   .cases hx
theorem entD_small{s:Str}{a:Nat}{q:Xq×Xp×Nat}(ha:a<=s.length)(hs:s.length<=9223372036854775807)(h:entD s a=some q):SmN q.1:=by
 have:=rn_ ha h;exact⟨this.2.2.1,by omega⟩
theorem tree_both {s:Xj} (hs:StOK s) (sc:Str):∃T E rd,bU_ (Xg.mk s []) sc=some (T,E,rd)/\eG_ s sc=some (T,E)/\T.Xz.length<=1024 /\
  (E=0->OkT T.Xz T.Xt/\∃next many n r a3,(blk s sc 4).2=0/\headD (blk s sc 4).1=some (next,many,n,r,a3)/\many<=1024/\(bi_ s 1025 n r many).2.2=0/\rd=Xg.mk s ([sc]++(bi_ s 1025 n r many).2.1)/\next=T.Xt/\many=(T.Xz.length:Int)/\a3=(blk s sc 4).1.length/\(bi_ s 1025 n r many).1.Perm T.Xz):=by
 have hbl:=me_ hs sc 4;have hrb:=e6_ hs sc 4 (seen:=[]) (by simp);have hrr:=mZ_ hs sc (k:=4) (by omega);unfold bU_ eG_;by_cases h0:(blk s sc 4).2=0
 .rw [if_pos h0]at hrb;obtain⟨v1,d1,v2,d2,x,d3,p1,p2,p3,p4⟩:=P_head hbl;obtain⟨w1,e1,w2,e2,n,r,e3,q1,q2,q3,q4⟩:=R_head hbl;have err:∀{X:Option (Xk×Int×Xg)} {Y:Option (Xk×Int)},((d3.Zv||(d3.at_ != ((blk s sc 4).1.length:Int)))||decide (v2<1)||decide (v2>1024))=true->((e3.Zg||(e3.At_ != ((blk s sc 4).1.length:Int)))||decide (w2<1)||decide (w2>1024))=true ->
    ∃T E rd,(bif((d3.Zv||(d3.at_ != ((blk s sc 4).1.length:Int)))||decide (v2<1)||decide (v2>1024))then some (Xk.mk 0 [],2,Xg.mk s ([]++[sc]))else X)=some (T,E,rd)/\(bif((e3.Zg||(e3.At_ != ((blk s sc 4).1.length:Int)))||decide (w2<1)||decide (w2>1024))then some (Xk.mk 0 [],(2:Int))else Y)=some (T,E)/\T.Xz.length<=1024 /\
     (E=0->OkT T.Xz T.Xt/\∃next many n r a3,(blk s sc 4).2=0/\headD (blk s sc 4).1=some (next,many,n,r,a3)/\many<=1024/\(bi_ s 1025 n r many).2.2=0/\rd=Xg.mk s ([sc]++(bi_ s 1025 n r many).2.1)/\next=T.Xt/\many=(T.Xz.length:Int)/\a3=(blk s sc 4).1.length/\(bi_ s 1025 n r many).1.Perm T.Xz):=λ ha hb =>
   ⟨Xk.mk 0 [],2,Xg.mk s ([]++[sc]),ah_ ha rfl,ah_ hb rfl,by simp,λ e=>by cases e⟩
  have pre:∀{A:Option (Xk×Int×Xg)} {B:Option (Xk×Int)} {A':Option (Xk×Int×Xg)} {B':Option (Xk×Int)} {P:Xk->Int->Xg->Prop},A=A'->B=B'->(∃T E rd,A'=some (T,E,rd)/\B'=some (T,E)/\P T E rd)->∃T E rd,A=some (T,E,rd)/\B=some (T,E)/\P T E rd:=λ ha hb h=>by rw[ha,hb];exact h
  refine pre (aa_ hrb (ac_ rfl (aa_ p1 (aa_ p2 (aa_ p3 rfl))))) (aa_ hrr (ac_ (by simp[h0]) (aa_ q1 (aa_ q2 (aa_ q3 rfl))))) ?_;cases hh:headD (blk s sc 4).1 with
  | none =>
   rw[hh]at p4 q4;exact hh▸err (by simp[p4]) (by simp[q4])
  | some q =>
   obtain⟨next,many,n',r',a3⟩:=q;rw[hh]at p4 q4;obtain⟨p5,p6,rfl,rfl,rfl⟩:=p4;obtain⟨q5,q6,rfl,rfl,rfl,rfl⟩:=q4;simp only at *
   by_cases hc:(a3:Int)≠((blk s sc 4).1.length:Int)\/w2<1\/w2>1024
   .refine pre (ah_ ?_ rfl) (ah_ ?_ rfl) ⟨Xk.mk 0 [],2,_,rfl,rfl,by simp,λ e=>by cases e⟩
    .simp[p5,p6];omega
    .simp[q5,q6];omega
   .refine pre (ac_ ?_ rfl) (ac_ ?_ rfl) ?_
    .simp[p5,p6];omega
    .simp[q5,q6];omega
    .have hsm:SmN n:=by
      unfold headD at hh;obtain⟨z1,y1,hh⟩:=qOb.1 hh;obtain⟨z2,y2,hh⟩:=qOb.1 hh;obtain⟨z3,y3,hh⟩:=Option.map_eq_some_iff.1 hh;simp only[Prod.mk.injEq]at hh;rw[←hh.2.2.1];have b1:=kV_ (Nat.zero_le _) y1;have b2:=kV_ b1.1 y2;exact entD_small b2.1 (by omega) y3
     obtain⟨e,b,rd,k1,k2,k3⟩:=add_P hs 1025 BIG (ns:=[]) (seen:=[]++[sc]) (most:=w2) (n:=n) (r:=r) (by decide) (by simp;omega) (by omega) (by simp);obtain⟨p,g1,g2,g3⟩:=get_R hs 1025 BIG (n:=n) (r:=r) (left:=w2) (by decide) (by omega) (by omega);have hz:w2-(([]:List Xq).length:Int)=w2:=by simp
     rw[hz]at k2 k3;by_cases hg:(bi_ s 1025 n r w2).2.2=0
     .obtain⟨rfl,rfl⟩:=k3 (k2.trans hg);have g4:=g3 (g2.trans hg);obtain⟨c1,c2,c3⟩:=ma_ hs 1025 hg;have hall:=getN_all hs 1025 (r:=r) (left:=w2) hsm;simp only[List.nil_append]at k1;obtain⟨y,hy⟩:∃y,dJ_ (λ n:Xq=>n.Id_) (bi_ s 1025 n r w2).1=some y:=⟨_,by unfold dJ_;rw[if_pos (by omega)]⟩;obtain⟨z,hz1,hz2,hz3⟩:=pL_ (l:=(bi_ s 1025 n r w2).1) (by omega);obtain⟨y1,y2⟩:=kR_ hy;have hyl:=y1.length_eq;have hzl:=hz2.length_eq;refine pre (aa_ k1 (ac_ (by rw[k2,hg];rfl) (aa_ hy rfl))) (aa_ g1 (ac_ (by rw[g2,hg];rfl) (aa_ (by rw[g4];exact hz1) rfl))) ?_;by_cases hlen:((bi_ s 1025 n r w2).1.length:Int)=w2
      .obtain⟨b1,t1,t2⟩:=hr_ (Xk.mk w1 y) (by show y.length<=1024;omega) (λ x hx=>hall x (y1.subset hx));obtain⟨b2,t3,t4⟩:=jw_ (Xk.mk w1 z) (by show z.length<=1024;omega) (λ x hx=>hall x (hz2.subset hx));have hnd:∀{l:List Xq} {nx:Int},OkT l nx->(l.map (·.Id_)).Nodup:=λ h=>by
        rw[List.nodup_iff_pairwise_ne,List.pairwise_map];exact h.srt.imp λ h e=>by omega
       have hyz:(b1=true\/b2=true)->y=z:=λ h=>by
        refine sorts_agree hy hz1 (by omega) ?_;rcases h with h|h
        .exact(y1.map _).nodup_iff.1 (hnd (t2.1 h))
        .exact(hz2.map _).nodup_iff.1 (hnd (t4.1 h))
       have hbb:b1=b2:=by
        cases hb1:b1 with
        | true =>
         have:=hyz (.inl hb1);subst this;exact(t4.2 (t2.1 hb1)).symm
        | false =>
         cases hb2:b2 with
         | false=>rfl
         | true =>
          have:=hyz (.inr hb2);subst this;rw[t2.2 (t4.1 hb2)]at hb1;cases hb1
       subst hbb;refine pre (aa_ (a := !b1) (ac_ (by simp;omega) (aa_ t1 rfl)) rfl) (aa_ (a := !b1) (ac_ (by rw[g4];simp;omega) (aa_ t3 rfl)) rfl) ?_;cases hb:b1 with
       | false=>exact⟨Xk.mk 0 [],2,_,rfl,rfl,by simp,λ e=>by cases e⟩
       | true =>
        have:=hyz (.inl hb);subst this;exact⟨Xk.mk w1 y,0,_,rfl,rfl,by show y.length<=1024;omega,λ _=>⟨t2.1 hb,w1,w2,n,r,a3,h0,rfl,by omega,hg,rfl,rfl,by show w2=(y.length:Int);omega,by omega,y1.symm⟩⟩
      .refine pre (aa_ (a:=true) (ah_ (by simp;omega) rfl) rfl) (aa_ (a:=true) (ah_ (by rw[g4];simp;omega) rfl) rfl) ⟨Xk.mk 0 [],2,_,rfl,rfl,by simp,λ e=>by cases e⟩
     .refine pre (aa_ k1 (ah_ (by rw[k2];simpa using hg) rfl)) (aa_ g1 (ah_ (by rw[g2];simpa using hg) rfl)) ⟨Xk.mk 0 [],(bi_ s 1025 n r w2).2.2,rd,by rw[k2],by rw[g2],by simp,λ e=>absurd e hg⟩
 .rw[if_neg h0]at hrb;exact⟨Xk.mk 0 [],(blk s sc 4).2,Xg.mk s [],aa_ hrb (ah_ (by simp[h0]) rfl),aa_ hrr (ah_ (by simp[h0]) rfl),by simp,λ e=>absurd e h0⟩
structure Small17(s:Xh):Prop where
 ul:s.Xb.Yx.length<=10
 um:∀u∈s.Xb.Yx,u.Yp.length<=10
 ql:s.Xb.Yj.length<=10
 nl:s.Xb.Xm.Xz.length<=12
 el:s.Xb.Xs.length<=20
 bl:s.Yf.Xd.length<=120
 sl:s.Xc.length<=6
theorem py_{α:Type}{body:Int->Option (Step Int (Out Unit Bool))}(xs:List α)(p:α->Bool)(hn:xs.length<BIG)(hb:∀i (h:i<xs.length),body (i:Int)=some (if p xs[i]then .done (.ret false)else .next ((i+1:Nat):Int)))
  (he:body (xs.length:Int)=some (.done (.fall ()))):(ak_ body BIG 0=some (.ret false))\/(ak_ body BIG 0=some (.fall ())/\∀x∈xs,p x=false):=by
 have h:=aU_ xs (fun(_:Nat) x=>if p x then some false else none) hn (λ i hi=>by
  rw[hb i hi];cases p xs[i]<;>rfl) he
 rw[i2_ p (λ _=>false)]at h;cases hf:xs.find? p with
 | some x =>
  rw[hf]at h;exact .inl h
 | none =>
  rw[hf]at h;exact .inr ⟨h,λ x hx=>by
   have:=List.find?_eq_none.1 hf x hx;simpa using this⟩
theorem small_eq(s:Xh):∃b,hX_ s=some b/\(b=true->Small17 s):=by
 unfold hX_;cases hc:(((((decide ((s.Xb.Yx.length:Int)>10))||(decide ((s.Xb.Yj.length:Int)>10)))||(decide ((s.Xb.Xm.Xz.length:Int)>12)))||(decide ((s.Xb.Xs.length:Int)>20)))||(decide ((s.Yf.Xd.length:Int)>120)))||(decide ((s.Xc.length:Int)>6))with
 | true=>exact⟨false,rfl,λ h=>(nomatch h)⟩
 | false =>
  simp only[Bool.or_eq_false_iff,qDf]at hc;have l1:=py_ (body:=g4_ s) s.Xb.Yx (λ u=>decide ((u.Yp.length:Int)>10)) (bQ_ (by omega)) (λ i hi=>by
   unfold g4_;refine ah_ (br_ hi) (aa_ (as_ hi) ?_);rw[au_ (by omega)];cases decide ((s.Xb.Yx[i].Yp.length:Int)>10)<;>rfl) (by unfold g4_;exact ac_ (bA_ _) rfl)
  have l2:=py_ (body:=g5_ s) s.Xb.Xm.Xz (λ u=>decide ((u.Xl.length:Int)>3000)||decide ((u.Xy.length:Int)>200)) (bQ_ (by omega)) (λ i hi=>by
   unfold g5_;refine ah_ (br_ hi) (aa_ (as_ hi) ?_);rw[au_ (by omega),as_ hi];simp only[qBs];cases decide ((s.Xb.Xm.Xz[i].Xl.length:Int)>3000)<;>cases decide ((s.Xb.Xm.Xz[i].Xy.length:Int)>200)<;>rfl) (by unfold g5_;exact ac_ (bA_ _) rfl)
  have l3:=py_ (body:=g6_ s) s.Yf.Xd (λ u=>decide ((u.Xl.length:Int)>2000)||decide ((u.Yq.length:Int)>100)) (bQ_ (by omega)) (λ i hi=>by
   unfold g6_;refine ah_ (br_ hi) (aa_ (as_ hi) ?_);rw[au_ (by omega),as_ hi];simp only[qBs];cases decide ((s.Yf.Xd[i].Xl.length:Int)>2000)<;>cases decide ((s.Yf.Xd[i].Yq.length:Int)>100)<;>rfl) (by unfold g6_;exact ac_ (bA_ _) rfl)
  have l4:=py_ (body:=g7_ s) s.Xc (λ u=>decide ((u.Yq.length:Int)>100)) (bQ_ (by omega)) (λ i hi=>by
   unfold g7_;refine ah_ (br_ hi) (aa_ (as_ hi) ?_);rw[au_ (by omega)];cases decide ((s.Xc[i].Yq.length:Int)>100)<;>rfl) (by unfold g7_;exact ac_ (bA_ _) rfl)
  rcases l1 with l1|⟨l1,hm⟩
  .exact⟨false,ac_ rfl (aa_ l1 rfl),λ h=>(nomatch h)⟩
  rcases l2 with l2|⟨l2,_⟩
  .exact⟨false,ac_ rfl (aa_ l1 (aa_ l2 rfl)),λ h=>(nomatch h)⟩
  rcases l3 with l3|⟨l3,_⟩
  .exact⟨false,ac_ rfl (aa_ l1 (aa_ l2 (aa_ l3 rfl))),λ h=>(nomatch h)⟩
  rcases l4 with l4|⟨l4,_⟩
  .exact⟨false,ac_ rfl (aa_ l1 (aa_ l2 (aa_ l3 (aa_ l4 rfl)))),λ h=>(nomatch h)⟩
  .refine⟨true,ac_ rfl (aa_ l1 (aa_ l2 (aa_ l3 (aa_ l4 rfl)))),λ _=>⟨by omega,λ u hu => ?_,by omega,by omega,by omega,by omega,by omega⟩⟩;have:=hm u hu;simp only[qDf]at this;omega
theorem Small17.size{s:Xh}(h:Small17 s)(hu:mO_ s.Xb.Yx)(hq:oo_ s.Xb.Yj):SizeOK s.Xb :=
 ⟨by have:=h.ul;omega,λ u hm=>by have:=h.um u hm;omega,hu,by have:=h.ql;omega,hq,by have:=h.nl;omega,by have:=h.el;omega⟩
structure TreeAt(s:Xj)(sc:Str)(T:Xk)(E:Int):Prop where
 get:bK_ s sc=some (T,E)
 ref:eG_ s sc=some (T,E)
 len:T.Xz.length<=1024
 ok:E=0->OkT T.Xz T.Xt
theorem tree_at{s:Xj}(hs:StOK s)(sc:Str):∃T E,TreeAt s sc T E:=by
 obtain⟨T,E,rd,t1,t2,t3,t4⟩:=tree_both hs sc;exact⟨T,E,by unfold bK_;exact aa_ t1 rfl,t2,t3,λ e=>(t4 e).1⟩
structure Ok17(s:Xh):Prop where
 sl:s.Xc.length<=64
 files:FileOK s.Xb
 store:StOK s.Yf
 time:∀x∈s.Xc,0<=x.Yb/\x.Yb<=1099511627776
 asc:∀i x y,0<i->s.Xc[i]? = some x->s.Xc[i-1]? = some y->y.Yb<x.Yb
 tree:∀x∈s.Xc,∃T,TreeAt s.Yf x.Yq T 0
noncomputable def okTr(s:Xj)(sc:Str):Bool:=match eG_ s sc with|some (_,e)=>e==0|none=>false
def jR_(l:List Yd)(i:Nat):Yd:=l.getD (i-1) (Yd.mk 0 [])
noncomputable def badS(s:Xh)(i:Nat)(x:Yd):Bool:=(decide (x.Yb<0)||decide (x.Yb>1099511627776))||(decide (0<i)&&decide ((jR_ s.Xc i).Yb>=x.Yb)) || !(okTr s.Yf x.Yq)
theorem ok_modes{T:Xk}(h:OkT T.Xz T.Xt):∀n∈T.Xz,n.Xv<=9223372036854775807/\n.Xy.length<=9223372036854775807:=λ n hn=>⟨h.hm hn,by have:=h.name hn;omega⟩
theorem Right_eq (s:Xh) (z:SizeOK s.Xb) (hb:NodesB s.Xb) (hbl:s.Yf.Xd.length<=120):∃b,h2_ s=some b/\(b=true↔Ok17 s):=by
 unfold h2_;by_cases hl:s.Xc.length<=64
 .obtain⟨b1,e1,g1⟩:=tQ_ s.Xb z hb;obtain⟨b2,e2,g2⟩:=Right_iff (s:=s.Yf) (by omega);cases b1 with
  | false=>exact⟨false,aa_ (a:=true) (ac_ (by simp;omega) (aa_ e1 rfl)) (aa_ (a:=true) rfl rfl),λ h=>(nomatch h),λ h=>by rw[g1.2 h.files]⟩
  | true =>
  cases b2 with
  | false=>exact⟨false,aa_ (a:=false) (ac_ (by simp;omega) (aa_ e1 rfl)) (aa_ (a:=true) (ac_ rfl (aa_ e2 rfl)) rfl),λ h=>(nomatch h),λ h=>by rw[g2.2 h.store]⟩
  | true =>
   have hf:=g1.1 rfl;have hs:=g2.1 rfl;have hlp:=aU_ (body:=hf_ s) s.Xc (λ i x=>if badS s i x then some false else none) (bQ_ (by omega)) (λ i hi => ?_) (by unfold hf_;exact ac_ (bA_ _) rfl)
   .refine⟨(aL_ (λ i x=>if badS s i x then some false else none) 0 s.Xc).getD true,aa_ (a:=false) (ac_ (by simp;omega) (aa_ e1 rfl)) (aa_ (a:=false) (ac_ rfl (aa_ e2 rfl)) (bl_ hlp (λ r=>rfl) rfl)),?_⟩;rw[pj_ (p:=λ i x => !(badS s i x)) (λ i x=>by cases badS s i x<;>rfl)];simp only[Nat.zero_add,Bool.not_eq_true'];constructor
    .intro h;have h':∀i x,s.Xc[i]? = some x->(0<=x.Yb/\x.Yb<=1099511627776)/\(0<i->(jR_ s.Xc i).Yb<x.Yb)/\okTr s.Yf x.Yq=true:=λ i x hx=>by
      have:=h i x hx;unfold badS at this;simp only[Bool.or_eq_false_iff,qDf,Bool.not_eq_false',Bool.and_eq_false_iff]at this;obtain⟨⟨⟨t1,t2⟩,t3⟩,t4⟩:=this;exact⟨by omega,λ h0=>by omega,t4⟩
     refine⟨hl,hf,hs,λ x hx => ?_,λ i x y h0 hx hy => ?_,λ x hx => ?_⟩
     .obtain⟨i,hi⟩:=List.mem_iff_getElem?.1 hx;exact(h' i x hi).1
     .have:=(h' i x hx).2.1 h0;have e:jR_ s.Xc i=y:=by
       unfold jR_;rw[List.getD_eq_getElem?_getD,hy];rfl
      rwa [e]at this
     .obtain⟨i,hi⟩:=List.mem_iff_getElem?.1 hx;have h4:=(h' i x hi).2.2;obtain⟨T,E,hT⟩:=tree_at hs x.Yq;unfold okTr at h4;rw[hT.ref]at h4;have:E=0:=by simpa using h4
      subst this;exact⟨T,hT⟩
    .intro h i x hx;have hxm:=List.mem_of_getElem? hx;obtain⟨t1,t2⟩:=h.time x hxm;obtain⟨T,hT⟩:=h.tree x hxm;have h4:okTr s.Yf x.Yq=true:=by
      unfold okTr;rw[hT.ref];rfl
     have h5:0<i->(jR_ s.Xc i).Yb<x.Yb:=λ h0=>by
      have hi:i-1<s.Xc.length:=by
       have:i<s.Xc.length:=by
        rcases Nat.lt_or_ge i s.Xc.length with h'|h'
        .exact h'
        .rw[List.getElem?_eq_none h']at hx;cases hx
       omega
      have hy:=List.getElem?_eq_getElem hi;have e:jR_ s.Xc i=s.Xc[i-1]:=by
       unfold jR_;rw[List.getD_eq_getElem?_getD,hy];rfl
      rw[e];exact h.asc i x _ h0 hx hy
     unfold badS;rw[h4];simp only[Bool.or_eq_false_iff,qDf,Bool.and_eq_false_iff,Bool.not_true];refine⟨⟨⟨by omega,by omega⟩,?_⟩,trivial⟩;by_cases h0:0<i
     .exact .inr (by have:=h5 h0;omega)
     .exact .inl h0
   .unfold hf_;refine ah_ (br_ hi) (aa_ (as_ hi) ?_);obtain⟨T,E,hT⟩:=tree_at hs s.Xc[i].Yq;have hok:okTr s.Yf s.Xc[i].Yq=(E==0):=by unfold okTr;rw[hT.ref]
    have hprev:∀h0:0<i,al_ s.Xc (w64 ((i:Int)-1))=some (jR_ s.Xc i):=λ h0=>iE_ _ h0 hi (by omega)
    have hcond:(Option.bind (bif(decide ((i:Int)>0))then(al_ s.Xc (w64 ((i:Int)-1))).bind λ y13=>some (decide (y13.Yb>=s.Xc[i].Yb))else some false) fun(y14:Bool)=>some y14)=some (decide (0<i)&&decide ((jR_ s.Xc i).Yb>=s.Xc[i].Yb)):=by
     by_cases h0:0<i
     .have e:decide ((i:Int)>0)=true:=by simpa using h0
      rw[e,hprev h0];simp[h0]
     .have e:decide ((i:Int)>0)=false:=by simp;omega
      rw[e];simp[h0]
    refine aa_ (a:=(decide (s.Xc[i].Yb<0)||decide (s.Xc[i].Yb>1099511627776))||(decide (0<i)&&decide ((jR_ s.Xc i).Yb>=s.Xc[i].Yb))) ?_ ?_
    .cases hc:decide (s.Xc[i].Yb<0)||decide (s.Xc[i].Yb>1099511627776)with
     | true=>rfl
     | false=>exact ac_ rfl hcond
    .unfold badS;cases hc:(decide (s.Xc[i].Yb<0)||decide (s.Xc[i].Yb>1099511627776))||(decide (0<i)&&decide ((jR_ s.Xc i).Yb>=s.Xc[i].Yb))with
     | true=>rfl
     | false =>
      refine ac_ rfl (aa_ hT.ref ?_);rw[hok];by_cases hE:E=0
      .subst hE;obtain⟨b3,e3,g3⟩:=jw_ T hT.len (ok_modes (hT.ok rfl));have hb3:=g3.2 (hT.ok rfl);subst hb3;refine aa_ (a:=false) (ac_ rfl (aa_ e3 rfl)) ?_;rw[au_ (by omega)];rfl
      .refine aa_ (a:=true) (ah_ (by simpa using hE) rfl) ?_;have:(E==0)=false:=by simpa using hE
       rw[this];rfl
 .exact⟨false,aa_ (a:=true) (ah_ (by simp;omega) rfl) (aa_ (a:=true) rfl rfl),λ h=>(nomatch h),λ h=>absurd h.sl hl⟩
def atS(l:List Yd)(t:Int):Option Yd:=l.reverse.find? λ x=>decide (x.Yb<=t)
theorem at_down(s:Xh)(t:Int)(hl:s.Xc.length<=1000):∀(n m:Nat),n<=s.Xc.length->n<m->ak_ (fx_ s t) m ((n:Int)-1)=some (match atS (s.Xc.take n) t with|some x => .ret (x,true)|none => .fall ())
 | 0,m,_,hm=>by
  obtain⟨m,rfl⟩:∃k,m=k+1:=⟨m-1,by omega⟩;refine aZ_ ?_;unfold fx_;exact ac_ (by simp) rfl
 | n+1,m,hn,hm=>by
  obtain⟨m,rfl⟩:∃k,m=k+1:=⟨m-1,by omega⟩;have hi:n<s.Xc.length:=by omega
  have e0:((n+1:Nat):Int)-1=(n:Int):=by omega
  have ht:s.Xc.take (n+1)=s.Xc.take n++[s.Xc[n]]:=List.take_succ_eq_append_getElem hi;have hat:atS (s.Xc.take (n+1)) t=if s.Xc[n].Yb<=t then some s.Xc[n]else atS (s.Xc.take n) t:=by
   unfold atS;rw[ht,List.reverse_append,List.reverse_singleton,List.singleton_append,List.find?_cons];by_cases h:s.Xc[n].Yb<=t<;>simp[h]
  rw[hat,e0];by_cases h:s.Xc[n].Yb<=t
  .rw[if_pos h];refine aZ_ ?_;unfold fx_;exact ah_ (by simp) (aa_ (as_ hi) (ah_ (by simpa using h) (aa_ (as_ hi) rfl)))
  .rw[if_neg h];refine bL_ ?_ (at_down s t hl n m (by omega) (by omega));unfold fx_;refine ah_ (by simp) (aa_ (as_ hi) (ac_ (by simpa using h) ?_));rw[ap_ ⟨by omega,by omega⟩]
def atR(s:Xh)(t:Int):Yd×Bool:=match atS s.Xc t with|some x=>(x,true)|none=>(Yd.mk 0 [],false)
theorem At_eq(s:Xh)(t:Int)(hl:s.Xc.length<=1000):kL_ s t=some (atR s t):=by
 have h:=at_down s t hl s.Xc.length BIG (Nat.le_refl _) (bQ_ (by omega));rw[List.take_length]at h;unfold kL_ atR;rw[ap_ ⟨by omega,by omega⟩];refine aa_ h ?_;cases atS s.Xc t<;>rfl
theorem atS_mem{l:List Yd}{t:Int}{x:Yd}(h:atS l t=some x):x∈l:=List.mem_reverse.1 (List.mem_of_find?_eq_some h)
theorem srv_fit{x:Xh}(h:Fit te (.st snapN) x):mO_ x.Xb.Yx/\oo_ x.Xb.Yj/\NodesB x.Xb :=
 ⟨λ u hu=>((h 1).1.2 u hu).1,λ q hq=>((h 1).2.1.2 q hq).1,λ n hn=>⟨((h 1).2.2.2.1.2 n hn).2.2.2.2.1.2,((h 1).2.2.2.1.2 n hn).2.2.2.1⟩⟩
theorem ask17{x:Xh}{P:Option Bool}{p:Bool}(h:mO_ x.Xb.Yx/\oo_ x.Xb.Yj/\NodesB x.Xb)(hP:P=some p){A B:Option Bool}(hA:A=some true)(hB:p=false->Small17 x->SizeOK x.Xb->Ok17 x->B=some true) :
  (Option.bind (hX_ x) fun(y1:Bool)=>Option.bind (bif !y1 then some true else P) fun(y2:Bool)=>Option.bind (bif y2 then some true else(h2_ x).bind λ y3=>some (!y3)) fun(y4:Bool)=>bif y4 then A else B)=some true:=by
 obtain⟨b,h1,h2⟩:=small_eq x;refine aa_ h1 ?_;cases b with
 | false=>exact aa_ (a:=true) rfl (aa_ (a:=true) rfl hA)
 | true =>
  have hs:=h2 rfl;have z:=hs.size h.1 h.2.1;refine aa_ (a:=p) hP ?_;cases p with
  | true=>exact aa_ (a:=true) rfl hA
  | false =>
   obtain⟨c,e1,e2⟩:=Right_eq x z h.2.2 hs.bl;refine aa_ (a := !c) (aa_ e1 rfl) ?_;cases c with
   | false=>exact hA
   | true=>exact hB rfl hs z (e2.1 rfl)
theorem tree_back{u:Xj}(hu:StOK u){sc d:Str}{next:Int}{n:Xq}{r:Xp}{l ns:List Xq}{seen:List Str}(hb:blk u sc 4=(d,0))(hh:headD d=some (next,(l.length:Int),n,r,d.length))(hg:bi_ u 1025 n r (l.length:Int)=(ns,seen,0))(hp:ns.Perm l)(h:OkT l next) :
  bU_ (Xg.mk u []) sc=some (Xk.mk next l,0,Xg.mk u ([sc]++seen)):=by
 have hbl:=me_ hu sc 4;have hrb:=e6_ hu sc 4 (seen:=[]) (by simp);rw[hb]at hbl hrb;rw[if_pos rfl]at hrb;obtain⟨v1,d1,v2,d2,x,d3,p1,p2,p3,p4⟩:=P_head hbl;rw[hh]at p4;obtain⟨p5,p6,rfl,rfl,rfl⟩:=p4;have hl:=h.len;have hl1:1<=l.length:=by
  obtain⟨_,_,rfl,_⟩:=h.root;simp
 obtain⟨e,b,rd,k1,k2,k3⟩:=add_P hu 1025 BIG (ns:=[]) (seen:=[]++[sc]) (most:=(l.length:Int)) (n:=n) (r:=r) (by decide) (by simp;omega) (by omega) (by simp);have hz:(l.length:Int)-(([]:List Xq).length:Int)=(l.length:Int):=by simp
 rw[hz,hg]at k2 k3;obtain⟨rfl,rfl⟩:=k3 k2;have hnl:=hp.length_eq;simp only[List.nil_append]at k1;obtain⟨y,hy⟩:∃y,dJ_ (λ n:Xq=>n.Id_) ns=some y:=⟨_,by unfold dJ_;rw[if_pos (by omega)]⟩;obtain⟨y1,y2⟩:=kR_ hy;have hyl:y=l:=by
  refine hw_ (y1.trans hp) y2 (h.srt.imp λ hh => ?_) λ a ha b hb h3 h4 => ?_
  .unfold leK;simp only[qDe];omega
  .unfold leK at h3 h4;simp only[qDe]at h3 h4;exact ok_ h.srt ((y1.trans hp).subset ha) ((y1.trans hp).subset hb) (by omega)
 subst hyl;obtain⟨b1,t1,t2⟩:=hr_ (Xk.mk v1 y) (by show y.length<=1024;omega) (λ x hx=>⟨h.hm hx,by have:=h.name hx;omega⟩);have hb1:=t2.2 h;subst hb1;unfold bU_;refine aa_ hrb (ac_ rfl (aa_ p1 (aa_ p2 (aa_ p3 (ac_ ?_ (aa_ k1 (ac_ (by rw[k2];rfl) (aa_ hy (aa_ (a:=false) (ac_ ?_ (aa_ t1 rfl)) rfl)))))))))
 .simp[p5,p6];omega
 .simp
theorem runS_le{α σ ε:Type}{f g:σ->α->σ ⊕ ε}:∀{xs:List α} {s r:σ},(∀a x b,x∈xs->f a x = .inl b->g a x = .inl b)->bD_ f s xs = .inl r->bD_ g s xs = .inl r
 | [],s,r,_,h=>h
 | x::xs,s,r,hf,h=>by
  simp only[bD_]at h ⊢;cases hx:f s x with
  | inl b =>
   rw[hx]at h;rw[hf s x b List.mem_cons_self hx];exact runS_le (λ a y c hy=>hf a y c (List.mem_cons_of_mem _ hy)) h
  | inr e =>
   rw[hx]at h;cases h
theorem rdF_le{s t:Xj}(hle:StLe s t)(k:Int):∀(l:Nat) {sc:Str} {len a b:Nat},(rdF s k l sc len a b).2.2=0->rdF t k l sc len a b=rdF s k l sc len a b
 | 0,sc,len,a,b,h=>by
  unfold rdF at h ⊢;by_cases h0:(blk s sc k).2=0
  .rw[hle.blk h0]
  .rw[if_neg h0]at h;exact absurd h h0
 | l + 1,sc,len,a,b,h=>by
  rw[rdF]at h;rw[rdF,rdF];by_cases h0:(blk s sc 2).2=0
  .rw [hle.blk h0];rw[if_pos h0]at h;rw[if_pos h0];split
   .rename_i h1;rw[if_pos h1]at h;have hne:=pu_ (f:=fRd (rdF s k l) (blk s sc 2).1 (ae_ l) len a b) (λ _ _=>True) (λ r=>r.2.2≠0) (n:=(len+ae_ l-1)/ae_ l) (s0:=([],[sc])) trivial λ i acc hi _=>⟨λ _ _=>trivial,λ e he=>by
     unfold fRd at he;split at he
     .cases he
     .simp only at he;split at he
      .cases he
      .rename_i h2;obtain rfl:=Sum.inr.inj he;exact h2⟩
    cases hr:bD_ (fRd (rdF s k l) (blk s sc 2).1 (ae_ l) len a b) ([],[sc]) (List.range ((len+ae_ l-1)/ae_ l))with
    | inl acc =>
     rw[runS_le (g:=fRd (rdF t k l) (blk s sc 2).1 (ae_ l) len a b) (λ q x c _ hq => ?_) hr];have ih:=rdF_le hle k l (sc:=((blk s sc 2).1.drop (32*x)).take 32) (len:=ax_ (ae_ l) len x) (a:=min (a-x*ae_ l) (ax_ (ae_ l) len x)) (b:=min (b-x*ae_ l) (ax_ (ae_ l) len x));unfold fRd at hq ⊢;split at hq
     .rename_i h2;rw[if_pos h2];exact hq
     .rename_i h2;rw[if_neg h2];simp only at hq ⊢;split at hq
      .rename_i h3;rw[ih h3,if_pos h3];exact hq
      .cases hq
    | inr e =>
     rw[hr]at h;exact absurd h (hne.2 e hr)
   .rfl
  .rw[if_neg h0]at h;exact absurd h h0
theorem fileR_le{s t:Xj}(hle:StLe s t)(k:Int)(r:Xp)(h:(aB_ s k r).2.2=0):aB_ t k r=aB_ s k r:=by
 unfold aB_ at h ⊢;split
 .rename_i h0;rw[if_pos h0]at h;exact rdF_le hle k _ h
 .rfl
theorem getN_le {s t:Xj} (hle:StLe s t):∀(f:Nat) {n:Xq} {r:Xp} {left:Int},(bi_ s f n r left).2.2=0->bi_ t f n r left=bi_ s f n r left
 | 0,n,r,left,_=>rfl
 | f + 1,n,r,left,h=>by
  rw[bi_]at h;rw[bi_,bi_];split
  .rfl
  .rename_i hl;rw[if_neg hl]at h;by_cases hc:(aB_ s (aO_ n) r).2.2=0
   .rw [fileR_le hle _ _ hc];rw[if_pos hc]at h;rw[if_pos hc];split
    .rename_i hd;rw[if_pos hd]at h;cases hk:gE_ (aB_ s (aO_ n) r).1 n.Id_ ((aB_ s (aO_ n) r).1.length+1) 0 with
     | none=>rfl
     | some l =>
      rw[hk]at h;simp only at h ⊢;have hne:=i6_ (f:=fG (bi_ s f) left) (λ _ _=>True) (λ e=>e.2.2≠0) (xs:=l) (k:=0) (s0:=([n],(aB_ s (aO_ n) r).2.1)) trivial λ i acc q _ _=>⟨λ _ _=>trivial,λ e he=>by
       unfold fG at he;split at he
       .cases he
       .rename_i h2;obtain rfl:=Sum.inr.inj he;exact h2⟩
      cases hr:bD_ (fG (bi_ s f) left) ([n],(aB_ s (aO_ n) r).2.1) l with
      | inl acc =>
       rw[runS_le (g:=fG (bi_ t f) left) (λ a x c _ hq => ?_) hr];have ih:=getN_le hle f (n:=x.1) (r:=x.2) (left:=left-(a.1.length:Int));unfold fG at hq ⊢;split at hq
       .rename_i h3;rw[ih h3,if_pos h3];exact hq
       .cases hq
      | inr e =>
       rw[hr]at h;exact absurd h (hne.2 e hr)
    .rfl
   .rw[if_neg hc]at h;exact absurd h hc
theorem TreeAt.le{s t:Xj}{sc:Str}{T:Xk}(h:TreeAt s sc T 0)(hs:StOK s)(ht:StOK t)(hle:StLe s t):bK_ t sc=some (T,0):=by
 obtain⟨T',E,rd,t1,t2,t3,t4⟩:=tree_both hs sc;have he:T'=T/\E=0:=by
  have:=h.ref.symm.trans t2;simp only[qOi,Prod.mk.injEq]at this;exact⟨this.1.symm,this.2.symm⟩
 obtain⟨rfl,rfl⟩:=he;obtain⟨g1,next,many,n,r,a3,h0,hh,hm,hg,_,rfl,rfl,rfl,hp⟩:=t4 rfl;have hb:blk t sc 4=((blk s sc 4).1,0):=by
  rw[hle.blk h0,←h0]
 have hg2:=getN_le hle 1025 hg;have:=tree_back ht (sc:=sc) (d:=(blk s sc 4).1) (next:=T'.Xt) (n:=n) (r:=r) (l:=T'.Xz) (ns:=(bi_ s 1025 n r (T'.Xz.length:Int)).1) (seen:=(bi_ s 1025 n r (T'.Xz.length:Int)).2.1) hb hh (by rw[hg2,←hg]) hp g1;unfold bK_;exact aa_ this rfl
structure Tot(s:Xh):Prop where (files:FileOK s.Xb) (size:SizeOK s.Xb) (store:StOK s.Yf) (sl:s.Xc.length<=100)
theorem copied_loop(l:List Xf)(hl:l.length<=1000)(hm:e0_ l):ak_ (b3_ l) BIG (0,l)=some l:=by
 refine copy_loop l hl (λ i hi => ?_) ?_
 .unfold b3_;simp only;rw[br_ hi,as_ hi,au_ (by omega)];refine ah_ rfl (aa_ rfl (aa_ (nM_ (hm _ (List.getElem_mem hi))) (aa_ rfl ?_)));exact congrArg (λ q=>some (Step.next (((i+1:Nat):Int),q))) (set_self (List.getElem?_eq_getElem hi))
 .unfold b3_;simp only;rw[bA_];rfl
theorem vh_{f:Xx}(z:SizeOK f):b6_ f=some f:=by
 have:=z.nl;have:=z.el;unfold b6_;exact aa_ (rO_ z.ul) (aa_ (copied_loop _ z.ul z.um) (aa_ (qG_ z.ql) (aa_ (rP_ (by omega)) (aa_ (l2_ (by omega)) rfl))))
theorem clone_snaps{xs:List Yd}(h:xs.length<=1000):b1_ xs=some xs:=gV_ (n:=24) (by omega) (by omega)
theorem fL_{s:Xh}(h:Tot s):ar_ s=some s:=by
 have:=h.store.size;have:=h.sl;unfold ar_;exact aa_ (vh_ h.size) (aa_ (sF_ (by omega)) (aa_ (clone_snaps (by omega)) rfl))
theorem ku_{s:Xh}(h:Tot s)(f:Xx):cc_ s f=some (Xh.mk f s.Yf s.Xc):=by
 unfold cc_;exact aa_ (fL_ h) rfl
structure PlOK(p:Yn):Prop where
 len:p.Zj.Xm.Xz.length<=1024
 mode:∀n∈p.Zj.Xm.Xz,n.Xv<=9223372036854775807
def place0(t i:Int):Yn:=Yn.mk (Xx.mk [] [] (Xk.mk 0 []) []) t i
theorem lf_(t i:Int):PlOK (place0 t i):=⟨by simp[place0],λ n hn=>by simp[place0]at hn⟩
theorem find_tot{s:Xh}(h:Tot s)(id:Int):∃p ok,db_ s id=some (p,ok)/\PlOK p:=by
 have hsl:=h.sl;unfold db_;cases hc:(id==1)||(id==2)with
 | true=>exact⟨_,_,rfl,lf_ 0 id⟩
 | false =>
  generalize IntKind.i64.wrap (id.tdiv 1048576)=k;rw[show w64 ((s.Xc.length:Int)+1)=(s.Xc.length:Int)+1 from ap_ ⟨by omega,by omega⟩];cases hg:decide (id<1048576)||decide (k>(s.Xc.length:Int)+1)with
  | true=>exact⟨_,_,ac_ rfl (ah_ rfl rfl),lf_ 0 0⟩
  | false =>
   simp only[Bool.or_eq_false_iff,qDf]at hg;by_cases hk:k>1
   .obtain⟨i,hi⟩:∃i:Nat,k=(i:Int)+2:=⟨(k-2).toNat,by omega⟩;have hil:i<s.Xc.length:=by omega
    have hgi:al_ s.Xc (w64 (k-2))=some s.Xc[i]:=by
     rw[ap_ ⟨by omega,by omega⟩,show k-2=(i:Int)by omega];exact as_ hil
    obtain⟨T,E,hT⟩:=tree_at h.store s.Xc[i].Yq;by_cases hE:E=0
    .subst hE;have hok:=hT.ok rfl;refine⟨_,_,ac_ rfl (ac_ (by simp) (aa_ (ah_ (by simpa using hk) (aa_ hgi (aa_ hT.get (ac_ rfl rfl)))) (aa_ (cG_ T (id.tmod 1048576) (by have:=hT.len;omega)) rfl))),⟨hT.len,λ n hn=>hok.hm hn⟩⟩
    .exact⟨_,_,ac_ rfl (ac_ (by simp) (aa_ (ah_ (by simpa using hk) (aa_ hgi (aa_ hT.get (ah_ (by simpa using hE) rfl)))) rfl)),lf_ 0 0⟩
   .have hnl:=h.size.nl;exact⟨_,_,ac_ rfl (ac_ (by simp) (aa_ (ac_ (by simpa using hk) rfl) (aa_ (cG_ s.Xb.Xm (id.tmod 1048576) (by omega)) rfl))),⟨hnl,λ n hn=>h.files.tr.hm hn⟩⟩
theorem lg_{s:Xh}(h:Tot s)(user:Str)(id:Int)(hu:user.length<=9223372036854775807):∃p e,bX_ s user id=some (p,e)/\PlOK p:=by
 obtain⟨p,ok,f1,f2⟩:=find_tot h id;unfold bX_ fv_;cases hv:(walkS s.Xb user 0 []).2 != 25 with
 | false=>exact⟨_,_,aa_ (a:=false) (aa_ (walk_eq h.files h.size user 0 [] hu) (by rw[hv])) (ah_ rfl rfl),lf_ 0 0⟩
 | true =>
  cases ok with
  | false=>exact⟨_,_,aa_ (a:=true) (aa_ (walk_eq h.files h.size user 0 [] hu) (by rw[hv])) (ac_ rfl (aa_ f1 (ah_ rfl rfl))),lf_ 0 0⟩
  | true=>exact⟨_,_,aa_ (a:=true) (aa_ (walk_eq h.files h.size user 0 [] hu) (by rw[hv])) (ac_ rfl (aa_ f1 (ac_ rfl rfl))),f2⟩
theorem isDir_tot{p:Yn}(h:PlOK p):∃b,cw_ p=some b:=by
 unfold cw_;have:=h.len;cases p.Zk==0 with
 | true=>exact⟨_,rfl⟩
 | false=>exact⟨_,ac_ rfl (aa_ (cG_ p.Zj.Xm p.Ym (by omega)) rfl)⟩
theorem node_mode{p:Yn}(h:PlOK p):(ai_ p.Zj.Xm.Xz p.Ym).1.Xv<=9223372036854775807:=by
 cases hn:(ai_ p.Zj.Xm.Xz p.Ym).2 with
 | true=>exact h.mode _ (bs_ hn).1
 | false =>
  rw[(ph_ hn).2];show(0:Int)<=_
  decide
def Same2(s t:Xh):Prop:=t.Yf=s.Yf/\t.Xc=s.Xc
def R2(s:Xh)(o:Option (Xh×Int)):Prop:=∃t e,o=some (t,e)/\Same2 s t
def R3(s:Xh)(o:Option (Xh×Int×Int)):Prop:=∃t n e,o=some (t,n,e)/\Same2 s t
theorem R2.cond{s:Xh}{c:Bool}{x y:Option (Xh×Int)}(h1:R2 s x)(h2:R2 s y):R2 s (bif c then x else y):=by cases c;exact h2;exact h1
theorem R3.cond{s:Xh}{c:Bool}{x y:Option (Xh×Int×Int)}(h1:R3 s x)(h2:R3 s y):R3 s (bif c then x else y):=by cases c;exact h2;exact h1
theorem R2.mk{s t:Xh}{e:Int}(h1:t.Yf=s.Yf)(h2:t.Xc=s.Xc):R2 s (some (t,e)):=⟨_,_,rfl,h1,h2⟩
theorem R3.mk{s t:Xh}{n e:Int}(h1:t.Yf=s.Yf)(h2:t.Xc=s.Xc):R3 s (some (t,n,e)):=⟨_,_,_,rfl,h1,h2⟩
theorem open_tot{s:Xh}(h:Tot s)(user:Str)(id mode now:Int)(hu:user.length<=9223372036854775807)(hm:I64 mode):R2 s (d1_ s user id mode now):=by
 obtain⟨p,e,c1,c2⟩:=lg_ h user id hu;obtain⟨b,d1⟩:=isDir_tot c2;have hn:=cG_ p.Zj.Xm p.Ym (by have:=c2.len;omega);have ha:=on_ s.Xb.Yx user (ai_ p.Zj.Xm.Xz p.Ym).1.Yw (ai_ p.Zj.Xm.Xz p.Ym).1.Yv (ai_ p.Zj.Xm.Xz p.Ym).1.Xv (e2_ mode).1 h.size.ul h.size.um (node_mode c2);unfold d1_;rw[c1];simp only[qBs,fL_ h,ku_ h,open_eq h.files h.size user p.Ym mode now hu hm,mR_ mode hm,d1,hn,ha]
 repeat' first|exact R2.mk rfl rfl|refine R2.cond ?_ ?_
theorem create_tot{s:Xh}(h:Tot s)(user:Str)(id:Int)(name:Str)(perm mode now:Int)(hu:user.length<=9223372036854775807)(hm:I64 mode)(hp:perm<=9223372036854775807)(hl:name.length<=9223372036854775807):R3 s (c8_ s user id name perm mode now):=by
 obtain⟨p,e,c1,c2⟩:=lg_ h user id hu;unfold c8_;rw[c1];simp only[qBs,fL_ h,ku_ h,create_eq h.files h.size user p.Ym name perm mode now hu hm hp hl]
 repeat' first|exact R3.mk rfl rfl|refine R3.cond ?_ ?_
theorem write_tot{s:Xh}(h:Tot s)(user:Str)(id offset:Int)(data:Str)(now:Int)(hu:user.length<=9223372036854775807)(hd:data.length<=9223372036854775807):R3 s (cQ_ s user id offset data now):=by
 obtain⟨p,e,c1,c2⟩:=lg_ h user id hu;obtain⟨b,d1⟩:=isDir_tot c2;unfold cQ_;rw[c1];simp only[qBs,fL_ h,ku_ h,write_eq h.files h.size user p.Ym offset data now hu hd,d1]
 repeat' first|exact R3.mk rfl rfl|refine R3.cond ?_ ?_
theorem close_tot{s:Xh}(h:Tot s)(user:Str)(id mode now:Int)(hu:user.length<=9223372036854775807)(hm:mode<=9223372036854775807):∃t,hn_ s user id mode now=some t/\Same2 s t:=by
 obtain⟨p,ok,c1,c2⟩:=find_tot h id;unfold hn_;rw[c1];simp only[qBs,fL_ h,ku_ h,close_eq h.files h.size user p.Ym mode now hu hm];cases(!ok)||(p.Zk != 1)with
 | true=>exact⟨_,rfl,rfl,rfl⟩
 | false=>exact⟨_,rfl,rfl,rfl⟩
theorem remove_tot{s:Xh}(h:Tot s)(user:Str)(id now:Int)(hu:user.length<=9223372036854775807):R2 s (gx_ s user id now):=by
 obtain⟨p,e,c1,c2⟩:=lg_ h user id hu;unfold gx_;rw[c1];simp only[qBs,fL_ h,ku_ h,remove_eq h.files h.size user p.Ym now hu];cases(e==0)&&(p.Zk != 1)with
 | true =>
  simp only[cond_true,qBs];exact R2.cond (R2.mk rfl rfl) (R2.cond (R2.mk rfl rfl) (R2.mk rfl rfl))
 | false =>
  simp only[cond_false,qBs];exact R2.cond (R2.mk rfl rfl) (R2.cond (R2.mk rfl rfl) (R2.mk rfl rfl))
theorem wstat_tot{s:Xh}(h:Tot s)(user:Str)(id:Int)(d:Yl)(now:Int)(hu:user.length<=9223372036854775807)(hd:DirB d):R2 s (hp_ s user id d now):=by
 obtain⟨p,e,c1,c2⟩:=lg_ h user id hu;unfold hp_;rw[c1];simp only[qBs,fL_ h,ku_ h,wstat_eq h.files h.size user p.Ym d now hu hd];cases(e==0)&&(p.Zk != 1)with
 | true =>
  simp only[cond_true,qBs];exact R2.cond (R2.mk rfl rfl) (R2.cond (R2.mk rfl rfl) (R2.mk rfl rfl))
 | false =>
  simp only[cond_false,qBs];exact R2.cond (R2.mk rfl rfl) (R2.cond (R2.mk rfl rfl) (R2.mk rfl rfl))
structure Taken(s:Xh)(now:Int)(t:Xh):Prop where
 ok:(jP_ s.Yf s.Xb.Xm).2.2=0
 store:t.Yf=(jP_ s.Yf s.Xb.Xm).1
 snaps:t.Xc=s.Xc++[Yd.mk now (jP_ s.Yf s.Xb.Xm).2.1]
 files:t.Xb=s.Xb
 last:∀x,s.Xc.getLast? = some x->x.Yb<now
theorem uf_{s:Xh}(h:Tot s):dD_ s.Xb.Xm=some true:=by
 obtain⟨b,e1,e2⟩:=hr_ s.Xb.Xm h.size.nl (ok_modes h.files.tr);rw[e2.2 h.files.tr]at e1;exact e1
theorem take_tot{s:Xh}(h:Tot s)(now:Int):∃t e,d0_ s now=some (t,e)/\((e≠0/\t=s)\/(e=0/\Taken s now t)):=by
 have hsl:=h.sl;unfold d0_;rw[fL_ h,PutTree_eq h.store h.files.tr (uf_ h)];simp only[qBs];cases decide ((s.Xc.length:Int)>=64)with
 | true=>exact⟨_,_,rfl,.inl ⟨by decide,rfl⟩⟩
 | false =>
 simp only[cond_false];cases hc:decide (now<0)||decide (now>1099511627776)with
 | true=>exact⟨_,_,rfl,.inl ⟨by decide,rfl⟩⟩
 | false =>
 have hlast:∃c,(Option.bind (bif(decide ((s.Xc.length:Int)>0))then(al_ s.Xc (w64 ((s.Xc.length:Int)-1))).bind λ y2=>some (decide (now<=y2.Yb))else some false) fun(y3:Bool)=>some y3)=some c/\(c=false->∀x,s.Xc.getLast? = some x->x.Yb<now):=by
  rcases Nat.eq_zero_or_pos s.Xc.length with h0|h0
  .have he:s.Xc=[]:=List.length_eq_zero_iff.1 h0;rw[he];exact⟨false,rfl,λ _ x hx=>by cases hx⟩
  .have hi:s.Xc.length-1<s.Xc.length:=by omega
   have hg:al_ s.Xc (w64 ((s.Xc.length:Int)-1))=some s.Xc[s.Xc.length-1]:=by
    rw[ap_ ⟨by omega,by omega⟩,show(s.Xc.length:Int)-1=((s.Xc.length-1:Nat):Int)by omega];exact as_ hi
   have hd:decide ((s.Xc.length:Int)>0)=true:=by simpa using h0
   rw[hd,hg];refine⟨decide (now<=s.Xc[s.Xc.length-1].Yb),rfl,λ hf x hx => ?_⟩;rw[List.getLast?_eq_getElem?,List.getElem?_eq_getElem hi]at hx;obtain rfl:=qSj hx;simpa using hf
 obtain⟨c,l1,l2⟩:=hlast;simp only[cond_false];rw[l1];cases c with
 | true=>exact⟨_,_,rfl,.inl ⟨by decide,rfl⟩⟩
 | false =>
 simp only[qBs,cond_false];by_cases he:(jP_ s.Yf s.Xb.Xm).2.2=0
 .have hb:((jP_ s.Yf s.Xb.Xm).2.2 != 0)=false:=by simp[he]
  rw[hb,cx_ (by simp;omega) (by simp;omega)];exact⟨_,_,rfl,.inr ⟨rfl,he,rfl,rfl,rfl,l2 rfl⟩⟩
 .have hb:((jP_ s.Yf s.Xb.Xm).2.2 != 0)=true:=by simpa using he
  rw[hb];exact⟨_,_,rfl,.inl ⟨he,rfl⟩⟩
structure Op17(o:Zy):Prop where (user:o.Ys.length<=200) (name:o.Xy.length<=200) (data:o.Xl.length<=3000) (mode:I64 o.Xv) (perm:o.Zi<=9223372036854775807) (dir:DirB o.Zm)
theorem did_tot{s:Xh}(h:Tot s){o:Zy}(ho:Op17 o):∃t n e,nm_ s o=some (t,n,e)/\(Same2 s t\/(o.Yu=7/\Taken s o.Zf t)):=by
 have hu:o.Ys.length<=9223372036854775807:=by have:=ho.user;omega
 have hl:o.Xy.length<=9223372036854775807:=by have:=ho.name;omega
 have hd:o.Xl.length<=9223372036854775807:=by have:=ho.data;omega
 unfold nm_;by_cases k1:o.Yu=1
 .obtain⟨t,e,e1,e2⟩:=open_tot h o.Ys o.Id_ o.Xv o.Zf hu ho.mode;exact⟨t,_,_,aa_ (ah_ (by simp[k1]) (aa_ e1 rfl)) rfl,.inl e2⟩
 by_cases k2:o.Yu=2
 .obtain⟨t,n,e,e1,e2⟩:=create_tot h o.Ys o.Id_ o.Xy o.Zi o.Xv o.Zf hu ho.mode ho.perm hl;exact⟨t,_,_,aa_ (ac_ (by simp[k1]) (ah_ (by simp[k2]) (aa_ e1 rfl))) rfl,.inl e2⟩
 by_cases k3:o.Yu=3
 .obtain⟨t,n,e,e1,e2⟩:=write_tot h o.Ys o.Id_ o.Ze o.Xl o.Zf hu hd;exact⟨t,_,_,aa_ (ac_ (by simp[k1]) (ac_ (by simp[k2]) (ah_ (by simp[k3]) (aa_ e1 rfl)))) rfl,.inl e2⟩
 by_cases k4:o.Yu=4
 .obtain⟨t,e1,e2⟩:=close_tot h o.Ys o.Id_ o.Xv o.Zf hu ho.mode.2;exact⟨t,_,_,aa_ (ac_ (by simp[k1]) (ac_ (by simp[k2]) (ac_ (by simp[k3]) (ah_ (by simp[k4]) (aa_ e1 rfl))))) rfl,.inl e2⟩
 by_cases k5:o.Yu=5
 .obtain⟨t,e,e1,e2⟩:=remove_tot h o.Ys o.Id_ o.Zf hu;exact⟨t,_,_,aa_ (ac_ (by simp[k1]) (ac_ (by simp[k2]) (ac_ (by simp[k3]) (ac_ (by simp[k4]) (ah_ (by simp[k5]) (aa_ e1 rfl)))))) rfl,.inl e2⟩
 by_cases k6:o.Yu=6
 .obtain⟨t,e,e1,e2⟩:=wstat_tot h o.Ys o.Id_ o.Zm o.Zf hu ho.dir;exact⟨t,_,_,aa_ (ac_ (by simp[k1]) (ac_ (by simp[k2]) (ac_ (by simp[k3]) (ac_ (by simp[k4]) (ac_ (by simp[k5]) (ah_ (by simp[k6]) (aa_ e1 rfl))))))) rfl,.inl e2⟩
 by_cases k7:o.Yu=7
 .obtain⟨t,e,e1,e2⟩:=take_tot h o.Zf;refine⟨t,_,_,aa_ (ac_ (by simp[k1]) (ac_ (by simp[k2]) (ac_ (by simp[k3]) (ac_ (by simp[k4]) (ac_ (by simp[k5]) (ac_ (by simp[k6]) (ah_ (by simp[k7]) (aa_ e1 rfl)))))))) rfl,?_⟩;rcases e2 with⟨_,rfl⟩|⟨_,e2⟩
  .exact .inl ⟨rfl,rfl⟩
  .exact .inr ⟨k7,e2⟩
 .exact⟨s,_,_,aa_ (ac_ (by simp[k1]) (ac_ (by simp[k2]) (ac_ (by simp[k3]) (ac_ (by simp[k4]) (ac_ (by simp[k5]) (ac_ (by simp[k6]) (ac_ (by simp[k7]) rfl))))))) rfl,.inl ⟨rfl,rfl⟩⟩
theorem snap_le{s:Xh}(h:Ok17 s):∀(d i:Nat) {x y:Yd},s.Xc[i]? = some x->s.Xc[i+d]? = some y->x.Yb<=y.Yb
 | 0,i,x,y,hx,hy=>by
  rw[Nat.add_zero,hx]at hy;obtain rfl:=qSj hy;exact Int.le_refl _
 | d+1,i,x,y,hx,hy=>by
  have hl:i+(d+1)<s.Xc.length:=by
   rcases Nat.lt_or_ge (i+(d+1)) s.Xc.length with h'|h'
   .exact h'
   .rw[List.getElem?_eq_none h']at hy;cases hy
  have hz:=List.getElem?_eq_getElem (show i+d<s.Xc.length by omega);have h1:=snap_le h d i hx hz;have h2:=h.asc (i+(d+1)) y s.Xc[i+d] (by omega) hy (by rw[show i+(d+1)-1=i+d by omega];exact hz);omega
theorem snap_last{s:Xh}(h:Ok17 s){x l:Yd}(hx:x∈s.Xc)(hl:s.Xc.getLast? = some l):x.Yb<=l.Yb:=by
 obtain⟨i,hi⟩:=List.mem_iff_getElem?.1 hx;rw[List.getLast?_eq_getElem?]at hl;have hil:i<s.Xc.length:=by
  rcases Nat.lt_or_ge i s.Xc.length with h'|h'
  .exact h'
  .rw[List.getElem?_eq_none h']at hi;cases hi
 exact snap_le h (s.Xc.length-1-i) i hi (by rw[show i+(s.Xc.length-1-i)=s.Xc.length-1 by omega];exact hl)
theorem atS_some{l:List Yd}{x:Yd}{t:Int}(hx:x∈l)(ht:x.Yb<=t):∃y,atS l t=some y:=by
 unfold atS;cases hf:l.reverse.find? (λ x=>decide (x.Yb<=t))with
 | some y=>exact⟨y,rfl⟩
 | none =>
  have:=List.find?_eq_none.1 hf x (List.mem_reverse.2 hx);simp[ht]at this
theorem atS_gt{l:List Yd}{n:Yd}{t:Int}(h:t<n.Yb):atS (l++[n]) t=atS l t:=by
 unfold atS;rw[List.reverse_append,List.reverse_singleton,List.singleton_append,List.find?_cons];have:decide (n.Yb<=t)=false:=by simp;omega
 rw[this]
theorem tree_time{s:Xh}{tm:Int}{y:Yd}{T:Xk}(hl:s.Xc.length<=1000)(ha:atS s.Xc tm=some y)(hT:bK_ s.Yf y.Yq=some (T,0)):f4_ s tm=some (T,0):=by
 unfold f4_;rw[At_eq s tm hl];unfold atR;rw[ha];exact aa_ (a:=(y,true)) rfl (ac_ rfl (aa_ hT rfl))
def lightB(o:Zy):Bool:=(decide ((o.Xl.length:Int)<=3000)&&decide ((o.Xy.length:Int)<=200))&&decide ((o.Ys.length:Int)<=200)
theorem op_ok{o:Zy}(h:Fit te (.st op17N) o)(hl:lightB o=true):Op17 o:=by
 unfold lightB at hl;simp only[qAn,qDe]at hl;exact⟨by omega,by omega,by omega,(h 0).2.2.2.2.2.1,(h 0).2.2.2.2.1.2,(h 0).2.2.2.2.2.2.2.2.2.2.1.2,(h 0).2.2.2.2.2.2.2.2.2.2.2.2.2.1.2,(h 0).2.2.2.2.2.2.2.2.2.2.2.2.2.2.2.2.2.1⟩
theorem Ok17.tot{s:Xh}(h:Ok17 s)(z:SizeOK s.Xb):Tot s:=⟨h.files,z,h.store,by have:=h.sl;omega⟩
theorem pP_(x0:Xh)(x1:Zy)(h0:Fit te (.st snapN) x0)(h1:Fit te (.st op17N) x1):eB_ x0 x1=some true:=by
 unfold eB_;have hA:(law17_awake.bind λ y4=>some y4)=some true:=by rw[awake_eq];rfl
 refine ask17 (srv_fit h0) (p := !(lightB x1)) rfl hA λ hp hs z h => ?_
 have ho:=op_ok h1 (by simpa using hp);obtain⟨t,n,e,d1,d2⟩:=did_tot (h.tot z) ho;have hf:StOK t.Yf/\StLe x0.Yf t.Yf/\x0.Xc.length<=t.Xc.length/\t.Xc.length<=1000/\∀x∈x0.Xc,atS t.Xc x.Yb=atS x0.Xc x.Yb:=by
  have hsl:=h.sl;rcases d2 with⟨s1,s2⟩|⟨_,k⟩
  .rw[s1,s2];exact⟨h.store,StLe.refl _,Nat.le_refl _,by omega,λ _ _=>rfl⟩
  .obtain⟨k1,k2⟩:=treeS_ok h.store (t:=x0.Xb.Xm) h.files.tr;rw[k.store,k.snaps];refine⟨k1,k2,by simp,by simp;omega,λ x hx=>atS_gt ?_⟩;cases hl:x0.Xc.getLast? with
   | none=>rw[List.getLast?_eq_none_iff]at hl;rw[hl]at hx;cases hx
   | some l =>
    have:=snap_last h hx hl;have:=k.last l hl;show x.Yb<x1.Zf;omega
 obtain⟨f1,f2,f3,f4,f5⟩:=hf;refine aa_ d1 (ac_ (by simp;omega) ?_);have hsl:=h.sl;have hlp:=bd_ (body:=dE_ x0 (t,n,e)) (T:=λ i=>(i:Int)) (b:=Out.fall ()) x0.Xc.length (bQ_ (by omega)) (λ i hi => ?_) ?_
 .exact aa_ hlp hA
 .have hx:=List.getElem_mem hi;obtain⟨y,hy⟩:=atS_some hx (Int.le_refl _);obtain⟨T,hT⟩:=h.tree y (atS_mem hy);have t1:=tree_time (s:=x0) (by omega) hy hT.get;have t2:=tree_time (s:=t) f4 ((f5 _ hx).trans hy) (hT.le h.store f1 f2);unfold dE_;refine ah_ (br_ hi) (aa_ (as_ hi) (aa_ t1 (aa_ (as_ hi) (aa_ t2 (aa_ (a:=false) (ac_ rfl (aa_ (same_tree13 T (by have:=hT.len;omega)) rfl)) ?_)))));rw[au_ (by omega)];rfl
 .unfold dE_;exact ac_ (bA_ _) rfl
end Go.Proofs.YtebokaoegomboaaGreatDoor
