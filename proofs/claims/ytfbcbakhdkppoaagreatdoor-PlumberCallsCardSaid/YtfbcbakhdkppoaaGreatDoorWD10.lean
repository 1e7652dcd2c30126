/-
 What the statements of this seat hang on,part 10: Eh Ea Ei.
-/
import Derived.Test.YtfbcbakhdkppoaaGreatDoorWD9
import Derived.KernelRfl
namespace Go.Proofs.YtfbcbakhdkppoaaGreatDoor
open Go.Rt Go.RowKit
theorem port_id{p:Xk}(h:p.Xj.length<=1000){id:Int}(f:fs_ p id=true)(j:¬id<4):∃k:Nat,k<p.Xj.length/\w64 (id-4)=(k:Int):=by
 unfold fs_ at f;rw[qAn,qDe,qDe]at f;refine⟨(id-4).toNat,by omega,?_⟩;rw[ar_ ⟨by omega,by omega⟩];omega
structure Valid(p:Xk):Prop where (l:PlL p) (r:RightP p)
theorem Valid.n{p:Xk}(h:Valid p):p.Xj.length<=1000:=by have:=h.r.ports;omega
theorem Valid.set{p:Xk}(h:Valid p){k:Nat}(s:k<p.Xj.length){x:Xy}(j:x.Xg=p.Xj[k].Xg)(f:h6_ x=true)(q:PortL x):Valid (Xk.mk p.Xd (p.Xj.set k x)):=⟨h.l.set q,h.r.set s j f⟩
theorem permitted_eq{id:Int}{b:Nat}(f:((b:Nat):Int)<=3):∃y,e8_ id (b:Int)=some y/\hZ_ id (b:Int)=some y:=by
 unfold e8_ hZ_;cases id==2 with
 | true =>
  refine⟨_,rfl,?_⟩;rcases(show b=0\/b=1\/b=2\/b=3 by omega)with rfl|rfl|rfl|rfl<;>rfl
 | false=>cases id==3<;>exact⟨_,rfl,rfl⟩
theorem open_both {p:Xk} (h:Valid p) {id mode:Int} (J : -9223372036854775808<=mode/\mode<=9223372036854775807):∃r,gv_ p id mode=some r/\kX_ p id mode=some r/\Valid r.1:=by
 unfold gv_ kX_;rw[own_eq h.r.own,mo_ h.n,i8_ h.n];simp only[qBs];cases M:fs_ p id with
 | false=>exact⟨_,rfl,rfl,h⟩
 | true =>
  simp only[qN,qZ];rcases Int.lt_or_le mode 0 with f|D
  .rw[qK (andNot_neg f J.1),jM,qW];have s:g8_ mode=some (0,false):=by
    unfold g8_;rw[qK f];rfl
   rw[s];exact⟨_,rfl,rfl,h⟩
  .obtain ⟨a,rfl⟩:∃a:Nat,mode=(a:Int):=⟨mode.toNat,by omega⟩;have u:a<2^63:=by omega
   rw[andNot_80 u,base_nat u,and_64 u];simp only[qBs];rw[qV (show ¬((j6_ a:Nat):Int)<0 by omega),zX];by_cases s:((j6_ a:Nat):Int)<=3
   .rw [qK s,qV (show ¬((j6_ a:Nat):Int)>3 by omega)];simp only[qN,qZ];cases Z:id==1 with
    | true =>
     rw[qm];cases(a:Int) != 0<;>exact⟨_,rfl,rfl,h⟩
    | false =>
     rw[zd];simp only[qZ];rw[show(64:Int)=((64:Nat):Int)from rfl,hasN_eq u (by omega)];simp only[qBs];obtain⟨y,Y,V⟩:=permitted_eq (id:=id) s;rw[Y,V];cases decide (a/64%2=1)with
     | true=>exact⟨_,rfl,rfl,h⟩
     | false =>
      simp only[qZ,qBs];cases y with
      | false=>exact⟨_,rfl,rfl,h⟩
      | true =>
       simp only[qN,qZ];by_cases C:id<4
       .rw[qK C];exact⟨_,rfl,rfl,h⟩
       .rw[qV C];simp only[qZ];obtain⟨k,j,G⟩:=port_id h.n M C;rw[G,aq_ j];simp only[qBs];obtain⟨g1,⟨g2,g3,U,g5⟩,O⟩:=h.r.good (qk j);by_cases F:p.Xj[k].Xc>=9007199254740991
        .rw[qK F];exact⟨_,rfl,rfl,h⟩
        .rw[qV F,ne_ h.n j,ar_ ⟨by omega,by omega⟩];have x:=h.l.port _ (qk j);refine⟨_,rfl,rfl,h.set j rfl ((iF_ _).2 ⟨g1,⟨?_,?_,U,λe => ?_⟩,O⟩) ⟨x.nm,x.q,x.ms⟩⟩
         .show 0<=p.Xj[k].Xc+1;omega
         .show p.Xj[k].Xc+1<=_;omega
         .have:p.Xj[k].Xc+1=0:=e;omega
   .rw[qV s,qK (show((j6_ a:Nat):Int)>3 by omega)];exact⟨_,rfl,rfl,h⟩
theorem text_len{l:tL Xw}(h:(ev_ l).2=0):(ev_ l).1.length<=33281*64:=by
 obtain⟨p,j,f⟩:=textV_ok h;rw[f];exact zQ (pk_ l j) (Nat.mul_le_mul_left _ p)
theorem part_both{s:tX}(F:s.length<=1000000000){o c:Int}(G:0<=o)(p:o<=9223372036854775807)(J:0<=c)(D:c<=65536):∃y,((aP_ s (cz_ o (s.length:Int)) (s.length:Int)).bind λy4=>aP_ y4 0 (cz_ c (y4.length:Int)))=some y /\
  (bif decide (o>=(s.length:Int))then some []else aP_ s o (w64 (o+cz_ c (w64 ((s.length:Int)-o)))))=some y:=by
 rcases Int.lt_or_le o (s.length:Int)with x|f
 .obtain⟨i,rfl⟩:∃i:Nat,o=(i:Int):=⟨o.toNat,by omega⟩;have j:cz_ (i:Int) (s.length:Int)=(i:Int):=by unfold cz_;rw[qP (by omega)]
  have h:w64 ((s.length:Int)-(i:Int))=(s.length:Int)-(i:Int):=ar_ ⟨by omega,by omega⟩;rw[j,h,ax_ (by omega) (by omega) (qt _),qV (show ¬(i:Int)>=(s.length:Int)by omega)];simp only[qBs,qZ,qTn,qb];have C:((s.drop i).length:Int)=(s.length:Int)-(i:Int):=by rw[qC];omega
  rw[C];obtain⟨m,u,q⟩:∃m:Nat,cz_ c ((s.length:Int)-(i:Int))=(m:Int)/\(m:Int)<=(s.length:Int)-(i:Int):=by
   unfold cz_;split
   .exact⟨s.length-i,by omega,by omega⟩
   .exact⟨c.toNat,by omega,by omega⟩
  rw[u,ar_ ⟨by omega,by omega⟩,ax_ (qt 0) (by omega) (by omega),ax_ (by omega) (by omega) (by omega)];refine⟨_,rfl,?_⟩
  congr 1
  rw[qTn,qTn,show((i:Int)+(m:Int)).toNat=i+m by omega,jN,zO,jC,Nat.add_sub_cancel_left]
 .have j:cz_ o (s.length:Int)=(s.length:Int):=by unfold cz_;split<;>omega
  rw[j,ax_ (by omega) (by omega) (qt _),qK f];simp only[qBs,qW,qTn,qb,ze,qQ];have h:cz_ c ((0:Nat):Int)=0:=by unfold cz_;split<;>omega
  rw[h];exact⟨[],rfl,rfl⟩
theorem minI_range{c:Int}(f:0<=c):0<=cz_ c 65536/\cz_ c 65536<=65536:=by
 unfold cz_;split<;>omega
theorem read_both {p:Xk} (h:Valid p) {id o c:Int} (ho:o<=9223372036854775807):∃r,fj_ p id o c=some r/\kY_ p id o c=some r/\Valid r.1:=by
 unfold fj_ kY_;rw[own_eq h.r.own,mo_ h.n,i8_ h.n];simp only[qBs];cases G:fs_ p id with
 | false=>exact⟨_,rfl,rfl,h⟩
 | true =>
  simp only[qN,qZ];cases h1:id==1 with
  | true=>exact⟨_,rfl,rfl,h⟩
  | false =>
   simp only[qZ];cases ha:decide (o<0)||decide (c<0)with
   | true=>exact⟨_,rfl,rfl,h⟩
   | false =>
    rw[zS,qDf,qDf]at ha;obtain⟨Y,V⟩:=minI_range (c:=c) (by omega);generalize cz_ c 65536=U at *
    simp only[qZ];cases h3:id==3 with
    | true=>exact⟨_,rfl,rfl,h⟩
    | false =>
     simp only[qZ];cases h2:id==2 with
     | true =>
      simp only[qW];rw[text_eq23,pl_];simp only[qBs];have x:=text_len h.r.text;obtain⟨y,e1,u⟩:=part_both (s:=(ev_ p.Xd).1) (by omega) (o:=o) (c:=U) (by omega) ho Y V;obtain⟨y4,e3,e4⟩:=bind_some e1;rw[e3];simp only[qBs];rw[e4];refine⟨(p,y,false,0),rfl,?_,h⟩;cases F:decide (o>=((ev_ p.Xd).1.length:Int))with
      | true =>
       rw[F]at u;rw[←qSj u];rfl
      | false =>
       rw[F]at u;simp only[qZ]at u ⊢;rw[u];rfl
     | false =>
      simp only[qZ];have h4:¬id<4:=by
       unfold fs_ at G;rw[qAn,qDe,qDe]at G;rw[qX]at h1 h2 h3;omega
      obtain⟨k,q,Z⟩:=port_id h.n G h4;rw[Z,aq_ q];simp only[qBs];obtain⟨g1,⟨g2,g3,M,O⟩,J⟩:=h.r.good (qk q);have x:=h.l.port _ (qk q);cases D:p.Xj[k].Xn with
      | nil=>exact⟨_,rfl,rfl,h⟩
      | cons m Q =>
       rw[D]at M O J;rw[show(((m::Q).length:Int)==0)=false from qX.2 (by simp only[qLc];omega),show ah_ (m::Q) 0=some m from rfl];simp only[qZ,qBs];have j:=x.ms m (by rw[D];exact qT);rw[kv_ j.1,fH_ j.1,qL (J m qT).1];simp only[qBs,zV,qm];cases F:decide (((cj_ m).length:Int)>U)with
       | true=>exact⟨_,rfl,rfl,h⟩
       | false =>
        simp only[qZ,qBs,qy];have hs:aP_ (m::Q) 1 ((m::Q).length:Int)=some Q:=by
         rw[ax_ (by omega) (by simp only[qLc];omega) (qt _),qTn,qb];rfl
        rw[hs];simp only[qBs];rw[ne_ h.n q];refine⟨_,rfl,rfl,h.set q rfl ((iF_ _).2 ⟨g1,⟨g2,g3,?_,λe => ?_⟩,λC f=>J C (qG _ f)⟩) ⟨x.nm,?_,λC f=>x.ms C (by rw[D];exact qG _ f)⟩⟩
        .simp only[qLc]at M;show Q.length<=64;omega
        .have:=O e;cases this
        .simp only[qLc]at M;show Q.length<=_;omega
theorem close_both{p:Xk}(h:Valid p){id mode:Int}:∃r,hY_ p id mode=some r/\jX_ p id mode=some r/\Valid r:=by
 unfold hY_ jX_;rw[own_eq h.r.own,mo_ h.n,i8_ h.n];simp only[qBs];by_cases u:id<4
 .rw[qK u];exact⟨_,rfl,rfl,h⟩
 .rw [qV u];simp only[qZ];cases D:fs_ p id with
  | false=>exact⟨_,rfl,rfl,h⟩
  | true =>
   obtain⟨k,f,C⟩:=port_id h.n D u;simp only[qN,qZ,qBs];rw[C,aq_ f];simp only[qBs];obtain⟨g1,⟨O,M,G,J⟩,F⟩:=h.r.good (qk f);have j:=h.l.port _ (qk f);cases y:p.Xj[k].Xc==0 with
   | true=>exact⟨_,rfl,rfl,h⟩
   | false =>
    rw[qX]at y;simp only[qZ];rw[ar_ ⟨by omega,by omega⟩];cases x:p.Xj[k].Xc-1==0 with
    | true =>
     rw[qn]at x;simp only[qW,qBs,qTn,List.set_set];rw[ne_ h.n f];refine⟨_,rfl,rfl,h.set f rfl ((iF_ _).2 ⟨g1,⟨?_,?_,qO _,λ_=>rfl⟩,λm s=>(nomatch s)⟩) ⟨j.nm,qO _,λm s=>(nomatch s)⟩⟩
     .show 0<=p.Xj[k].Xc-1;omega
     .show p.Xj[k].Xc-1<=_;omega
    | false =>
     rw[qX]at x;simp only[qZ,qBs,qTn];rw[ne_ h.n f];refine⟨_,rfl,rfl,h.set f rfl ((iF_ _).2 ⟨g1,⟨?_,?_,G,λe=>absurd e x⟩,F⟩) ⟨j.nm,j.q,j.ms⟩⟩
     .show 0<=p.Xj[k].Xc-1;omega
     .show p.Xj[k].Xc-1<=_;omega
noncomputable def sendV(p:Xk)(m:Xq):Xk×Int:=sendW p m (cu_ p.Xd m)
theorem mJ_{l:tL Xw}{m:Xq}(h:AttrL m.Xm)(e:(cu_ l m).2.2=true):AttrL (cu_ l m).1.Xm/\bf_ (cu_ l m).1=0:=⟨routeV_attr h,routeV_ok h e⟩
theorem send_eq{p:Xk}(h:Valid p){m:Xq}(f:AttrL m.Xm):cB_ p m=some (sendV p m):=send_gen h.r.own f (route_eq h.l.rules f) (mJ_ f)
theorem refSend_eq{p:Xk}(h:Valid p){m:Xq}(F:AttrL m.Xm):hc_ p m=some (sendV p m):=by
 unfold hc_ sendV sendW;rw[fH_ F];simp only[qBs];by_cases u:bf_ m=0
 .rw [qL u,u];simp only[qy,qZ,zV,qW];rw[refRoute_eq h.l.rules F];simp only[qBs];have ht:(bif(!(cu_ p.Xd m).2.2)then some (m.Xe,m)else some ((cu_ p.Xd m).2.1,(cu_ p.Xd m).1))=some ((df_ (cu_ p.Xd m) m).2,(df_ (cu_ p.Xd m) m).1):=by
   unfold df_;cases(cu_ p.Xd m).2.2<;>rfl
  rw[ht];obtain⟨O,M⟩:=pt_ (mJ_ F) F u;generalize df_ (cu_ p.Xd m) m=o at *
  simp only[qBs];have hs:=bw_ (body:=h3_ p (o.2,o.1)) p.Xj (λi x=>if((!(x.Xg==o.2))||(x.Xc==0))=true then none else some (gE_ p i x o.1)) (au_ h.l.ports) (λi hi=>by
   unfold h3_;rw[aB_ hi,qW,aq_ hi];simp only[qBs];cases Z:(!(p.Xj[i].Xg==o.2))||(p.Xj[i].Xc==0)with
   | true =>
    simp only[qW,zT,dr_];rw[ai_ (by have:=h.n;omega)]
   | false =>
    simp only[qZ,qM,zY,dr_];rw[fH_ O,qL M];simp only[qBs];rw[zS]at Z;unfold gE_;rw[Z.2];obtain⟨g1,⟨g2,g3,g4,g5⟩,g6⟩:=h.r.good (qk hi);by_cases V:65536<(cj_ o.1).length
    .rw[qK V,qK (show((cj_ o.1).length:Int)>65536 by omega)];rfl
    .rw[qV V,qV (show ¬((cj_ o.1).length:Int)>65536 by omega)];simp only[qZ];by_cases U:64<=p.Xj[i].Xn.length
     .rw[qK U,qK (show(p.Xj[i].Xn.length:Int)>=64 by omega)];rfl
     .rw[qV U,qV (show ¬(p.Xj[i].Xn.length:Int)>=64 by omega)];simp only[qZ];rw[md_ (by omega) (by omega)];simp only[qBs];rw[az_ (by simp only[zk];omega) (by simp only[zk];omega)];simp only[qBs];rw[ne_ h.n hi];rfl) (by
   unfold h3_;rw[aM_];rfl)
  refine(bD_ (x:=(p,51)) hs (λr=>rfl) rfl).trans ?_
  congr 1
  cases G:p.Xj.findIdx? (gD_ o.2)with
  | none =>
   rw[List.findIdx?_eq_none_iff]at G;have D:bh_ (λi x=>if((!(x.Xg==o.2))||(x.Xc==0))=true then none else some (gE_ p i x o.1)) 0 p.Xj=none:=scan_none.2 λi x q=>by
    have:=G x (qw q);unfold gD_ at this;rw[this];rfl
   rw[D];rfl
  | some i =>
   obtain⟨s,C,-⟩:=jU.1 G
   dsimp only
   rw[qY s,zu];have f:∀j x,p.Xj[j]? = some x->(x.Xg==o.2)=true->j=i:=λj x q e=>by
    obtain⟨Y,rfl⟩:=qj.1 q;exact name_one h.r Y G (by simpa using e)
   cases J:p.Xj[i].Xc==0 with
   | true =>
    have D:bh_ (λi x=>if((!(x.Xg==o.2))||(x.Xc==0))=true then none else some (gE_ p i x o.1)) 0 p.Xj=none:=scan_none.2 λj x q=>by
     cases e:x.Xg==o.2 with
     | false=>rfl
     | true =>
      obtain rfl:=f j x q e;rw[qY s]at q;rw[←qSj q,J];rfl
    rw[D];unfold gE_;rw[J];rfl
   | false =>
    have D:bh_ (λi x=>if((!(x.Xg==o.2))||(x.Xc==0))=true then none else some (gE_ p i x o.1)) 0 p.Xj=some (gE_ p i p.Xj[i] o.1):=by
     refine scan_first (qY s) ?_ (λj y Y hy => ?_)
     .unfold gD_ at C;rw[C,J];rfl
     .cases e:y.Xg==o.2 with
      | false=>rfl
      | true=>have:=f j y hy e;omega
    rw[D];rfl
 .rw[qP u]
  dsimp only
  rw[zt.2 u,qX.2 u];rfl
theorem sendV_valid {p:Xk} (h:Valid p) {m:Xq} (C:AttrL m.Xm):Valid (sendV p m).1:=by
 unfold sendV sendW;cases F:bf_ m==0 with
 | false=>exact h
 | true =>
  rw[qn]at F;simp only[qW];obtain⟨x,s⟩:=pt_ (mJ_ (l:=p.Xd) C) C F;cases U:p.Xj.findIdx? (gD_ (df_ (cu_ p.Xd m) m).2)with
  | none=>exact h
  | some i =>
   have f:i<p.Xj.length:=(jU.1 U).1
   dsimp only
   rw[qY f,zu];generalize(df_ (cu_ p.Xd m) m).1=n at *
   obtain⟨g1,⟨Z,Y,g4,g5⟩,V⟩:=h.r.good (qk f);have D:=h.l.port _ (qk f);unfold gE_;cases y:p.Xj[i].Xc==0 with
   | true=>exact h
   | false =>
    simp only[qZ];cases O:decide (65536<(cj_ n).length)with
    | true=>exact h
    | false =>
     simp only[qZ];cases J:decide (64<=p.Xj[i].Xn.length)with
     | true=>exact h
     | false =>
      have M:=jq O;have G:=jq J;rw[qX]at y;simp only[qZ];refine h.set f rfl ((iF_ _).2 ⟨g1,⟨Z,Y,?_,λe=>absurd e y⟩,λu j => ?_⟩) ⟨D.nm,?_,λu j => ?_⟩
      .show(p.Xj[i].Xn++[n]).length<=64;rw[qLa,zk];omega
      .rcases qF.1 j with q|q
       .exact V u q
       .rw[qH.1 q];exact⟨s,by omega⟩
      .show(p.Xj[i].Xn++[n]).length<=_;rw[qLa,zk];omega
      .rcases qF.1 j with q|q
       .exact D.ms u q
       .rw[qH.1 q];exact⟨x,by have:=(f5_ s).2.2.2;omega⟩
theorem send_both{p:Xk}(h:Valid p){m:Xq}(f:AttrL m.Xm):∃r,cB_ p m=some r/\hc_ p m=some r/\Valid r.1/\(r.2≠0->r.1=p):=by
 refine⟨sendV p m,send_eq h f,refSend_eq h f,sendV_valid h f,λe => ?_⟩;unfold sendV sendW at e ⊢;cases q:bf_ m==0 with
 | false=>rfl
 | true =>
  rw[q]at e;simp only[qW]at e ⊢;cases j:p.Xj.findIdx? (gD_ (df_ (cu_ p.Xd m) m).2)with
  | none=>rfl
  | some i =>
   rw[j]at e
   dsimp only at e ⊢
   unfold gE_ at e ⊢
   revert e;cases(p.Xj[i]?.getD default).Xc==0 with
   | true=>exact λ_=>rfl
   | false =>
    simp only[qZ];cases decide (65536<(cj_ (df_ (cu_ p.Xd m) m).1).length)with
    | true=>exact λ_=>rfl
    | false =>
     simp only[qZ];cases decide (64<=(p.Xj[i]?.getD default).Xn.length)with
     | true=>exact λ_=>rfl
     | false=>exact λe=>absurd rfl e
theorem write_both {p:Xk} (h:Valid p) {id o:Int} {s:tX} (F:s.length<=6000):∃r,eD_ p id o s=some r/\jW_ p id o s=some r/\Valid r.1:=by
 unfold eD_ jW_;rw[own_eq h.r.own,mo_ h.n,i8_ h.n];simp only[qBs];cases M:fs_ p id with
 | false=>exact⟨_,rfl,rfl,h⟩
 | true =>
  simp only[qN,qZ];cases V:id==1 with
  | true=>exact⟨_,rfl,rfl,h⟩
  | false =>
   simp only[qZ];cases J:decide (o<0)with
   | true=>exact⟨_,rfl,rfl,h⟩
   | false =>
    simp only[qZ];rw[show decide (id>3)=decide (id>=4)from jg.2 (by omega)];cases O:decide (id>=4)with
    | true=>exact⟨_,rfl,rfl,h⟩
    | false =>
     simp only[qZ];cases U:id==2 with
     | true =>
      simp only[qW];rw[rules_eq (by omega),refRules_eq (by omega)];simp only[qBs];cases hr:(dA_ (db_ s) 0 [] []).2.2 != 0 with
      | true=>exact⟨_,rfl,rfl,h⟩
      | false =>
       refine⟨_,rfl,rfl,?_⟩;obtain⟨f,j⟩:=kp_ (db_ s) 0 [] [] (λr hr=>(nomatch hr)) (qO _) (pm_ []) (by simpa using hr);refine⟨⟨?_,λr hr => ?_,h.l.ports,h.l.port⟩,⟨?_,h.r.ports,h.r.each⟩⟩
       .show(dA_ (db_ s) 0 [] []).1.length<=_;omega
       .have:=((ec_ r).1 (f r hr)).2.1;omega
       .show(ev_ (dA_ (db_ s) 0 [] []).1).2=0;rw[textV_of j f]
     | false =>
      simp only[qZ];obtain⟨q,D,C,y⟩:=rQ_ (s:=s) (by omega);rw[D,C];simp only[qBs];cases G:q.2 != 0 with
      | true=>exact⟨_,rfl,rfl,h⟩
      | false =>
       simp only[qZ];obtain⟨r,f1,f2,x,u⟩:=send_both h y;rw[f1,f2];simp only[qBs];cases hr:r.2 != 0 with
       | true =>
        simp only[qW];rw[u (by simpa using hr)];exact⟨_,rfl,rfl,h⟩
       | false=>exact⟨_,rfl,rfl,x⟩
theorem calls_both{p:Xk}(h:Valid p){x:Yf}(y : -9223372036854775808<=x.N_/\x.N_<=9223372036854775807)(u:x.Yg<=9223372036854775807)(D:x.Xl.length<=6000)(C:AttrL x.Yp.Xm):∃q r,l8_ p x=some (q,r)/\k2_ p x=some (q,r)/\Valid q:=by
 unfold l8_ k2_;cases x.Yn==1 with
 | true =>
  obtain⟨r,s,j,f⟩:=open_both h (id:=x.Id_) y;simp only[qW];rw[s,j];exact⟨r.1,_,rfl,rfl,f⟩
 | false =>
  cases x.Yn==2 with
  | true =>
   obtain⟨r,s,j,f⟩:=read_both h (id:=x.Id_) (c:=x.N_) u;simp only[qW,qZ];rw[s,j];exact⟨r.1,_,rfl,rfl,f⟩
  | false =>
   cases x.Yn==3 with
   | true =>
    obtain⟨r,s,j,f⟩:=write_both h (id:=x.Id_) (o:=x.Yg) D;simp only[qW,qZ];rw[s,j];exact⟨r.1,_,rfl,rfl,f⟩
   | false =>
    cases x.Yn==4 with
    | true =>
     obtain⟨r,s,j,f⟩:=close_both h (id:=x.Id_) (mode:=x.N_);simp only[qW,qZ];rw[s,j];exact⟨r,_,rfl,rfl,f⟩
    | false =>
     obtain⟨r,s,j,f,-⟩:=send_both h C;simp only[qZ];rw[s,j];exact⟨r.1,_,rfl,rfl,f⟩
theorem calls_true{p:Xk}{x:Yf}(f:hs_=some true)(h:PlL p)(C : -9223372036854775808<=x.N_/\x.N_<=9223372036854775807)(y:x.Yg<=9223372036854775807)(u:AttrL x.Yp.Xm):dx_ p x=some true:=by
 unfold dx_;obtain⟨b,F,O⟩:=small_ex h;refine al_ F ?_;obtain⟨M,j,-⟩:=short_ex u;rw[j];cases b with
 | false =>
  simp only[qf,qW,qBs,jM,f]
 | true =>
  cases M with
  | false=>simp only[qf,qN,qW,qZ,qBs,jM,f]
  | true =>
   simp only[qN,qZ,qBs,zX];by_cases D:x.Xl.length<=6000
   .rw[qV (show ¬(x.Xl.length:Int)>6000 by omega),refRight_eq h];simp only[qZ,qBs];cases hr:lO_ p with
    | false=>simp only[qf,qW,f,qBs]
    | true =>
     simp only[qN,qZ];obtain⟨q,r,J,G,s⟩:=calls_both ⟨h,(r4_ p).1 hr⟩ C y D u;refine al_ J (al_ G (al_ (same24_refl s.l.same) ?_));simp only[decide_true,jX,qW];rw[right_eq s.l,(r4_ q).2 s.r];simp only[qBs,qW,f]
   .rw[qK (show(x.Xl.length:Int)>6000 by omega)];simp only[qW,qBs,f]
theorem awake_eq:hs_=some true:=by kernel_rfl
theorem str_fit{n:Nat}{s:tX}(h:FitC te n .str s):s.length<=9223372036854775807:=by
 cases n<;>exact h
theorem plumb_fit{n:Nat}{m:Xq}(h:FitL (FitC te (n+1)) (te.flat (.st 3)) (te.fl (.st 3) m)):AttrL m.Xm/\m.Xl.length<=9223372036854775807:=by
 have j:m.Xm.length<=9223372036854775807/\∀a∈m.Xm,FitL (FitC te n) (te.flat (.st 2)) (te.fl (.st 2) a):=h.2.2.2.2.1;exact⟨⟨j.1,λa f=>str_fit (j.2 a f).1,λa f=>str_fit (j.2 a f).2.1⟩,h.2.2.2.2.2.1⟩
theorem plumber_fit{p:Xk}(h:Fit te (.st 5) p):PlL p:=by
 have u:p.Xd.length<=9223372036854775807/\∀r∈p.Xd,FitL (FitC te 3) (te.flat (.st 1)) (te.fl (.st 1) r):=(h 4).1;have s:p.Xj.length<=9223372036854775807/\∀x∈p.Xj,FitL (FitC te 3) (te.flat (.st 4)) (te.fl (.st 4) x):=(h 4).2.1;refine⟨u.1,λr hr => ?_,s.1,λx y => ?_⟩
 .have D:r.Xb.length<=9223372036854775807/\∀q∈r.Xb,FitL (FitC te 2) (te.flat (.st 0)) (te.fl (.st 0) q):=(u.2 r hr).1;exact D.1
 .have j:=s.2 x y;have f:x.Xn.length<=9223372036854775807/\∀m∈x.Xn,FitL (FitC te 2) (te.flat (.st 3)) (te.fl (.st 3) m):=j.2.1;exact⟨j.1,f.1,λm C=>plumb_fit (f.2 m C)⟩
theorem op_fit{x:Yf}(h:Fit te (.st 13) x):(-9223372036854775808<=x.N_/\x.N_<=9223372036854775807)/\x.Yg<=9223372036854775807/\AttrL x.Yp.Xm:=by
 have p:InK .i64 x.Yg:=(h 2).2.2.1;have q:InK .i64 x.N_:=(h 2).2.2.2.1;have j:x.Yp.Xm.length<=9223372036854775807/\∀a∈x.Yp.Xm,FitL (FitC te 1) (te.flat (.st 2)) (te.fl (.st 2) a):=(h 2).2.2.2.2.2.2.2.2.2.1;refine⟨q,p.2,⟨j.1,λa f=>(j.2 a f).1,λa f=>(j.2 a f).2.1⟩⟩
theorem pu_(x0:Xk)(x1:Yf)(h:Fit te (.st 5) x0)(f:Fit te (.st 13) x1):dx_ x0 x1=some true:=calls_true awake_eq (plumber_fit h) (op_fit f).1 (op_fit f).2.1 (op_fit f).2.2
end Go.Proofs.YtfbcbakhdkppoaaGreatDoor
