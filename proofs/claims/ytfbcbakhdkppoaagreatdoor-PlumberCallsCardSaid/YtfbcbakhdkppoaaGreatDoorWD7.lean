/-
 What the statements of this seat hang on,part 7: Of Og K6 Os K7 K8 K9 K10 K11 Num Fa0 Aa Ab Ac Ad Ae Af Ag Ah Ai Aj Ak Al Am An Ao.
-/
import Derived.Test.YtfbcbakhdkppoaaGreatDoorWD6
import Derived.Laws.BitsLemmas
import Derived.KernelRfl
namespace Go.Proofs.YtfbcbakhdkppoaaGreatDoor
open Go.Rt Go.RowKit
structure Sent(x0:Xk)(x1:Xq)(y1:Xk)(m:Xq)(n:tX)(y4:Int)(y5:Xy)(y9:Xq):Prop where
 own:co_ x0=some y1
 ev2:(evS (sH2 x0 x1) sP2 .p sS2 λs1=>evS (sH2 x0 x1) sR5 .p s1 λs2=>evS (sH2 x0 x1) sP6 (.s .p (.s (.dr [0,0,0,1,1] [] true [27,29]) .p)) s2 (sK2 (sH2 x0 x1)))=some (m,n)
 ev3:(evS (sH3 y1 m n) sR8 .p sS3 λs1=>evS (sH3 y1 m n) sB0 sPl0 s1 (sK3 (sH3 y1 m n)))=some y4
 at4:ah_ y1.Xj y4=some y5
 cl:dg_ m=some y9
 rm:∃r,room 104 y5.Xn [y9]=some r
def sG2(q p h f:Nat):Ga:=λj=>if j=1 then some ⟨none,0,0,0,q,0⟩else if j=2 then some ⟨none,0,0,0,p,0⟩else if j=3 then some ⟨none,0,0,0,h,0⟩else if j=4 then some ⟨none,0,0,0,f,0⟩else none
theorem mb_{s q p f n:Nat}(h:5<=n):Fresh (sG2 s q p f) n:=λj u=>by
 unfold sG2;rw[qP (by omega),qP (by omega),qP (by omega),qP (by omega)]
def SentH(z0:Fz)(w0:tS)(y:Xk)(v:tW)(w:tS):Prop:=∃z vr vp,Mx te z0 w0 w z []/\v = .tuple #[.agg #[vr,vp],.int .i64 0]/\RD te z [.sl (.st 1),.sl (.st 4)] (y.Xd,y.Xj,()) [vr,vp]
theorem frH_two{p q o:Rt.Obj te}{i:Nat}(h:frH [(1,p),(2,q)] i=some o):(i=1/\o=p)\/(i=2/\o=q):=by
 unfold frH at h;simp only[aK_]at h;split at h
 .rename_i f;exact .inl ⟨qNb f,(qSj h).symm⟩
 .split at h
  .rename_i f;exact .inr ⟨qNb f,(qSj h).symm⟩
  .cases h
theorem frH_three{p q r o:Rt.Obj te}{i:Nat}(h:frH [(1,p),(2,q),(3,r)] i=some o):(i=1/\o=p)\/(i=2/\o=q)\/(i=3/\o=r):=by
 unfold frH at h;simp only[aK_]at h;split at h
 .rename_i f;exact .inl ⟨qNb f,(qSj h).symm⟩
 .split at h
  .rename_i f;exact .inr (.inl ⟨qNb f,(qSj h).symm⟩)
  .split at h
   .rename_i f;exact .inr (.inr ⟨qNb f,(qSj h).symm⟩)
   .cases h
theorem nT_{α:Type}{l:tL α}(h:l.length=6):∃a b c d e f,l=[a,b,c,d,e,f]:=by
 match l,h with
 | [a,b,c,d,e,f],_=>exact⟨a,b,c,d,e,f,rfl⟩
theorem one_list{α:Type}{l:tL α}(h:l.length=1):∃a,l=[a]:=by
 match l,h with
 | [a],_=>exact⟨a,rfl⟩
section
variable{x0:Xk}{x1:Xq}{y1:Xk}{m:Xq}{n:tX}{y4:Int}{y5:Xy}{y9:Xq}{z0:Fz}{w0:tS}{y10:tL Xq}
def SentJ(z0:Fz)(w0:tS)(y1:Xk)(m:Xq)(y4:Int)(a:Act)(w:tS):Prop :=
 ∃z p h f vr A cap rows Aq capq rq ms,Mx te z0 w0 w z [.box h 27 [vr,.slice A y1.Xj.length cap],.row 66 3 A y1.Xj.length cap rows,.row 39 6 Aq (rq:tL (tL tW)).length capq rq,.box p 27 [.slice none 0 0,.slice none 0 0]] /\
  Env 85 a [(4,.pointer (some ⟨p,0,none⟩)),(6,.pointer (some ⟨h,0,none⟩)),(9,.pointer (some ⟨f,0,none⟩)),(12,.int .i64 y4)]/\RD te z [.sl (.st 1)] (y1.Xd,()) [vr]/\HoleRows z y4.toNat y1.Xj rows Aq capq rq /\
  z.F f/\RD te z (te.flat (.st 3)) (te.fl (.st 3) m) ms/\∀j u,ms[j]? = some u->z.w.cell? ⟨f,j,none⟩=some u
def I15(z:Fz)(f:Nat)(A:tO Addr)(w:tS)(w':tS):Prop:=w.heap.size<=w'.heap.size/\∀k,(z.F k\/k=f\/bX_ A k)->w'.heap[k]? = w.heap[k]?
theorem ld_at{N:Nat}{a:Act}{env:tL (Nat×tW)}{P:tT}{o:tP}{w:tS}{b off:Nat}{T T':tN}{cs:tL tW}{v:tW}{x:tI}(C:Env N a env)(s:o.op = .load T x)(f:opv env x=some (.pointer (some ⟨b,off,none⟩)))(y:w.heap[b]? = some (.cells cs.toArray T' (0,0)))
  (p:eA_ P T cs off=some v):(execOp a.eval o).run P w = .ok (.value v) w:=by
 have h:=d4_ (P:=P) (b:=b) (base:=0) p (w:=w) (λj u q=>by
  rw[qh,cell_of_row w b j cs.toArray T' (0,0) y];simpa using q)
 rw[qh]at h;exact Rt.run_load s (C.eval f) h
theorem clone_call(J:dg_ m=some y9){w:tS}{z:Fz}{L:tL Res}(Z:Mx te z0 w0 w z L){ms:tL tW}(G:RD te z (te.flat (.st 3)) (te.fl (.st 3) m) ms) :
  Ret Tryz.prog 52 #[.agg ms.toArray] w λv w'=>∃z' vs,Mx te z0 w0 w' z' L/\z.Le z'/\v = .agg vs.toArray/\RD te z' (te.flat (.st 3)) (te.fl (.st 3) y9) vs/\Chg [] w w':=by
 obtain⟨rh,bh,hk,y⟩:=ok_52.1 _ (m,()) (λrh _=>some rh) (y9,()) (by
  show(dg_ m).bind _=_;rw[J];rfl)
 obtain rfl:=qSj hk;refine Ret.mono (y w z (λ_=>none) [] [.agg (te.cells (.st 3) m)] [.agg ms.toArray] rfl ((Z.hr _).less λi o e=>e) (λ_ _=>rfl) (.cons ⟨ms,rfl,cells_rd.1 G⟩ .nil)) ?_
 rintro v w' ⟨z',g',svr,V,_,hg,D,hv,U⟩;obtain rfl:=qSj D;obtain⟨vs,rfl,C⟩:=hv;have q:upH (λ_=>none) (cY_ te [(.st 3,[none,none,none,none,some 87])] (y9,()) 0++aY_ te [.d (.st 3)] (dJ_ te [.d (.st 3)] (m,()) bh) 0 (0+1)) 0=some (.row 87 (.st 2) y9.Xm []):=rfl;obtain⟨l,rows,hl,hn,Y,u,s⟩:=ma_ U q;have O:=Z.step U V [(0,.row 87 (te.size (.st 2)) l.A y9.Xm.length l.cap rows)] (λp hp=>by
  obtain rfl:=qH.1 hp;exact⟨_,q,s⟩) (by simp)
 obtain⟨M,f,F⟩:=O.freeze;refine⟨_,vs,M,V.trans f,rfl,?_,U.chg⟩;have h:All2 (RC Tryz.prog te z' g') [.dt .str y9.Xu,.dt .str y9.Xe,.dt .str y9.Yz,.dt .str y9.Xt,.own 0,.dt .str y9.Xl] vs:=C;cases h with
 | cons c0 h =>
 cases h with
 | cons c1 h =>
 cases h with
 | cons c2 h =>
 cases h with
 | cons c3 h =>
 cases h with
 | cons c4 h =>
 cases h with
 | cons c5 h =>
 cases h
 obtain⟨l',gl',rfl⟩:=c4;obtain rfl:=qSj (hl.symm.trans gl');rw[hn];refine RD.cons (RD.le c0 f) (RD.cons (RD.le c1 f) (RD.cons (RD.le c2 f) (RD.cons (RD.le c3 f) ?_)));exact .sl F (Own.cap_le s.2.1.1).1 (λj x r h7 h8=>(u.le f) j x r h7 h8) (RD.le c5 f)
set_option maxRecDepth 100000 in
theorem send_end(hs:Sent x0 x1 y1 m n y4 y5 y9)(hr:room 104 y5.Xn [y9]=some y10){a:Act}{w:tS}(hJ:SentJ z0 w0 y1 m y4 a w) :
  (Code.seq sR15 (.seq sR16 .ret)).wp Tryz.prog (bodyPost Tryz.prog fSend λe w'=>∃v,e = .returned v/\SentH z0 w0 ⟨y1.Xd,y1.Xj.set y4.toNat ⟨y5.Xg,y10,y5.Xc⟩⟩ v w') a w:=by
 obtain⟨z,b4,s,b9,vr,A,cap,rows,Aq,capq,rq,ms,C,hE,ZF,hh,YL,ZC,YQ⟩:=hJ;obtain⟨YF,YX,ZW⟩:=d5_ hs.at4;obtain⟨ZX,ZA,YS⟩:=hh.hole y5 YX;obtain⟨m0,m1,m2,m3,m4,m5,rfl⟩:=nT_ ZC.len;rw[ZA]at C;have ZE:=cK_ (C.sep.hold (.row 66 3 A y1.Xj.length cap rows) (by simp));obtain⟨b,off,rfl,_,_⟩:=ZE.2 (by omega);have YP:w.heap[s]? = some (.cells [vr,.slice (some ⟨b,off,none⟩) y1.Xj.length cap].toArray 27 (0,0)):=C.sep.hold (.box s 27 [vr,.slice (some ⟨b,off,none⟩) y1.Xj.length cap]) (by simp);have ZB:∀k,(z.F k\/k=s\/bX_ (some ⟨b,off,none⟩) k)->k<w.heap.size:=λk f=>by
  rcases f with f|f|f
  .exact(C.In k f).1
  .exact C.lt (r := .box s 27 [vr,.slice (some ⟨b,off,none⟩) y1.Xj.length cap]) (by simp) f
  .exact C.lt (r := .row 66 3 (some ⟨b,off,none⟩) y1.Xj.length cap rows) (by simp) f
 have q:∀w1 w2,I15 z s (some ⟨b,off,none⟩) w w1->Ext w1 w2->I15 z s (some ⟨b,off,none⟩) w w2:=λw1 w2 h1 y =>
  ⟨zQ h1.1 y.below.size,λk f=>(y.below.block k (zf (ZB k f) h1.1)).trans (h1.2 k f)⟩
 have Zp:∀w',I15 z s (some ⟨b,off,none⟩) w w'->w'.heap[s]? = some (.cells [vr,.slice (some ⟨b,off,none⟩) y1.Xj.length cap].toArray 27 (0,0)):=λw' h=>(h.2 s (.inr (.inl rfl))).trans YP
 have Zq:∀w',I15 z s (some ⟨b,off,none⟩) w w'->SlF (bX_ (some ⟨b,off,none⟩)) 3 (some ⟨b,off,none⟩) y1.Xj.length rows w':=λw' h=>SlF.local w w' h.1 (λk f=>h.2 k (.inr (.inr f))) ZE
 have YM:∀w',I15 z s (some ⟨b,off,none⟩) w w'->z.In w':=λw' h k f=>⟨zf (C.In k f).1 h.1,(h.2 k (.inl f)).trans (C.In k f).2⟩
 rw[sR15_eq];refine wp_seq (jh_ q [15] [] sOrd (by kernel_rfl) s15_mix ⟨qE _,λ_ _=>rfl⟩ ?_);refine hE_ hE (o:=sR15.at 0) rfl (by kernel_rfl) 69 (by kernel_rfl) rfl (.pointer (some ⟨s,1,none⟩)) (λw' _=>fu_ hE (by kernel_rfl) w') λa1 Zc => ?_
 refine hE_ Zc (o:=sR15.at 1) rfl (by kernel_rfl) 70 (by kernel_rfl) rfl (.slice (some ⟨b,off,none⟩) y1.Xj.length cap) (λw' h=>ld_at Zc (by kernel_rfl:(sR15.at 1).op = .load 25 (.tmp 69)) rfl (Zp w' h) (by kernel_rfl)) λa2 Zh => ?_
 refine hE_ Zh (o:=sR15.at 2) rfl (by kernel_rfl) 71 (by kernel_rfl) rfl (.int .i64 y4) (λw' _=>fu_ Zh (by kernel_rfl) w') λa3 Zi => ?_
 refine hE_ Zi (o:=sR15.at 3) rfl (by kernel_rfl) 72 (by kernel_rfl) rfl (.pointer (some ⟨s,1,none⟩)) (λw' _=>fu_ Zi (by kernel_rfl) w') λa4 Zj => ?_
 refine hE_ Zj (o:=sR15.at 4) rfl (by kernel_rfl) 73 (by kernel_rfl) rfl (.slice (some ⟨b,off,none⟩) y1.Xj.length cap) (λw' h=>ld_at Zj (by kernel_rfl:(sR15.at 4).op = .load 25 (.tmp 72)) rfl (Zp w' h) (by kernel_rfl)) λa5 Zl => ?_
 refine hE_ Zl (o:=sR15.at 5) rfl (by kernel_rfl) 74 (by kernel_rfl) rfl (.int .i64 y4) (λw' _=>fu_ Zl (by kernel_rfl) w') λa6 ZN => ?_
 refine hE_ ZN (o:=sR15.at 6) rfl (by kernel_rfl) 75 (by kernel_rfl) rfl (.pointer (some ⟨b,off+y4.toNat*3,none⟩)) (λw' h => ?_) λa7 Zm => ?_
 .obtain⟨b',off',e,p⟩:=hI_ (P:=Tryz.prog) (by kernel_rfl:(sR15.at 6).op = .indexAddr 25 (.tmp 73) (.tmp 74)) (by kernel_rfl) (by kernel_rfl:aO_ Tryz.prog 66=some 3) (ZN.eval rfl) (ZN.eval rfl) (Zq w' h) rfl hs.at4;cases e
  exact p
 refine hE_ Zm (o:=sR15.at 7) rfl (by kernel_rfl) 76 (by kernel_rfl) rfl (.pointer (some ⟨b,off+y4.toNat*3+1,none⟩)) (λw' _=>fu_ Zm (by kernel_rfl) w') λa8 Zn => ?_
 refine hE_ Zn (o:=sR15.at 8) rfl (by kernel_rfl) 77 (by kernel_rfl) rfl (.slice Aq y5.Xn.length capq) (λw' h=>tx_ (by kernel_rfl:(sR15.at 8).op = .load 34 (.tmp 76)) (Zn.eval rfl) (Zq w' h) rfl ZX rfl (by kernel_rfl)) λa9 Zo => ?_
 refine hE_ Zo (o:=sR15.at 9) rfl (by kernel_rfl) 78 (by kernel_rfl) rfl (.agg #[m0,m1,m2,m3,m4,m5]) (λw' h=>Rt.run_load (by kernel_rfl:(sR15.at 9).op = .load 39 (.tmp 9)) (Zo.eval rfl) ?_) λYy Zd => ?_
 .have:=d4_ (P:=Tryz.prog) (T:=39) (b:=b9) (base:=0) (off:=0) (cs:=[m0,m1,m2,m3,m4,m5]) (v := .agg #[m0,m1,m2,m3,m4,m5]) (by kernel_rfl) (w:=w') (λj u hu=>by
   rw[qh];exact(YM w' h).cell YL (YQ j u hu))
  exact this
 have Zx:∀k,(z.F k\/k=s\/bX_ (some ⟨b,off,none⟩) k)->¬bX_ Aq k:=λk f hq=>by
  rcases f with f|f|f
  .exact C.nfz (r := .row 39 6 Aq y5.Xn.length capq rq) (by simp) hq f
  .exact(qz.1 (qz.1 C.sep.apart).2).1 (.row 39 6 Aq y5.Xn.length capq rq) (by simp) (.inl trivial) k f hq
  .exact(qz.1 (qz.1 (qz.1 C.sep.apart).2).2).1 (.row 39 6 Aq y5.Xn.length capq rq) (by simp) (.inl trivial) k f hq
 refine li_ (o:=sR15.at 10) rfl λw' y => ?_
 refine st_call Zd (by kernel_rfl) 79 (by kernel_rfl) rfl 52 #[.agg #[m0,m1,m2,m3,m4,m5]] (by kernel_rfl) _ (clone_call hs.cl (C.ext y) ZC) λYz YG ZL hR Ze => ?_
 obtain⟨z1,vs,Zr,YY,rfl,ZQ,Zy⟩:=hR;obtain⟨U,O,M,J,G,D,rfl⟩:=nT_ ZQ.len;refine⟨λ_ hI=>q w' ZL (q w w' hI y) (Ext.of_below Zy.below),?_⟩;refine li_ (o:=sR15.at 11) rfl λw' y => ?_
 refine go_slice Ze (Zr.ext y).sep (by kernel_rfl) 80 (by kernel_rfl) rfl 39 6 1 [[U,O,M,J,G,D]] (λ_=>by kernel_rfl) rfl (λr hr=>by obtain rfl:=qH.1 hr;rfl) rfl λYA ZM A8 ZH ZY ZT => ?_
 refine⟨λ_ hI=>q w' ZM (q ZL w' hI y) ZH,?_⟩;refine li_ (o:=sR15.at 12) rfl λw' y => ?_
 have Zz:=cK_ ((ZT.ext y).hold (.row 39 6 A8 1 1 [[U,O,M,J,G,D]]) (by simp));obtain⟨A',cap',Za,p,Zt,ZP,ZD⟩:=nf_ (P:=Tryz.prog) (k:=4) (by kernel_rfl:(sR15.at 12).op = .call { callee := .builtin .append,args := #[.tmp 77,.tmp 80],argTypes := #[34,34] }) (mM_ (t:=34) (e:=39) (c:=6) (bytes:=104) (by kernel_rfl) (by kernel_rfl)) (ZY.eval rfl) (ZY.eval rfl) (ZT.ext y) rfl Zz (λr hr=>by
  obtain rfl:=qH.1 hr;exact RD.cells ZQ) rfl rfl hr (λr hr=>by obtain rfl:=qH.1 hr;rfl)
 refine gp_ ZY (by kernel_rfl) 81 (by kernel_rfl) rfl _ p λYB ZZ => ?_
 refine⟨λ_ hI => ?_,?_⟩
 .have h1:=q ZM w' hI y;exact⟨zQ h1.1 ZP.size,λk f=>(ZD k (zf (ZB k f) h1.1) (Zx k f)).trans (h1.2 k f)⟩
 refine li_ (o:=sR15.at 13) rfl λw' y => ?_
 have ZU:=Zt.ext y;obtain⟨b',off',e,p⟩:=hI_ (P:=Tryz.prog) (by kernel_rfl:(sR15.at 13).op = .indexAddr 25 (.tmp 70) (.tmp 71)) (by kernel_rfl) (by kernel_rfl:aO_ Tryz.prog 66=some 3) (ZZ.eval rfl) (ZZ.eval rfl) (cK_ (ZU.hold (.row 66 3 (some ⟨b,off,none⟩) y1.Xj.length cap rows) (by simp))) rfl hs.at4;cases e
 refine gp_ ZZ (by kernel_rfl) 82 (by kernel_rfl) rfl _ p λYC Zf => ?_
 refine⟨λ_ hI=>q Za w' hI y,?_⟩;refine li_ (o:=sR15.at 14) rfl λw2 ZI => ?_
 refine im_ Zf (by kernel_rfl) 83 (by kernel_rfl) rfl (.pointer (some ⟨b,off+y4.toNat*3+1,none⟩)) (by kernel_rfl) λYI Z => ?_
 refine⟨λ_ hI=>q w' w2 hI ZI,?_⟩;refine li_ (o:=sR15.at 15) rfl λw3 YW => ?_
 have Zu:=(ZU.ext ZI).ext YW;have YV:eF_ vr=true:=RD.cell ZF;refine go_put (j:=1) (i:=y4.toNat) (r:=[S y5.Xg,.slice Aq y5.Xn.length capq,.int .i64 y5.Xc]) (r':=[S y5.Xg,.slice A' (y5.Xn.length+1) cap',.int .i64 y5.Xc]) (L':=[.row 39 6 A8 1 1 [[U,O,M,J,G,D]],.ro z1.F z1.In,.box s 27 [vr,.slice (some ⟨b,off,none⟩) y1.Xj.length cap],.row 66 3 (some ⟨b,off,none⟩) y1.Xj.length cap (rows.set y4.toNat [S y5.Xg,.slice A' (y5.Xn.length+1) cap',.int .i64 y5.Xc]),.row 39 6 A' (y5.Xn.length+1) cap' (rq++[[U,O,M,J,G,D]]),.box b4 27 [.slice none 0 0,.slice none 0 0]]) Z Zu (by kernel_rfl) (by kernel_rfl) 3 (by kernel_rfl:(sR15.at 15).op = .store 34 (.tmp 83) (.tmp 81)) rfl rfl rfl rfl ZX rfl (by kernel_rfl) (by kernel_rfl) rfl rfl rfl rfl λZb Zv => ?_
 refine⟨λh=>(by cases h),λX d => ?_⟩;show(Code.seq sR16 .ret).wp _ _ YI (Zb.ext X d);have ZV:=Zv.ext ⟨X,d,rfl⟩;rw[sR16_eq];refine ka_ (λa' w'=>Env 85 a' [(4,.pointer (some ⟨b4,0,none⟩)),(5,.int .i64 0)]/\Sep [] w0 w' [.row 39 6 A8 1 1 [[U,O,M,J,G,D]],.ro z1.F z1.In,.box s 27 [vr,.slice (some ⟨b,off,none⟩) y1.Xj.length cap],.row 66 3 (some ⟨b,off,none⟩) y1.Xj.length cap (rows.set y4.toNat [S y5.Xg,.slice A' (y5.Xn.length+1) cap',.int .i64 y5.Xc]),.row 39 6 A' (y5.Xn.length+1) cap' (rq++[[U,O,M,J,G,D]]),.box b4 27 [vr,.slice (some ⟨b,off,none⟩) y1.Xj.length cap]]) (λa' w' ⟨YK,Zs⟩ => ?_) (iG_ ?_)
 .refine wp_ret (out (N:=85) (rs:=[.cell 4 27,.tmp 5]) (vs:=[.agg #[vr,.slice (some ⟨b,off,none⟩) y1.Xj.length cap],.int .i64 0]) (by kernel_rfl) YK Zs (.cons (.cell (i:=5) rfl rfl (by kernel_rfl)) (.cons (.tmp rfl) .nil)) ?_);have ZO:Mx te z0 w0 w' z1 [.row 39 6 A' (y5.Xn.length+1) cap' (rq++[[U,O,M,J,G,D]]),.row 66 3 (some ⟨b,off,none⟩) y1.Xj.length cap (rows.set y4.toNat [S y5.Xg,.slice A' (y5.Xn.length+1) cap',.int .i64 y5.Xc])] :=
   (Zr.of_sep Zs (l:=[.row 66 3 (some ⟨b,off,none⟩) y1.Xj.length cap (rows.set y4.toNat [S y5.Xg,.slice A' (y5.Xn.length+1) cap',.int .i64 y5.Xc]),.row 39 6 A' (y5.Xn.length+1) cap' (rq++[[U,O,M,J,G,D]])]) (.cons _ (.cons_cons _ (.cons _ (.cons_cons _ (.cons_cons _ (.cons _ .slnil)))))) (λr hr=>by
    simp only[qD,jo,or_false]at hr;rcases hr with rfl|rfl<;>trivial)).perm (List.Perm.swap _ _ _)
  obtain⟨YN,YZ,YU⟩:=ZO.freeze;obtain⟨YO,ZK,ZG⟩:=YN.freeze;have ZJ:=YZ.trans ZK;have ZR:=YY.trans ZJ;have V:y5.Xn.length+1<=cap':=(Own.cap_le (ZO.sep.hold (.row 39 6 A' (y5.Xn.length+1) cap' (rq++[[U,O,M,J,G,D]])) (by simp)).1).1;have Y:y1.Xj.length<=cap:=(Own.cap_le (ZO.sep.hold (.row 66 3 (some ⟨b,off,none⟩) y1.Xj.length cap (rows.set y4.toNat [S y5.Xg,.slice A' (y5.Xn.length+1) cap',.int .i64 y5.Xc])) (by simp)).1).1;obtain⟨_,_,rfl⟩:=j9_ hr;have YR:(y5.Xn++[y9]).length=y5.Xn.length+1:=by simp
  have YT:(y1.Xj.set y4.toNat ⟨y5.Xg,y5.Xn++[y9],y5.Xc⟩).length=y1.Xj.length:=jF;refine⟨_,vr,_,YO,rfl,RD.cons (ZF.le ZR) ?_⟩;rw[←YT]at Y ZG ⊢;refine .sl ZG Y (λk x r h7 h8 => ?_) .nil
  replace h7:(y1.Xj.set y4.toNat (Xy.mk y5.Xg (y5.Xn++[y9]) y5.Xc))[k]? = some x:=h7;by_cases f:y4.toNat=k
  .subst f;rw[jK,qL rfl,qL ZW]at h7;rw[jK,qL rfl,qL (by rw[hh.len];exact ZW)]at h8;obtain rfl:=qSj h7;obtain rfl:=qSj h8;have hq:=SlF.le YU ZK;rw[←YR]at hq V ⊢;refine .str (.sl hq V ?_ (.int .nil));exact(YS.le ZR).append (λi' x' r' h9 YJ=>by
    obtain rfl:i'=0:=Nat.lt_one_iff.1 (qj.1 h9).1;obtain rfl:=qSj h9;obtain rfl:=qSj YJ;exact ZQ.le ZJ) ZA
  .rw[jK,qP f]at h7;rw[jK,qP f]at h8;exact(hh.other k x r (λe=>f e.symm) h7 h8).le ZR
 .refine gp_ Z (by kernel_rfl) 84 (by kernel_rfl) rfl (.agg #[vr,.slice (some ⟨b,off,none⟩) y1.Xj.length cap]) (ld_box Z ZV 2 (by kernel_rfl:(sR16.at 0).op = .load 27 (.tmp 6)) rfl rfl (by kernel_rfl)) λYD ZS => ?_
  refine go_set (L':=[.row 39 6 A8 1 1 [[U,O,M,J,G,D]],.ro z1.F z1.In,.box s 27 [vr,.slice (some ⟨b,off,none⟩) y1.Xj.length cap],.row 66 3 (some ⟨b,off,none⟩) y1.Xj.length cap (rows.set y4.toNat [S y5.Xg,.slice A' (y5.Xn.length+1) cap',.int .i64 y5.Xc]),.row 39 6 A' (y5.Xn.length+1) cap' (rq++[[U,O,M,J,G,D]]),.box b4 27 [vr,.slice (some ⟨b,off,none⟩) y1.Xj.length cap]]) ZS ZV (by kernel_rfl) (by kernel_rfl) 5 (by kernel_rfl:(sR16.at 1).op = .store 27 (.tmp 4) (.tmp 84)) rfl rfl rfl (by kernel_rfl) (by kernel_rfl) (o2_ YV rfl) [vr,.slice (some ⟨b,off,none⟩) y1.Xj.length cap] (by kernel_rfl) rfl λYH Zw => ?_
  refine im_ ZS (by kernel_rfl) 5 (by kernel_rfl) rfl (.int .i64 0) (by kernel_rfl) λYE Zg => ?_
  exact⟨Zg.sel ⟨rfl,rfl,trivial⟩,Zw⟩
set_option maxRecDepth 100000 in
theorem send_hole(hs:Sent x0 x1 y1 m n y4 y5 y9)(hr:room 104 y5.Xn [y9]=some y10){w:tS}{z:Fz}(hz:z.In w)(hg:Glo te z){v0 v1:tW}
  (ZJ:RV Tryz.prog te z (λ_=>none) (.v (.agg [.dt (.sl (.st 1)) x0.Xd,.dt (.sl (.st 4)) x0.Xj])) v0) (YO:∃ms:tL tW,v1 = .agg ms.toArray/\RD te z (te.flat (.st 3)) (te.fl (.st 3) x1) ms) :
  Ret Tryz.prog 19 #[v0,v1] w (SentH z w ⟨y1.Xd,y1.Xj.set y4.toNat ⟨y5.Xg,y10,y5.Xc⟩⟩):=by
 obtain⟨ZL,rfl,ZG⟩:=ZJ;obtain⟨ms,rfl,Zq⟩:=YO;have ZJ:RV Tryz.prog te z (λ_=>none) (.v (.agg [.dt (.sl (.st 1)) x0.Xd,.dt (.sl (.st 4)) x0.Xj])) (.agg ZL.toArray):=⟨ZL,rfl,ZG⟩;have YN:RD te z (te.flat (.st 5)) (te.fl (.st 5) x0) ZL:=cells_rd.2 ZG;obtain⟨r0,p0,rfl⟩:=two_list' ZG.len.symm;obtain⟨m0,m1,m2,m3,m4,m5,rfl⟩:=nT_ Zq.len;refine enter Tryz.func19 sC_eq (by kernel_rfl) (by kernel_rfl) (N:=85) λa hE => ?_
 have ZT:=Mx.start (E:=te) hz hg;rw[sR0_eq,sR1_eq];refine wp_seq (iG_ ?_);refine go_box hE ZT.sep (by kernel_rfl) 2 (by kernel_rfl) rfl 27 [r0,p0] (λ_=>by kernel_rfl) λa1 w1 b2 _ Yy YG => ?_
 refine go_box Yy YG (by kernel_rfl) 3 (by kernel_rfl) rfl 39 [m0,m1,m2,m3,m4,m5] (λ_=>by kernel_rfl) λa2 w2 b3 _ Yz YH => ?_
 refine go_box Yz YH (by kernel_rfl) 4 (by kernel_rfl) rfl 27 [.slice none 0 0,.slice none 0 0] (λ_=>by kernel_rfl) λa3 w3 b4 _ YA ZF => ?_
 refine im_ YA (by kernel_rfl) 5 (by kernel_rfl) rfl (.int .i64 0) (by kernel_rfl) λa4 Zb => ?_
 show(Code.seq _ _).wp _ _ a4 w3;refine wp_seq (iG_ ?_);refine gp_ Zb (by kernel_rfl) 13 (by kernel_rfl) rfl (.agg #[r0,p0]) (ld_box Zb ZF 2 (by kernel_rfl:(sR1.at 0).op = .load 27 (.tmp 2)) rfl rfl (by kernel_rfl)) λa5 YB => ?_
 have YS:z.In w3:=(ZF.hold (.ro z.F z.In) (by simp)).1;refine st_call YB (by kernel_rfl) 14 (by kernel_rfl) rfl 41 #[.agg #[r0,p0]] (by kernel_rfl) (OwnH z w3 y4.toNat y1) (own_hole hs.own y4.toNat YS hg ZJ) λa6 Yk w4 hO YC => ?_
 obtain⟨z2,vr,A,cap,rows,Aq,capq,rq,Zl,rfl,ZI,hh⟩:=hO;have YD:Mx te z w w3 z [.box b4 27 [.slice none 0 0,.slice none 0 0],.box b3 39 [m0,m1,m2,m3,m4,m5],.box b2 27 [r0,p0]]:=by
  refine⟨ZT.le,ZT.gl,ZT.new,ZF.perm ?_,λr hr => ?_⟩
  .exact List.perm_append_comm (l₁ := [_,_,_]) (l₂ := [_])
  .simp only[qD,jo,or_false]at hr;rcases hr with rfl|rfl|rfl<;>trivial
 have ZU:=YD.call Zl;refine go_box YC ZU.sep (by kernel_rfl) 6 (by kernel_rfl) rfl 27 [.slice none 0 0,.slice none 0 0] (λ_=>by kernel_rfl) λa7 w5 b6 _ Zc YI => ?_
 have YP:eF_ vr=true:=RD.cell ZI;refine go_set (L':=[.box b6 27 [vr,.slice A y1.Xj.length cap],.ro z2.F z2.In,.row 66 3 A y1.Xj.length cap rows,.row 39 6 Aq rq.length capq rq,.box b4 27 [.slice none 0 0,.slice none 0 0],.box b3 39 [m0,m1,m2,m3,m4,m5],.box b2 27 [r0,p0]]) Zc YI (by kernel_rfl) (by kernel_rfl) 0 (by kernel_rfl:(sR1.at 3).op = .store 27 (.tmp 6) (.tmp 14)) rfl rfl rfl (by kernel_rfl) (by kernel_rfl) (o2_ YP rfl) [vr,.slice A y1.Xj.length cap] (by kernel_rfl) rfl λw6 YJ => ?_
 show(Code.seq _ _).wp _ _ a7 w6;have YE:Mx te z w w6 z2 [.box b2 27 [r0,p0],.box b3 39 [m0,m1,m2,m3,m4,m5],.box b6 27 [vr,.slice A y1.Xj.length cap],.row 66 3 A y1.Xj.length cap rows,.row 39 6 Aq rq.length capq rq,.box b4 27 [.slice none 0 0,.slice none 0 0]]:=by
  refine⟨ZU.le,ZU.gl,ZU.new,YJ.perm ?_,λr hr => ?_⟩
  .refine(List.Perm.swap _ _ _).trans (List.Perm.cons _ ?_);refine(List.perm_append_comm (l₁ := [_,_,_,_]) (l₂ := [_,_])).trans ?_;exact List.Perm.swap _ _ _
  .simp only[qD,jo,or_false]at hr;rcases hr with rfl|rfl|rfl|rfl|rfl|rfl<;>trivial
 obtain⟨YF,Zw,YK⟩:=YE.freezeBox;obtain⟨Zj,ZV,YL⟩:=YF.freezeBox;have ZQ:=Zl.le.trans (Zw.trans ZV);have Zm:(z2.grow (λk=>k=b2) w6).F b2 := .inr rfl;have J:Rel Tryz.prog te [] ⟨_,sG2 b2 b3 b4 b6,5⟩ w6 85 (sS2.L (bS (sH2 x0 x1))) (sS2.H (bS (sH2 x0 x1))) sS2.nx a7 w6 :=
  Zj.relF (H:=sH2 x0 x1) (lo:=5) (nx:=10) (Zc.sel (sl:=[(2,.pointer (some ⟨b2,0,none⟩)),(3,.pointer (some ⟨b3,0,none⟩)),(4,.pointer (some ⟨b4,0,none⟩)),(6,.pointer (some ⟨b6,0,none⟩))]) ⟨rfl,rfl,rfl,rfl,trivial⟩)
   (.cons ⟨_,rfl,rfl⟩ (.cons ⟨_,rfl,rfl⟩ (.cons ⟨_,rfl,rfl⟩ (.cons ⟨_,rfl,rfl⟩ .nil)))) (mb_ (by decide)) λid o e=>by
   rcases frH_two e with⟨rfl,rfl⟩|⟨rfl,rfl⟩
   .exact⟨.st 5,x0,rfl,_,[r0,p0],rfl,(ZV b2 Zm).1,YN.le ZQ,λj u hu=>ZV.cell Zm (YK j u hu)⟩
   .exact⟨.st 3,x1,rfl,_,[m0,m1,m2,m3,m4,m5],rfl,.inr rfl,Zq.le ZQ,YL⟩
 have G:Fresh (sG2 b2 b3 b4 b6) (bS (sH2 x0 x1)).lo:=mb_ (qE 5);refine wp_seq (frag ad_ js_ G hs.ev2 J λex s1 a8 w8 f J => ?_);cases ex with
 | some _=>cases f
 | none =>
 refine wp_seq (frag ad_ js_ G f J λex s2 a9 w9 f J => ?_);cases ex with
 | some _=>cases f
 | none =>
 refine wp_seq (frag ad_ js_ G f J λex s3 YY ZY f J => ?_);cases ex with
 | some _=>cases f
 | none =>
 show(Code.seq _ _).wp _ _ YY ZY
 replace f:sK2 (sH2 x0 x1) s3=some (m,n):=f;obtain⟨ZM,Yb,y,ZZ,Yn,ZR,ZP⟩:=J;unfold sK2 at f;obtain⟨k4,e4,f⟩:=bind_some f;obtain⟨k6,e6,f⟩:=bind_some f;obtain⟨i9,e9,f⟩:=bind_some f;obtain⟨Zx,Yt,f⟩:=bind_some f;obtain⟨cs,ec,f⟩:=bind_some f;obtain⟨ds,ed,f⟩:=bind_some f;obtain⟨Z,f⟩:=bN_ f;obtain⟨d0,c0,f⟩:=bind_some f;obtain⟨d1,c1,f⟩:=bind_some f;obtain⟨d2,c2,f⟩:=bind_some f;obtain⟨d3,c3,f⟩:=bind_some f;obtain⟨d4,c4,f⟩:=bind_some f;obtain⟨d5,c5,f⟩:=bind_some f;obtain⟨n',c6,f⟩:=bind_some f;injection qSj f with hm hn;subst hn;simp only[qAn,qo]at Z;have YM:i9≠Zx:=bv_ Z.1.1.1;obtain⟨q0,q1,q2,q3,q4,q5,rfl⟩:=nT_ (qNb Z.1.1.2)
 obtain⟨q6,rfl⟩:=one_list (qNb Z.1.2);obtain rfl:=qNb Z.2.1;obtain rfl:=qNb Z.2.2;obtain rfl:=qSj (dZ_ c0);obtain rfl:=qSj (dZ_ c1);obtain rfl:=qSj (dZ_ c2);obtain rfl:=qSj (dZ_ c3);obtain rfl:=qSj (dZ_ c4);obtain rfl:=qSj (dZ_ c5);obtain rfl:=qSj (dZ_ c6);obtain⟨_,t4,l4,Zz,rfl⟩:=y.get 4 _ (cE_ e4);obtain⟨_,t6,l6,ZA,rfl⟩:=y.get 6 _ (cE_ e6);obtain⟨_,t9,l9,ZB,rfl⟩:=y.get 9 _ (cE_ e9);obtain⟨_,YV,ZW,Za,rfl⟩:=y.get 10 _ (cE_ Yt);obtain rfl:=qSj ((ZP 3 _ rfl).symm.trans Zz);obtain rfl:=qSj ((ZP 4 _ rfl).symm.trans ZA);obtain⟨Yh,ZX,Yv,Zu,YU⟩:=kf_ ZZ (b5_ ec);obtain rfl:=qSj (ZB.symm.trans Yv);obtain⟨Yr,M,YZ,ZK,Zy⟩:=kf_ ZZ (b5_ ed)
 obtain rfl:=qSj (Za.symm.trans YZ);have Ze:=Zj.step ZZ ZR [(i9,.box l9.b 39 ZX),(Zx,.box ZW.b 9 M)] (λp hp=>by
  rcases qD.1 hp with rfl|hp
  .exact⟨_,b5_ ec,YU⟩
  .obtain rfl:=qH.1 hp;exact⟨_,b5_ ed,Zy⟩) (by simp[YM])
 have Zp:RD te ZM (te.flat (.st 3)) (te.fl (.st 3) m) ZX:=by
  rw[←hm];exact cells_rd.2 Zu
 have Zr:RD te ZM (te.flat .str) (te.fl .str n') M:=cells_rd.2 ZK;obtain⟨Zf,C,ZO⟩:=Ze.freezeBox;obtain⟨ZN,h,Zn⟩:=Zf.freezeBox;have D:z2.Le _:=Zw.trans (ZV.trans (ZR.trans (C.trans h)));have Y:(ZM.grow (λk=>k=l9.b) ZY).F l9.b := .inr rfl;have ZE:=ZN.perm (L':=[.row 39 6 Aq rq.length capq rq,.row 66 3 A y1.Xj.length cap rows,.box b6 27 [vr,.slice A y1.Xj.length cap],.box b4 27 [.slice none 0 0,.slice none 0 0]]) (by
  refine(List.Perm.cons _ (List.Perm.swap _ _ _)).trans ?_;refine(List.Perm.swap _ _ _).trans ?_;exact List.Perm.cons _ (List.Perm.swap _ _ _))
 obtain⟨Zg,Zv,Zs⟩:=ZE.freeze;obtain⟨Zh,ZS,Zt⟩:=Zg.freeze;obtain⟨Zi,O,Zo⟩:=Zh.freezeBox;have q:=Zv.trans (ZS.trans O);obtain⟨Yd,Ye,Yq⟩:=d5_ hs.at4;have V:rq.length<=capq:=(Own.cap_le (ZE.sep.hold (.row 39 6 Aq rq.length capq rq) (by simp)).1).1;have ZH:y1.Xj.length<=cap:=(Own.cap_le (ZE.sep.hold (.row 66 3 A y1.Xj.length cap rows) (by simp)).1).1;have YQ:RD te _ (te.flat (.st 5)) (te.fl (.st 5) y1) [vr,.slice A y1.Xj.length cap] :=
  RD.cons ((ZI.le D).le q) (.sl (SlF.le Zt O) ZH (λj x r h7 h8=>by
   by_cases hj:j=y4.toNat
   .subst hj;obtain⟨h9,ZC,ZD⟩:=hh.hole x h7;obtain rfl:=qSj (h9.symm.trans h8);have hq:=SlF.le Zs (ZS.trans O);rw[ZC]at hq V;exact .str (.sl hq V (λj x r h7 h8=>((ZD.le D).le q) j x r h7 h8) (.int .nil))
   .exact((hh.other j x r hj h7 h8).le D).le q) .nil)
 have J:Rel Tryz.prog te [] ⟨_,sG2 b6 l9.b ZW.b b4,5⟩ ZY 85 (sS3.L (bS (sH3 y1 m n'))) (sS3.H (bS (sH3 y1 m n'))) sS3.nx YY ZY :=
  Zi.relF (H:=sH3 y1 m n') (lo:=5) (nx:=10) (m:=[(6,.pointer (some ⟨b6,0,none⟩)),(9,.pointer (some ⟨l9.b,0,none⟩)),(10,.pointer (some ⟨ZW.b,0,none⟩)),(4,.pointer (some ⟨b4,0,none⟩))]) (((((Env.of_er y).add t4).add YV).add t9).add t6)
   (.cons ⟨_,rfl,rfl⟩ (.cons ⟨_,rfl,rfl⟩ (.cons ⟨_,rfl,rfl⟩ (.cons ⟨_,rfl,rfl⟩ .nil)))) (mb_ (by decide)) λid o e=>by
   rcases frH_three e with⟨rfl,rfl⟩|⟨rfl,rfl⟩|⟨rfl,rfl⟩
   .exact⟨.st 5,y1,rfl,_,_,rfl,.inr rfl,YQ,Zo⟩
   .exact⟨.st 3,m,rfl,_,ZX,rfl,(q _ (h _ Y).1).1,(Zp.le (C.trans h)).le q,λj u hu=>q.cell (h _ Y).1 (h.cell Y (ZO j u hu))⟩
   .exact⟨.str,n',rfl,_,M,rfl,(q _ (.inr rfl)).1,(Zr.le (C.trans h)).le q,λj u hu=>q.cell (.inr rfl) (Zn j u hu)⟩
 have G:Fresh (sG2 b6 l9.b ZW.b b4) (bS (sH3 y1 m n')).lo:=mb_ (qE 5);refine wp_seq (frag ad_ js_ G hs.ev3 J λex s4 Ya Yl f J => ?_);cases ex with
 | some _=>cases f
 | none =>
 refine wp_seq (frag ad_ js_ G f J λex s5 Ys YX f J => ?_);cases ex with
 | some _=>cases f
 | none =>
 show(Code.seq _ _).wp _ _ Ys YX
 replace f:sK3 (sH3 y1 m n') s5=some y4:=f;obtain⟨Ym,Yc,s,Zd,Yp,YR,U⟩:=J;unfold sK3 at f;obtain⟨k4,e4,f⟩:=bind_some f;obtain⟨k6,e6,f⟩:=bind_some f;obtain⟨k9,e9,f⟩:=bind_some f;obtain⟨Z,f⟩:=bN_ f;simp only[qAn]at Z;obtain rfl:=qNb Z.1.1;obtain rfl:=qNb Z.1.2;obtain rfl:=qNb Z.2;obtain⟨_,t4,l4,Zz,rfl⟩:=s.get 4 _ (cE_ e4);obtain⟨_,t6,l6,ZA,rfl⟩:=s.get 6 _ (cE_ e6);obtain⟨_,t9,Yg,ZB,rfl⟩:=s.get 9 _ (cE_ e9);obtain⟨Yi,YW,YT⟩:=s.get 12 _ (i3_ f);obtain rfl:=qSj ((U 4 _ rfl).symm.trans Zz);obtain rfl:=qSj ((U 1 _ rfl).symm.trans ZA);obtain rfl:=qSj ((U 2 _ rfl).symm.trans ZB);obtain⟨_,ev,_⟩:=RD.int_inv YT
 injection ev with ev _;subst ev;refine send_end hs hr ⟨_,b4,b6,l9.b,vr,A,cap,rows,Aq,capq,rq,ZX,(ZN.ext (Ext.of_below Zd.chg.below)).perm ?_,((((Env.of_er s).add YW).add t9).add t6).add t4,ZI.le D,⟨hh.len,λj x r hj h7 h8=>(hh.other j x r hj h7 h8).le D,λx hx => ?_⟩,(h _ Y).1,Zp.le (C.trans h),λj u hu=>h.cell Y (ZO j u hu)⟩
 .exact List.Perm.refl _
 .obtain⟨h9,ZC,ZD⟩:=hh.hole x hx;exact⟨h9,ZC,ZD.le D⟩
end
noncomputable section
noncomputable def on_(x0:Xk)(x1:Xq):tO (Xk×Int) :=
 (co_ x0).bind λy1 =>
 (d8_ x1).bind λh =>
 (bif(h.2 != 0)then
  some (y1,h.2)
 else
  (d9_ x0.Xd x1).bind λf =>
  Option.bind (
   (bif(!f.2.2)then
    some (x1,x1.Xe)
   else
    some (f.1,f.2.1))
   ) λ(j:Xq×tX) =>
  (aR_ y1.Xj (λ(u:Xy)=>Option.bind (fi_ u j.2) λ(s:tV)=>some s)).bind λy4 =>
  (bif decide (y4<0)then
   some (y1,51)
  else
   (ah_ y1.Xj y4).bind λy5 =>
   (bif(y5.Xc==0)then
    some (y1,51)
   else
    (dw_ j.1).bind λq =>
    (bif(!q)then
     some (y1,4)
    else
     (ah_ y1.Xj y4).bind λp =>
     (bif decide ((p.Xn.length:Int)>=64)then
      some (y1,22)
     else
      none)))))
theorem sendA_ok(x0:Xk)(x1:Xq):on_ x0 x1=gI_ Tryz.prog te eqL tSend fSend [.d (.st 5),.d (.st 3)] [(.st 5,[]),(.int .i64,[])] (.s .p (.s .p (.s .p (.s .p (.j ⟨[],[(32,true,.box 39 (.st 3)),(34,true,.box 9 .str)],[4,6,9,10],[4,8,9,11],[],41⟩ false (.s .p (.s (.dr [0,0,0,1,1] [] true [32,34]) .p)) (.s .p (.s (.s (.ot 0 (.free 0 (.free 1 (.free 2 (.spl 2 (.free 3 (.alt 4 (.free 5 (.alt 6 (.free 7 (.alt 8 (.free 9 (.alt 10 (.free 11 .nil) .nil)) .nil)) .nil)) .nil)) (.free 3 (.alt 4 (.free 5 (.alt 6 (.free 7 (.alt 8 (.free 9 (.alt 10 (.free 11 .nil) .nil)) .nil)) .nil)) .nil))))))) .p) (.s (.sq 0) .p)))))))) (x0,x1,()):=by kernel_rfl
theorem aQ_{α β:Type}{x:tO α}{f:α->tO β}{a:α}{r:β}(h:x=some a)(j:f a=some r):x.bind f=some r:=by rw[h];exact j
theorem send_cases{x0:Xk}{x1:Xq}{r:Xk×Int}(h:cB_ x0 x1=some r) :
  on_ x0 x1=some r\/∃y1 m n y4 y5 y9 y10,Sent x0 x1 y1 m n y4 y5 y9/\room 104 y5.Xn [y9]=some y10/\r=(⟨y1.Xd,y1.Xj.set y4.toNat ⟨y5.Xg,y10,y5.Xc⟩⟩,0):=by
 unfold cB_ at h;obtain⟨y1,s,h⟩:=bind_some h;obtain⟨Y,q,h⟩:=bind_some h;cases j:Y.2 != 0 with
 | true =>
  rw[j]at h;exact .inl (aQ_ s (aQ_ q (by rw[j];exact h)))
 | false =>
 rw[j]at h;obtain⟨y3,C,h⟩:=bind_some (show(d9_ x0.Xd x1).bind _=some r from h);obtain⟨J,y,h⟩:=bind_some h;obtain⟨y4,x,h⟩:=bind_some h;cases p:decide (y4<0)with
 | true =>
  rw[p]at h;exact .inl (aQ_ s (aQ_ q (by rw[j];exact aQ_ C (aQ_ y (aQ_ x (by rw[p];exact h))))))
 | false =>
 rw[p]at h;obtain⟨y5,f,h⟩:=bind_some (show(ah_ y1.Xj y4).bind _=some r from h);cases u:y5.Xc==0 with
 | true =>
  rw[u]at h;exact .inl (aQ_ s (aQ_ q (by rw[j];exact aQ_ C (aQ_ y (aQ_ x (by rw[p];exact aQ_ f (by rw[u];exact h)))))))
 | false =>
 rw[u]at h;obtain⟨V,M,h⟩:=bind_some (show(dw_ J.1).bind _=some r from h);cases F : !V with
 | true =>
  rw[F]at h;exact .inl (aQ_ s (aQ_ q (by rw[j];exact aQ_ C (aQ_ y (aQ_ x (by rw[p];exact aQ_ f (by rw[u];exact aQ_ M (by rw[F];exact h))))))))
 | false =>
 rw[F]at h;obtain⟨y7,h8,h⟩:=bind_some (show(ah_ y1.Xj y4).bind _=some r from h);obtain rfl:=qSj (f.symm.trans h8);cases G:decide ((y5.Xn.length:Int)>=64)with
 | true =>
  rw[G]at h;exact .inl (aQ_ s (aQ_ q (by rw[j];exact aQ_ C (aQ_ y (aQ_ x (by rw[p];exact aQ_ f (by rw[u];exact aQ_ M (by rw[F];exact aQ_ f (by rw[G];exact h)))))))))
 | false =>
 rw[G]at h;obtain⟨y8,h9,h⟩:=bind_some (show(ah_ y1.Xj y4).bind _=some r from h);obtain rfl:=qSj (f.symm.trans h9);obtain⟨y9,U,h⟩:=bind_some h;obtain⟨y10,D,h⟩:=bind_some h;obtain⟨Z,O,h⟩:=bind_some h;obtain rfl:=qSj (f.symm.trans O);obtain rfl:=qSj h;refine .inr ⟨y1,J.1,J.2,y4,y5,y9,y10,⟨s,?_,?_,f,U,_,D⟩,D,rfl⟩
 .rw[sEv2];exact aQ_ q (by rw[j];exact aQ_ C y)
 .rw[sEv3];exact aQ_ x (by rw[p];exact aQ_ f (by rw[u];exact aQ_ M (by rw[F];exact aQ_ f (by rw[G];rfl))))
def c_19:Con te:=ag_ te [.d (.st 5),.d (.st 3)] [(.st 5,[]),qJ] true (qu2 cB_)
theorem ok_19:OKF 19 c_19:=by
 refine⟨?_,by kernel_rfl⟩;intro R a k r hr;obtain⟨x0,x1,u⟩:=a;obtain⟨y,h1,h2⟩:=bind_some (show(cB_ x0 x1).bind _=some r from hr);refine⟨_,_,h2,?_⟩;rcases send_cases h1 with Z|⟨y1,m,n,y4,y5,y9,y10,V,x,rfl⟩
 .exact evFun_ok ad_ js_ Tryz.func19 ((sendA_ok x0 x1).symm.trans Z)
 .intro w z g Bs svs vs O U Y p;obtain rfl:=qSj O;cases p with
  | cons s p =>
  cases p with
  | cons q p =>
  cases p
  obtain⟨j,rfl,M⟩:=s;obtain⟨h,rfl,J⟩:=q;have F:RD te z (te.flat (.st 5)) (te.fl (.st 5) x0) j:=cells_rd.2 M;have D:RD te z (te.flat (.st 3)) (te.fl (.st 3) x1) h:=cells_rd.2 J;refine Ret.mono (send_hole V x U.fz U.gl ⟨j,rfl,cells_rd.1 F⟩ ⟨h,rfl,D⟩) ?_
  rintro v w' ⟨z',vr,vp,f,rfl,C⟩;refine⟨z',g,_,f.le,(λe=>nomatch e),Ga.Le.refl g,rfl,?_,?_⟩
  .exact⟨[.agg #[vr,vp],.int .i64 0],rfl,.cons ⟨[vr,vp],rfl,cells_rd.1 C⟩ (.cons (.int .nil) .nil)⟩
  .exact⟨⟨f.sep.chg.grow,λk G _=>f.sep.chg.block k G (by simp)⟩,(λ_ _ e=>nomatch e),(λ_ _ _ e=>nomatch e),(λ_ _ _ _ _ _ e=>nomatch e),f.In,λk G=>(f.new k G).imp id .inl,(λ_ _ _ e=>nomatch e),f.gl⟩
def c_29:Con te:=ag_ te [.d (.st 5),.d qI,.d qI,.d .str] [(.st 5,[]),qJ,qJ] true (qu4 eD_)
theorem ok_29:OKF 29 c_29:=⟨ab_ ad_ (aa_ ok_19 (aa_ ok_63 (aa_ ok_62 (aa_ ok_42 (aa_ ok_41 ac_))))) Tryz.func29 (by kernel_rfl) (pl := .p) λ_=>by kernel_rfl,by kernel_rfl⟩
def c_43:Con te:=ag_ te [.d qI,.d qI] [qB] false (qu2 e8_)
theorem ok_43:OKF 43 c_43:=⟨ab_ ad_ ac_ Tryz.func43 (by kernel_rfl) (pl := .p) λ_=>by kernel_rfl,by kernel_rfl⟩
def c_16:Con te:=ag_ te [.d (.st 5),.d qI,.d qI] [(.st 5,[some 78,some 66]),qJ] true (qu3 gv_)
theorem ok_16:OKF 16 c_16:=⟨ab_ ad_ (aa_ ok_43 (aa_ ok_42 (aa_ ok_41 ac_))) Tryz.func16 (by kernel_rfl) (pl := .p) λ_=>by kernel_rfl,by kernel_rfl⟩
theorem e_38(a:PA te [.d (.sl (.st 1))]):gT_ a.1=gI_ Tryz.prog te eqL (ti 71 (inlF Tryz.prog te eqL (ti 114 dN_ dX_) Tryz.f71 (.p:Pl)) (tb 70 c_70 (ti 72 fE_ dX_))) Tryz.f38 [.d (.sl (.st 1))] [(.str,[]),qJ] (qp 3 (.s (.s .p (.lp ⟨[(14,.d qI)],[(5,true,.cells 110 [.sbp 5,.own 10]),(10,false,.row 5 (.int .u8) [])],[4,12,13],[],[],11⟩ ⟨[],[(5,true,.cells 110 [.sbp 5,.own 10]),(10,false,.row 5 (.int .u8) [])],[4],[],[],11⟩ true (qp 2 (.s (qp 2 (.j ⟨[],[(5,true,.cells 110 [.sbp 5,.own 23]),(23,false,.row 5 (.int .u8) [])],[4,6,12,13,14],[15],[],24⟩ false .p (.s .p (.lp ⟨[(28,.d qI)],[(5,true,.cells 110 [.sbp 5,.own 28]),(28,false,.row 5 (.int .u8) [])],[4,12,13,14,26,27],[],[],29⟩ ⟨[],[(5,true,.cells 110 [.sbp 5,.own 28]),(28,false,.row 5 (.int .u8) [])],[4,12,13,14],[],[],29⟩ false .p)))) .p)))) .p)) a:=by kernel_rfl
def c_38:Con te:=ag_ te [.d (.sl (.st 1))] [(.str,[]),qJ] false λa=>gT_ a.1
theorem ok_38:OKF 38 c_38:=⟨ab_ ad_ (cW_ ⟨ff_ ad_ (cW_ eq_ ac_) Tryz.func71,by kernel_rfl⟩ (aa_ ok_70 (cW_ fV_ ac_))) Tryz.func38 (by kernel_rfl) e_38,by kernel_rfl⟩
def c_20:Con te:=ag_ te [.d (.st 5),.d qI,.d qI,.d qI] [(.st 5,[some 78,some 66]),(.str,[]),qB,qJ] true (qu4 fj_)
theorem ok_20:OKF 20 c_20:=⟨ab_ ad_ (aa_ ok_47 (aa_ ok_38 (aa_ ok_42 (aa_ ok_41 ac_)))) Tryz.func20 (by kernel_rfl) (pl:=qp 4 (.s (.s .p (.s (qp 2 (.s (.dr [0,0,0,0,0,0,0,1,4,4,4] [] true [2]) .p)) .p)) (qp 3 (.j ⟨[(17,.d qI)],[],[8,12,15,16],[2,8,9,11],[3039],3060⟩ false .p .p)))) λ_=>by kernel_rfl,by kernel_rfl⟩
def c_60:Con te:=ag_ te [.d (.st 4),.p .str] [qB] false (qu2 m3_)
theorem ok_60:OKF 60 c_60:=⟨ab_ ad_ ac_ Tryz.func60 (by kernel_rfl) (pl := .p) λ_=>by kernel_rfl,by kernel_rfl⟩
def c_24:Con te:=ag_ te [.d (.st 5),.d qI,.d .str] [qJ,qJ] false (qu3 oW_)
theorem ok_24:OKF 24 c_24:=⟨ab_ ad_ (aa_ ok_60 (aa_ ok_49 (aa_ ok_42 ac_))) Tryz.func24 (by kernel_rfl) (pl := .p) λ_=>by kernel_rfl,by kernel_rfl⟩
def c_115:Con te:=ag_ te [.d (.sl (.st 3)),.f1 (.st 3) .bool] [qJ] false (qu2 bB_)
theorem ok_115:OKF 115 c_115:=⟨ab_ ad_ ac_ Tryz.func115 (by kernel_rfl) (pl := .s .p (.s (.s .p (.lp ⟨[(8,.d qI)],[],[0,1,7],[],[],4⟩ ⟨[],[],[],[],[],4⟩ true .p)) .p)) λ_=>by kernel_rfl,by kernel_rfl⟩
def c_73:Con te:=ag_ te [.d (.sl (.st 3)),.f1 (.st 3) .bool] [qB] false (qu2 ci_)
theorem ok_73:OKF 73 c_73:=⟨ab_ ad_ (aa_ ok_115 ac_) Tryz.func73 (by kernel_rfl) (pl := .p) λ_=>by kernel_rfl,by kernel_rfl⟩
def c_74:Con te:=ag_ te [.d (.st 3)] [qB] false λa=>eu_ a.1
theorem ok_74:OKF 74 c_74:=⟨ab_ ad_ (aa_ ok_51 ac_) Tryz.func74 (by kernel_rfl) (pl := .p) λ_=>by kernel_rfl,by kernel_rfl⟩
def c_39:Con te:=ag_ te [.d (.st 4)] [qB] false λa=>e9_ a.1
theorem ok_39:OKF 39 c_39:=⟨ab_ ad_ (aa_ ok_74 (aa_ ok_73 (aa_ ok_30 ac_))) Tryz.func39 (by kernel_rfl) (pl := .p) λ_=>by kernel_rfl,by kernel_rfl⟩
def c_14:Con te:=ag_ te [.d (.st 5)] [qB] false λa=>fQ_ a.1
theorem ok_14:OKF 14 c_14:=⟨ab_ ad_ (aa_ ok_39 (aa_ ok_38 ac_)) Tryz.func14 (by kernel_rfl) (pl:=qp 2 (.s (.s .p (.lp ⟨[(24,.d qI)],[],[1,22,23],[0],[],5018⟩ ⟨[],[],[],[],[],5018⟩ true (qp 2 (.s (.s .p (.s (qd 19) .p)) .p)))) .p)) λ_=>by kernel_rfl,by kernel_rfl⟩
def c_9:Con te:=ag_ te [] [qB] false λ_=>hs_
theorem ok_9:OKF 9 c_9:=⟨ab_ ad_ (aa_ ok_14 (aa_ ok_24 (aa_ ok_20 (aa_ ok_16 (aa_ ok_29 (aa_ ok_10 ac_)))))) Tryz.func9 (by kernel_rfl) (pl:=qp 2 (.s (.s (.ot 0 (.free 0 (.free 1 (.free 2 (.spl 2 (.free 3 (.alt 4 (.alt 5 (.free 6 (.alt 7 (.free 8 (.spl 8 (.free 9 (.alt 10 (.alt 11 (.free 12 (.alt 13 (.free 14 (.alt 15 .nil .nil)) .nil)) .nil) .nil)) (.free 9 (.alt 10 (.alt 11 (.free 12 (.alt 13 (.free 14 (.alt 15 .nil .nil)) .nil)) .nil) .nil)))) .nil)) .nil) .nil)) (.free 3 (.alt 4 (.alt 5 (.free 6 (.alt 7 (.free 8 (.spl 8 (.free 9 (.alt 10 (.alt 11 (.free 12 (.alt 13 (.free 14 (.alt 15 .nil .nil)) .nil)) .nil) .nil)) (.free 9 (.alt 10 (.alt 11 (.free 12 (.alt 13 (.free 14 (.alt 15 .nil .nil)) .nil)) .nil) .nil)))) .nil)) .nil) .nil))))))) .p) .p)) λ_=>by kernel_rfl,by kernel_rfl⟩
def c_68:Con te:=ag_ te [.d .str] [qB] false λa=>jJ_ a.1
theorem ok_68:OKF 68 c_68:=⟨ab_ ad_ ac_ Tryz.func68 (by kernel_rfl) (pl:=qp 2 (.s (.s .p (.lp ⟨[(3,.d qI)],[],[0],[],[],4006⟩ ⟨[],[],[],[],[],4006⟩ true .p)) .p)) λ_=>by kernel_rfl,by kernel_rfl⟩
def c_35:Con te:=ag_ te [.d .str] [qB] false λa=>gV_ a.1
theorem ok_35:OKF 35 c_35:=⟨ab_ ad_ (aa_ ok_68 ac_) Tryz.func35 (by kernel_rfl) (pl := .p) λ_=>by kernel_rfl,by kernel_rfl⟩
def c_36:Con te:=ag_ te [.d (.sl (.st 1)),.d (.sl (.st 1))] [qB] false (qu2 gh_)
theorem ok_36:OKF 36 c_36:=⟨ab_ ad_ ac_ Tryz.func36 (by kernel_rfl) (pl:=qp 2 (.s (.s .p (.lp ⟨[(5,.d qI)],[],[0,1],[],[],7⟩ ⟨[],[],[],[],[],7⟩ true (.s .p (.s (.s (.s (qd 13) .p) (.s .p (.lp ⟨[(6,.d qI)],[],[0,1,5],[],[],25⟩ ⟨[],[],[0,1,5],[],[],25⟩ true (.s .p (.s (.s (qd 17) .p) .p))))) .p)))) .p)) λ_=>by kernel_rfl,by kernel_rfl⟩
def c_69:Con te:=ag_ te [.d (.sl (.st 2)),.d (.sl (.st 2))] [qB] false (qu2 gi_)
theorem ok_69:OKF 69 c_69:=⟨ab_ ad_ ac_ Tryz.func69 (by kernel_rfl) (pl:=qp 2 (.s (.s .p (.lp ⟨[(5,.d qI)],[],[0,1],[],[],7⟩ ⟨[],[],[],[],[],7⟩ true (.s .p (.s (.s (qd 9) .p) .p)))) .p)) λ_=>by kernel_rfl,by kernel_rfl⟩
def c_37:Con te:=ag_ te [.d (.st 3),.d (.st 3)] [qB] false (qu2 kT_)
theorem ok_37:OKF 37 c_37:=⟨ab_ ad_ (aa_ ok_69 ac_) Tryz.func37 (by kernel_rfl) (pl := .p) λ_=>by kernel_rfl,by kernel_rfl⟩
def c_12:Con te:=ag_ te [.d (.st 5),.d (.st 5)] [qB] false (qu2 kU_)
theorem ok_12:OKF 12 c_12:=⟨ab_ ad_ (aa_ ok_37 (aa_ ok_36 ac_)) Tryz.func12 (by kernel_rfl) (pl:=qp 2 (.s (.s .p (.lp ⟨[(5,.d qI)],[],[2,3],[0,2],[],8013⟩ ⟨[],[],[],[],[],8013⟩ true (.s .p (.s (.s (.pr 10) (qp 2 (.lp ⟨[(8,.d qI)],[],[2,3,5,6,7],[0,2,8028,8030],[],22044⟩ ⟨[],[],[2,3,5],[0,2],[],22044⟩ true (.s .p (.s (.s (qd 12) .p) .p))))) .p)))) .p)) λ_=>by kernel_rfl,by kernel_rfl⟩
def c_17:Con te:=ag_ te [.d (.st 3)] [qB] false λa=>ht_ a.1
theorem ok_17:OKF 17 c_17:=⟨ab_ ad_ ac_ Tryz.func17 (by kernel_rfl) (pl:=qp 2 (.s (.s .p (.lp ⟨[(41,.d qI)],[],[1,40],[0],[],25016⟩ ⟨[],[],[],[],[],25016⟩ true .p)) .p)) λ_=>by kernel_rfl,by kernel_rfl⟩
def c_13:Con te:=ag_ te [.d (.st 5)] [qB] false λa=>jK_ a.1
theorem ok_13:OKF 13 c_13:=⟨ab_ ad_ (aa_ ok_17 ac_) Tryz.func13 (by kernel_rfl) (pl:=qp 3 (.s (.s .p (.lp ⟨[(23,.d qI)],[],[1,3,22],[0],[],5013⟩ ⟨[],[],[1,3],[0],[],5013⟩ true (qp 2 (.s (qp 3 (.lp ⟨[(41,.d qI)],[],[1,3,4,22,23,40],[0],[],5032⟩ ⟨[],[],[1,3,22,23],[0],[],5032⟩ true .p)) .p)))) (.s (.s .p (.lp ⟨[(3,.d qI),(74,.d qI)],[],[1,73],[0],[],5017⟩ ⟨[],[],[],[],[],5017⟩ true (qp 2 (.s (qp 3 (.lp ⟨[(3,.d qI),(102,.d qI)],[],[1,7,73,74,101],[0],[],14037⟩ ⟨[(3,.d qI)],[],[1,73,74],[0],[],14037⟩ true .p)) .p)))) .p))) λ_=>by kernel_rfl,by kernel_rfl⟩
def c_77:Con te:=ag_ te [.d .str] [qJ] false λa=>iV_ a.1
theorem ok_77:OKF 77 c_77:=⟨ab_ ad_ ac_ Tryz.func77 (by kernel_rfl) (pl:=qp 2 (.s (.s .p (.lp ⟨[(3,.d qI)],[],[0],[],[],5⟩ ⟨[],[],[],[],[],5⟩ true .p)) .p)) λ_=>by kernel_rfl,by kernel_rfl⟩
def c_149:Con te:=ag_ te [.d .str] [qB] false λa=>hu_ a.1
theorem ok_149:OKF 149 c_149:=⟨ab_ ad_ ac_ Tryz.func149 (by kernel_rfl) (pl := .p) λ_=>by kernel_rfl,by kernel_rfl⟩
def c_183:Con te:=ag_ te [.g (.st 12) [some 202],.d (.st 6)] [(.st 12,[some 202])] false (qu2 bb_)
theorem ok_183:OKF 183 c_183:=⟨ab_ ad_ ac_ Tryz.func183 (by kernel_rfl) (pl := .p) λ_=>by kernel_rfl,by kernel_rfl⟩
def c_218:Con te:=ag_ te [.d .str,.l (.st 12) [some 202],.d (.int .u8)] [qB] false (qu3 b4_)
theorem ok_218:OKF 218 c_218:=⟨ab_ ad_ ac_ Tryz.func218 (by kernel_rfl) (pl := .p) λ_=>by kernel_rfl,by kernel_rfl⟩
theorem e_264(a:PA te [.d .str,.g (.st 12) [some 202]]):hv_ a.1 a.2.1=gI_ Tryz.prog te eqL (ti 266 (inlF Tryz.prog te eqL dX_ Tryz.f266 (.p:Pl)) (tb 183 c_183 (tb 218 c_218 dX_))) Tryz.f264 [.d .str,.g (.st 12) [some 202]] [(.st 12,[some 202])] (qp 3 (.j ⟨[],[(1,true,.cells 210 [.own 0,.v qI,.v qI,.v .bool]),(0,true,.row 202 (.st 6) []),(12,true,.box 202 (.st 6))],[0,3,4,5],[3],[],16⟩ false .p (.s .p (.s (.lp ⟨[(6,.one (.own 17))],[(1,true,.cells 210 [.own 0,.v qI,.v qI,.v .bool]),(0,true,.row 202 (.st 6) []),(17,false,.row 5 (.int .u8) [])],[0,3,4,5],[3,12],[],18⟩ ⟨[(6,.one (.own 17))],[(1,true,.cells 210 [.own 0,.v qI,.v qI,.v .bool]),(0,true,.row 202 (.st 6) []),(17,false,.row 5 (.int .u8) [])],[0,3,4,5],[3,12],[],18⟩ true (qp 2 (.j ⟨[(7,.one (.ptr 17030)),(8,.d (.int .u8))],[(0,true,.row 202 (.st 6) []),(17030,false,.cells 210 [.own 0,.v qI,.v qI,.v .bool])],[0,3,4,5,6],[1,3,12,17],[],17031⟩ false .p (.s .p (.j ⟨[(9,.d (.int .u8))],[(0,true,.row 202 (.st 6) []),(17030,true,.cells 210 [.own 0,.v qI,.v qI,.v .bool])],[0,3,4,5,6,7,8],[1,3,12,17],[],17033⟩ true (.s .p (.s (qp 3 (.j ⟨[(9,.d (.int .u8))],[(0,true,.row 202 (.st 6) []),(17030,true,.cells 210 [.own 0,.v qI,.v qI,.v .bool])],[0,3,4,5,6,7,8,10],[1,3,12,17],[],29054⟩ false .p .p)) .p)) .p))))) .p)))) a:=by kernel_rfl
def c_264:Con te:=ag_ te [.d .str,.g (.st 12) [some 202]] [(.st 12,[some 202])] false (qu2 hv_)
theorem ok_264:OKF 264 c_264:=⟨ab_ ad_ (cW_ ⟨ff_ ad_ ac_ Tryz.func266,by kernel_rfl⟩ (aa_ ok_183 (aa_ ok_218 ac_))) Tryz.func264 (by kernel_rfl) e_264,by kernel_rfl⟩
def c_265:Con te:=ag_ te [.d (.int .u8)] [qB] false λa=>hV_ a.1
theorem ok_265:OKF 265 c_265:=⟨ab_ ad_ ac_ Tryz.func265 (by kernel_rfl) (pl:=qp 2 (.s (.s .p (.lp ⟨[(4,.d qI)],[],[0,3],[],[],3⟩ ⟨[],[],[],[],[],3⟩ true .p)) .p)) λ_=>by kernel_rfl,by kernel_rfl⟩
def kh_(f:tX->Xv->tO Xv):Con te:=ag_ te [.d .str,.g (.st 12) [some 202]] [(.st 12,[some 202])] false λa=>f a.1 a.2.1
def cS_256(f:tX->Xv->tO Xv):Con te:=ag_ te [.d .str,.g (.st 12) [some 202]] [(.st 12,[some 202])] false λa=>bC_ f a.1 a.2.1
theorem okS_256(f:tX->Xv->tO Xv)(h:OKF 182 (kh_ f)):OKF 256 (cS_256 f):=⟨ab_ (tab:=(ti 266 (inlF Tryz.prog te eqL dX_ Tryz.f266 (.p:Pl)) (tb 265 c_265 (tb 264 c_264 (tb 218 c_218 (tb 182 (kh_ f) (tb 183 c_183 dX_))))))) ad_ (cW_ ⟨ff_ ad_ ac_ Tryz.func266,by kernel_rfl⟩ (aa_ ok_265 (aa_ ok_264 (aa_ ok_218 (aa_ h (aa_ ok_183 ac_)))))) Tryz.func256 (by kernel_rfl) (pl:=qp 2 (.j ⟨[],[(1,true,.cells 210 [.own 10,.v qI,.v qI,.v .bool]),(10,false,.row 202 (.st 6) [])],[3,4],[3],[],11⟩ true (qp 12 (.j ⟨[(7,.one (.ptr 3024)),(8,.d (.int .u8))],[(3024,false,.cells 210 [.own 0,.v qI,.v qI,.v .bool]),(0,true,.row 202 (.st 6) [])],[4],[3],[],3025⟩ false .p .p)) .p)) λ_=>by kernel_rfl,by kernel_rfl⟩
def c_219:Con te:=ag_ te [.g (.st 12) [some 202],.d qI,.d (.st 6)] [(.st 12,[some 202])] false (qu3 fk_)
theorem ok_219:OKF 219 c_219:=⟨ab_ ad_ ac_ Tryz.func219 (by kernel_rfl) (pl:=qp 4 (.s (.s .p (.lp ⟨[(7,.one (.own 26)),(8,.d qI)],[(0,true,.row 202 (.st 6) []),(26,false,.row 202 (.st 6) [])],[3,6],[1,5],[],27⟩ ⟨[(7,.one (.own 26))],[(0,true,.row 202 (.st 6) []),(26,false,.row 202 (.st 6) [])],[3,6],[1,5],[],27⟩ false (.s .p (.s (.s .p (.j ⟨[],[(38,true,.box 202 (.st 6))],[3,6,7,8,9],[0,1,5,26],[35],42⟩ false .p (.j ⟨[],[(38,true,.box 202 (.st 6))],[3,6,7,8,9],[0,1,5,26],[35],42⟩ false .p .p))) .p)))) .p)) λ_=>by kernel_rfl,by kernel_rfl⟩
def cS_246(f:tX->Xv->tO Xv):Con te:=ag_ te [.d .str,.g (.st 12) [some 202]] [(.st 12,[some 202])] false λa=>dL_ f a.1 a.2.1
theorem okS_246(f:tX->Xv->tO Xv)(h:OKF 182 (kh_ f)):OKF 246 (cS_246 f):=⟨ab_ ad_ (aa_ ok_183 (aa_ ok_219 (aa_ ok_218 (aa_ (okS_256 f h) ac_)))) Tryz.func246 (by kernel_rfl) (pl:=qp 3 (.j ⟨[],[(1,true,.cells 210 [.own 16,.v qI,.v qI,.v .bool]),(16,false,.row 202 (.st 6) [])],[3,4],[3],[],17⟩ false .p .p)) λ_=>by kernel_rfl,by kernel_rfl⟩
def cS_217(f:tX->Xv->tO Xv):Con te:=ag_ te [.d .str,.g (.st 12) [some 202]] [(.st 12,[some 202])] false λa=>fl_ f a.1 a.2.1
theorem okS_217(f:tX->Xv->tO Xv)(h:OKF 182 (kh_ f)):OKF 217 (cS_217 f):=⟨ab_ ad_ (aa_ (okS_246 f h) ac_) Tryz.func217 (by kernel_rfl) (pl := .s .p (.s (.lp ⟨[],[(1,true,.cells 210 [.own 5,.v qI,.v qI,.v .bool]),(5,false,.row 202 (.st 6) [])],[0,3,4],[3],[],6⟩ ⟨[],[(1,true,.cells 210 [.own 5,.v qI,.v qI,.v .bool]),(5,false,.row 202 (.st 6) [])],[3,4],[3],[],6⟩ false .p) .p)) λ_=>by kernel_rfl,by kernel_rfl⟩
theorem okS_182(f:tX->Xv->tO Xv)(h:OKF 182 (kh_ f)):OKF 182 (kh_ (eE_ f)):=⟨ab_ ad_ (aa_ ok_183 (aa_ ok_219 (aa_ ok_218 (aa_ (okS_217 f h) (aa_ h ac_))))) Tryz.func182 (by kernel_rfl) (pl := .p) λ_=>by kernel_rfl,by kernel_rfl⟩
theorem okN_182:∀n,OKF 182 (kh_ (aL_ n))
 | 0=>⟨gL_ λ_=>rfl,by kernel_rfl⟩
 | n+1=>okS_182 _ (okN_182 n)
def c_182:Con te:=kh_ (aL_ BIG)
theorem ok_182:OKF 182 c_182:=okN_182 BIG
def c_150:Con te:=ag_ te [.d .str] [(.st 7,[some 202]),qJ,qJ] false λa=>b7_ a.1
theorem ok_150:OKF 150 c_150:=⟨ab_ ad_ (aa_ ok_182 (aa_ ok_183 ac_)) Tryz.func150 (by kernel_rfl) (pl:=qp 3 (.s (.s .p (.s (.s (.dr [0,0,0,1,4,4] [] true [0]) .p) .p)) .p)) λ_=>by kernel_rfl,by kernel_rfl⟩
def c_116:Con te:=ag_ te [.d (.st 0)] [qB] false λa=>fR_ a.1
theorem ok_116:OKF 116 c_116:=⟨ab_ ad_ (aa_ ok_150 (aa_ ok_149 (aa_ ok_77 ac_))) Tryz.func116 (by kernel_rfl) (pl:=qp 2 (.s (.s .p (.j ⟨[(17,.d .bool)],[],[1,16],[0],[],5009⟩ false .p (qp 5 (.j ⟨[(49,.d .bool)],[],[1,16],[0],[],5013⟩ false .p .p)))) .p)) λ_=>by kernel_rfl,by kernel_rfl⟩
def c_75:Con te:=ag_ te [.d (.st 1)] [qB] false λa=>hw_ a.1
theorem ok_75:OKF 75 c_75:=⟨ab_ ad_ (aa_ ok_116 ac_) Tryz.func75 (by kernel_rfl) (pl:=qp 3 (.s (.s .p (.lp ⟨[(4,.d qI)],[],[1,3],[0],[],3011⟩ ⟨[],[],[],[],[],3011⟩ true .p)) .p)) λ_=>by kernel_rfl,by kernel_rfl⟩
def c_40:Con te:=ag_ te [.d (.sl (.st 1))] [(.str,[]),qJ] false λa=>iW_ a.1
theorem ok_40:OKF 40 c_40:=⟨ab_ ad_ (aa_ ok_75 ac_) Tryz.func40 (by kernel_rfl) (pl:=qp 3 (.s (.s .p (.lp ⟨[(4,.d .str),(5,.d qI)],[],[0],[],[],7⟩ ⟨[(4,.d .str)],[],[],[],[],7⟩ true (.s .p (.s (.s .p (.j ⟨[(4,.d .str)],[],[0,5],[],[],17⟩ false .p (.s .p (.lp ⟨[(4,.d .str),(6,.d qI)],[],[0,5],[],[],18⟩ ⟨[(4,.d .str)],[],[0,5],[],[],18⟩ false .p)))) .p)))) .p)) λ_=>by kernel_rfl,by kernel_rfl⟩
def c_184:Con te:=ag_ te [.d .str] [qB] false λa=>iX_ a.1
theorem ok_184:OKF 184 c_184:=⟨ab_ ad_ ac_ Tryz.func184 (by kernel_rfl) (pl := .p) λ_=>by kernel_rfl,by kernel_rfl⟩
def c_151:Con te:=ag_ te [.d .str] [qB] false λa=>kV_ a.1
theorem ok_151:OKF 151 c_151:=⟨ab_ ad_ (aa_ ok_184 ac_) Tryz.func151 (by kernel_rfl) (pl := .s .p (.j ⟨[(0,.d .str)],[],[],[],[],1⟩ false .p (.s (.s .p (.lp ⟨[(3,.d qI)],[],[0],[],[],2⟩ ⟨[],[],[0],[],[],2⟩ true .p)) .p))) λ_=>by kernel_rfl,by kernel_rfl⟩
def c_152:Con te:=ag_ te [.d .str] [qB] false λa=>jL_ a.1
theorem ok_152:OKF 152 c_152:=⟨ab_ ad_ ac_ Tryz.func152 (by kernel_rfl) (pl := .s .p (.s (.s .p (.lp ⟨[(3,.d qI)],[],[0],[],[],2⟩ ⟨[],[],[],[],[],2⟩ true .p)) .p)) λ_=>by kernel_rfl,by kernel_rfl⟩
def c_117:Con te:=ag_ te [.d (.sl (.st 2)),.d (.st 2)] [qJ] false (qu2 iv_)
theorem ok_117:OKF 117 c_117:=⟨ab_ ad_ (aa_ ok_152 (aa_ ok_151 ac_)) Tryz.func117 (by kernel_rfl) (pl:=qp 2 (.s (.s .p (.lp ⟨[(5,.d qI)],[],[0,3],[0],[],9023⟩ ⟨[],[],[],[],[],9023⟩ true (.s .p (.s (.s (qd 8) .p) .p)))) .p)) λ_=>by kernel_rfl,by kernel_rfl⟩
def c_78:Con te:=ag_ te [.d (.sl (.st 2))] [qJ] false λa=>hx_ a.1
theorem ok_78:OKF 78 c_78:=⟨ab_ ad_ (aa_ ok_117 ac_) Tryz.func78 (by kernel_rfl) (pl := .s .p (.s (.s .p (.lp ⟨[(3,.d qI)],[],[0],[],[],2⟩ ⟨[],[],[],[],[],2⟩ true (.s .p (.s (.s (qd 9) .p) .p)))) .p)) λ_=>by kernel_rfl,by kernel_rfl⟩
def c_44:Con te:=ag_ te [.d (.st 3)] [qJ] false λa=>e0_ a.1
theorem ok_44:OKF 44 c_44:=⟨ab_ ad_ (aa_ ok_78 (aa_ ok_77 ac_)) Tryz.func44 (by kernel_rfl) (pl:=qp 2 (.s (.s .p (.lp ⟨[(4,.d qI)],[(11,true,.row 9 .str [])],[1,3],[0],[],15⟩ ⟨[],[],[1],[0],[],15⟩ true .p)) (.s .p (.s (.s .p (.lp ⟨[(7,.d qI)],[],[1],[0],[],22⟩ ⟨[],[],[1],[0],[],22⟩ true .p)) .p)))) λ_=>by kernel_rfl,by kernel_rfl⟩
def c_79:Con te:=ag_ te [.d .str] [(.str,[])] false λa=>jM_ a.1
theorem ok_79:OKF 79 c_79:=⟨ab_ ad_ ac_ Tryz.func79 (by kernel_rfl) (pl:=qp 2 (.s (.s .p (.lp ⟨[(3,.d .str),(4,.d .bool),(5,.d qI)],[],[0],[],[],6⟩ ⟨[(3,.d .str),(4,.d .bool)],[],[0],[],[],6⟩ false (.s .p (.j ⟨[(3,.d .str),(4,.d .bool)],[],[0,5],[],[],10⟩ false .p .p)))) .p)) λ_=>by kernel_rfl,by kernel_rfl⟩
def c_45:Con te:=ag_ te [.d (.sl (.st 2))] [(.str,[]),qJ] false λa=>jN_ a.1
theorem ok_45:OKF 45 c_45:=⟨ab_ ad_ (aa_ ok_79 (aa_ ok_78 ac_)) Tryz.func45 (by kernel_rfl) (pl:=qp 3 (.s (.s .p (.lp ⟨[(5,.d .str),(6,.d qI)],[],[0],[],[],9⟩ ⟨[(5,.d .str)],[],[],[],[],9⟩ false (.s .p (.j ⟨[(5,.d .str)],[],[0,6],[],[],13⟩ false (.j ⟨[(5,.d .str)],[],[0,6],[],[],13⟩ false .p (qp 2 (qd 16))) .p)))) .p)) λ_=>by kernel_rfl,by kernel_rfl⟩
def c_80:Con te:=ag_ te [.d qI] [qB] false λa=>jO_ a.1
theorem ok_80:OKF 80 c_80:=⟨ab_ ad_ ac_ Tryz.func80 (by kernel_rfl) (pl := .p) λ_=>by kernel_rfl,by kernel_rfl⟩
def c_81:Con te:=ag_ te [.d qI,.d qI] [(.str,[])] false (qu2 iZ_)
theorem ok_81:OKF 81 c_81:=⟨ab_ ad_ ac_ Tryz.func81 (by kernel_rfl) (pl:=qp 2 (.s (.lp ⟨[(0,.d qI),(5,.d .str)],[],[1],[],[],2⟩ ⟨[(5,.d .str)],[],[],[],[],2⟩ false .p) .p)) λ_=>by kernel_rfl,by kernel_rfl⟩
def c_46:Con te:=ag_ te [.d qI,.d qI] [(.str,[])] false (qu2 kW_)
theorem ok_46:OKF 46 c_46:=⟨ab_ ad_ (aa_ ok_81 (aa_ ok_80 ac_)) Tryz.func46 (by kernel_rfl) (pl := .p) λ_=>by kernel_rfl,by kernel_rfl⟩
def c_18:Con te:=ag_ te [.d (.st 3)] [(.str,[]),qJ] false λa=>e1_ a.1
theorem ok_18:OKF 18 c_18:=⟨ab_ ad_ (aa_ ok_46 (aa_ ok_45 (aa_ ok_44 ac_))) Tryz.func18 (by kernel_rfl) (pl:=qp 3 (.s (qd 29) .p)) λ_=>by kernel_rfl,by kernel_rfl⟩
def c_15:Con te:=ag_ te [.d (.st 5)] [qB] false λa=>jP_ a.1
theorem ok_15:OKF 15 c_15:=⟨ab_ ad_ (aa_ ok_18 (aa_ ok_35 (aa_ ok_40 ac_))) Tryz.func15 (by kernel_rfl) (pl:=qp 2 (.s (.s .p (.lp ⟨[(5,.d qI)],[],[1],[0],[],5015⟩ ⟨[],[],[],[],[],5015⟩ true (.s .p (.s (.s .p (.s (.s (qd 47) .p) (.s .p (.lp ⟨[(7,.d qI)],[],[1,5,6],[0,5025],[],43039⟩ ⟨[],[],[1,5],[0],[],43039⟩ true .p)))) .p)))) .p)) λ_=>by kernel_rfl,by kernel_rfl⟩
def c_53:Con te:=ag_ te [.d (.st 5),.d qI,.d qI] [(.st 5,[some 78,some 66])] true (qu3 hY_)
theorem ok_53:OKF 53 c_53:=⟨ab_ ad_ (aa_ ok_42 (aa_ ok_41 ac_)) Tryz.func53 (by kernel_rfl) (pl:=qp 2 (.s (.s (.ot 0 (.free 0 (.free 1 (.free 2 (.spl 2 (.alt 3 (.free 4 (.alt 5 (.free 6 (.alt 7 (.free 8 (.spl 8 (.free 9 (.alt 10 (.free 11 (.free 12 (.alt 13 (.free 14 (.alt 15 (.free 16 (.alt 17 .nil .nil)) .nil)) .nil))) .nil)) (.free 9 (.alt 10 (.free 11 (.free 12 (.alt 13 (.free 14 (.alt 15 (.free 16 (.alt 17 .nil .nil)) .nil)) .nil))) .nil)))) .nil)) .nil)) .nil) (.alt 3 (.free 4 (.alt 5 (.free 6 (.alt 7 (.free 8 (.spl 8 (.free 9 (.alt 10 (.free 11 (.free 12 (.alt 13 (.free 14 (.alt 15 (.free 16 (.alt 17 .nil .nil)) .nil)) .nil))) .nil)) (.free 9 (.alt 10 (.free 11 (.free 12 (.alt 13 (.free 14 (.alt 15 (.free 16 (.alt 17 .nil .nil)) .nil)) .nil))) .nil)))) .nil)) .nil)) .nil)))))) .p) (qp 2 (.j ⟨[],[(6,true,.row 66 (.st 4) [])],[6,7],[2,5,8],[],47⟩ false .p .p)))) λ_=>by kernel_rfl,by kernel_rfl⟩
def c_21:Con te:=ag_ te [.d (.st 5),.d (.st 13)] [(.st 5,[]),(.st 14,[])] true (qu2 l8_)
theorem ok_21:OKF 21 c_21:=⟨ab_ ad_ (aa_ ok_19 (aa_ ok_53 (aa_ ok_29 (aa_ ok_20 (aa_ ok_16 ac_))))) Tryz.func21 (by kernel_rfl) (pl:=qp 2 (.j ⟨[],[(0,true,.cells 27 [.v (.sl (.st 1)),.v (.sl (.st 4))]),(9,true,.box 49 (.st 14))],[2,4,5,6],[4,6],[],13⟩ false .p (.s (.dr [0,0,1,1] [] true [4,6]) .p))) λ_=>by kernel_rfl,by kernel_rfl⟩
def c_61:Con te:=ag_ te [.d (.st 5),.d qI] [qB] false (qu2 ep_)
theorem ok_61:OKF 61 c_61:=⟨ab_ ad_ ac_ Tryz.func61 (by kernel_rfl) (pl := .p) λ_=>by kernel_rfl,by kernel_rfl⟩
def c_89:Con te:=ag_ te [.d qI,.d qI] [qB] false (qu2 iw_)
theorem ok_89:OKF 89 c_89:=⟨ab_ ad_ ac_ Tryz.func89 (by kernel_rfl) (pl := .p) λ_=>by kernel_rfl,by kernel_rfl⟩
def c_88:Con te:=ag_ te [.d qI] [qJ,qB] false λa=>g8_ a.1
theorem ok_88:OKF 88 c_88:=⟨ab_ ad_ (aa_ ok_89 ac_) Tryz.func88 (by kernel_rfl) (pl:=qp 2 (.j ⟨[(0,.d qI)],[],[],[],[],4⟩ false .p (.j ⟨[(0,.d qI)],[],[],[],[],4⟩ false .p .p))) λ_=>by kernel_rfl,by kernel_rfl⟩
def c_90:Con te:=ag_ te [.d qI,.d qI] [qB] false (qu2 hZ_)
theorem ok_90:OKF 90 c_90:=⟨ab_ ad_ ac_ Tryz.func90 (by kernel_rfl) (pl := .p) λ_=>by kernel_rfl,by kernel_rfl⟩
def c_91:Con te:=ag_ te [.d (.st 5),.d qI,.d (.st 4)] [(.st 5,[none,some 66])] true (qu3 fC_)
theorem ok_91:OKF 91 c_91:=⟨ab_ ad_ ac_ Tryz.func91 (by kernel_rfl) (pl := .p) λ_=>by kernel_rfl,by kernel_rfl⟩
def c_54:Con te:=ag_ te [.d (.st 5),.d qI,.d qI] [(.st 5,[]),qJ] true (qu3 kX_)
theorem ok_54:OKF 54 c_54:=⟨ab_ ad_ (aa_ ok_91 (aa_ ok_90 (aa_ ok_89 (aa_ ok_88 (aa_ ok_61 ac_))))) Tryz.func54 (by kernel_rfl) (pl := .p) λ_=>by kernel_rfl,by kernel_rfl⟩
def c_55:Con te:=ag_ te [.d (.st 5),.d qI,.d qI,.d qI] [(.st 5,[]),(.str,[]),qB,qJ] true (qu4 kY_)
theorem ok_55:OKF 55 c_55:=⟨ab_ ad_ (aa_ ok_91 (aa_ ok_18 (aa_ ok_40 (aa_ ok_61 ac_)))) Tryz.func55 (by kernel_rfl) (pl:=qp 6 (.s (.s .p (.s (qp 2 (.s (.dr [0,0,0,0,0,0,0,0,0,0,0,0,1,4,4,4] [] true [2]) .p)) .p)) .p)) λ_=>by kernel_rfl,by kernel_rfl⟩
def c_126:Con te:=ag_ te [.d .str] [(.sl .str,[some 9])] false λa=>hy_ a.1
theorem ok_126:OKF 126 c_126:=⟨ab_ ad_ ac_ Tryz.func126 (by kernel_rfl) (pl:=qp 3 (.s (.s .p (.lp ⟨[(3,.one (.own 4)),(4,.d qI),(5,.d qI)],[(4,false,.row 9 .str [])],[0],[],[],5⟩ ⟨[(3,.one (.own 4)),(4,.d qI)],[(4,false,.row 9 .str [])],[0],[],[],5⟩ false (.s .p (.j ⟨[(3,.one (.own 9)),(4,.d qI)],[(9,false,.row 9 .str [])],[0,5],[],[],10⟩ false .p .p)))) (.j ⟨[(3,.one (.own 5))],[(5,false,.row 9 .str [])],[],[],[],6⟩ false .p .p))) λ_=>by kernel_rfl,by kernel_rfl⟩
def c_127:Con te:=ag_ te [.d (.sl (.st 0))] [qB] false λa=>hz_ a.1
theorem ok_127:OKF 127 c_127:=⟨ab_ ad_ ac_ Tryz.func127 (by kernel_rfl) (pl := .p) λ_=>by kernel_rfl,by kernel_rfl⟩
def c_128:Con te:=ag_ te [.d .str] [(.st 0,[])] false λa=>jQ_ a.1
theorem ok_128:OKF 128 c_128:=⟨ab_ ad_ ac_ Tryz.func128 (by kernel_rfl) (pl:=qp 3 (.s (.lp ⟨[(4,.d qI)],[],[0,2,3],[0,2],[],5⟩ ⟨[(4,.d qI)],[],[0,2,3],[0,2],[],5⟩ false .p) (.s .p (.s (.lp ⟨[(5,.d qI)],[],[0,2,3,4],[0,2],[],8⟩ ⟨[(5,.d qI)],[],[0,2,3,4],[0,2],[],8⟩ false .p) (.s .p (.s (.dr [0,0,0,0,0,0,0,0,0,0,0,0,0,2] [] false []) .p)))))) λ_=>by kernel_rfl,by kernel_rfl⟩
def c_92:Con te:=ag_ te [.d .str] [(.sl (.st 1),[some 78]),qJ,qJ] true λa=>jR_ a.1
theorem ok_92:OKF 92 c_92:=⟨ab_ ad_ (aa_ ok_116 (aa_ ok_128 (aa_ ok_127 (aa_ ok_126 ac_)))) Tryz.func92 (by kernel_rfl) (pl:=qp 4 (.s (.s .p (.lp ⟨[(6,.one (.own 10)),(7,.one (.own 11)),(8,.d qI)],[(4,true,.row 9 .str []),(10,false,.row 78 (.st 1) []),(11,false,.row 80 (.st 0) [])],[5],[],[],12⟩ ⟨[(6,.one (.own 10))],[(10,false,.row 78 (.st 1) [])],[],[],[],11⟩ true (.s .p (.j ⟨[(6,.one (.own 16)),(7,.one (.own 17))],[(4,true,.row 9 .str []),(16,false,.row 78 (.st 1) []),(17,false,.row 80 (.st 0) [])],[5,8],[],[],18⟩ true (.s (.s (.ot 0 (.free 0 (.free 1 (.alt 2 (.free 3 (.free 4 (.spl 4 (.free 5 (.free 6 (.alt 7 (.alt 8 (.free 9 (.alt 10 .nil .nil)) .nil) .nil))) (.free 5 (.free 6 (.alt 7 (.alt 8 (.free 9 (.alt 10 .nil .nil)) .nil) .nil)))))) .nil)))) (.s (.s .p (.j ⟨[(6,.one (.own 4032))],[(4032,false,.row 78 (.st 1) [])],[5,8,23,24,25,26,27],[4],[23],4033⟩ false .p .p)) .p)) .p) .p)))) .p)) λ_=>by kernel_rfl,by kernel_rfl⟩
def c_164:Con te:=ag_ te [.d (.int .u8)] [qB] false λa=>hA_ a.1
theorem ok_164:OKF 164 c_164:=⟨ab_ ad_ ac_ Tryz.func164 (by kernel_rfl) (pl := .p) λ_=>by kernel_rfl,by kernel_rfl⟩
def c_201:Con te:=ag_ te [.d .str,.d qI] [qB] false (qu2 g9_)
theorem ok_201:OKF 201 c_201:=⟨ab_ ad_ (aa_ ok_164 ac_) Tryz.func201 (by kernel_rfl) (pl := .p) λ_=>by kernel_rfl,by kernel_rfl⟩
def c_202:Con te:=ag_ te [.d .str,.d qI] [(.str,[]),qJ,qJ] false (qu2 i0_)
theorem ok_202:OKF 202 c_202:=⟨ab_ ad_ ac_ Tryz.func202 (by kernel_rfl) (pl:=qp 2 (.s (.lp ⟨[(1,.d qI),(7,.d .str)],[],[0],[],[],4⟩ ⟨[(1,.d qI)],[],[],[],[],4⟩ true .p) .p)) λ_=>by kernel_rfl,by kernel_rfl⟩
def c_165:Con te:=ag_ te [.d .str,.d qI] [(.st 2,[]),qJ,qJ] false (qu2 kZ_)
theorem ok_165:OKF 165 c_165:=⟨ab_ ad_ (aa_ ok_202 (aa_ ok_201 (aa_ ok_164 ac_))) Tryz.func165 (by kernel_rfl) (pl:=qp 2 (.s (.lp ⟨[(1,.d qI)],[],[0,4,7],[0],[],6⟩ ⟨[(1,.d qI)],[],[0,4,7],[0],[],6⟩ false .p) (qp 4 (.s (.s .p (.s (.s .p (.j ⟨[(11,.d qI)],[],[4,8,9,10],[0,11],[],20045⟩ false .p .p)) .p)) (.s .p (.s (.lp ⟨[(1,.d qI)],[],[0,4,7,8],[0,11],[],20036⟩ ⟨[(1,.d qI)],[],[0,4,7,8],[0,11],[],20036⟩ true .p) .p)))))) λ_=>by kernel_rfl,by kernel_rfl⟩
def c_129:Con te:=ag_ te [.d .str] [(.sl (.st 2),[some 87]),qJ,qJ] false λa=>hB_ a.1
theorem ok_129:OKF 129 c_129:=⟨ab_ ad_ (aa_ ok_117 (aa_ ok_165 (aa_ ok_164 ac_))) Tryz.func129 (by kernel_rfl) (pl:=qp 3 (.lp ⟨[(5,.one (.own 5)),(6,.d qI)],[(5,false,.row 87 (.st 2) [])],[0],[],[],6⟩ ⟨[],[],[],[],[],5⟩ true (.s (.lp ⟨[(6,.d qI)],[],[0,5],[5],[],6⟩ ⟨[(6,.d qI)],[],[0,5],[5],[],6⟩ false .p) (qp 2 (.j ⟨[(9,.d qI)],[],[0,5,6,7,8],[5,17],[],23⟩ false .p .p))))) λ_=>by kernel_rfl,by kernel_rfl⟩
def c_166:Con te:=ag_ te [.d (.int .u8)] [qJ] false λa=>jS_ a.1
theorem ok_166:OKF 166 c_166:=⟨ab_ ad_ ac_ Tryz.func166 (by kernel_rfl) (pl := .p) λ_=>by kernel_rfl,by kernel_rfl⟩
def c_130:Con te:=ag_ te [.d .str,.d qI,.d qI] [qJ,qJ] false (qu3 jT_)
theorem ok_130:OKF 130 c_130:=⟨ab_ ad_ (aa_ ok_166 (aa_ ok_80 ac_)) Tryz.func130 (by kernel_rfl) (pl:=qp 4 (.s (.s .p (.lp ⟨[(8,.d qI),(9,.d qI)],[],[0,1,2],[],[],12011⟩ ⟨[(8,.d qI)],[],[],[],[],12011⟩ true .p)) .p)) λ_=>by kernel_rfl,by kernel_rfl⟩
def c_93:Con te:=ag_ te [.d .str] [(.st 3,[none,none,none,none,some 87]),qJ] false λa=>jU_ a.1
theorem ok_93:OKF 93 c_93:=⟨ab_ ad_ (aa_ ok_44 (aa_ ok_130 (aa_ ok_129 ac_))) Tryz.func93 (by kernel_rfl) (pl:=qp 3 (.s (.s .p (.lp ⟨[(4,.one (.own 6)),(5,.d qI),(6,.d qI)],[(6,false,.row 9 .str [])],[0,2],[0],[],7⟩ ⟨[(4,.one (.own 6)),(5,.d qI)],[(6,false,.row 9 .str [])],[0,2],[0],[],7⟩ false (.s .p (.j ⟨[(4,.one (.own 4012)),(5,.d qI)],[(4012,false,.row 9 .str [])],[0,2,6],[0],[],4013⟩ false .p .p)))) (qp 7 (.s (.dr [0,0,0,0,0,0,0,0,0,0,0,0,0,0,0,0,0,1,2] [] false []) .p)))) λ_=>by kernel_rfl,by kernel_rfl⟩
def c_170:Con te:=ag_ te [.d (.st 3),.d .str] [(.str,[])] false (qu2 cC_)
theorem ok_170:OKF 170 c_170:=⟨ab_ ad_ ac_ Tryz.func170 (by kernel_rfl) (pl := .p) λ_=>by kernel_rfl,by kernel_rfl⟩
def c_203:Con te:=ag_ te [.d .str,.d qI,.d (.st 3),.d (.st 15)] [(.str,[]),qJ] false (qu4 eh_)
theorem ok_203:OKF 203 c_203:=⟨ab_ ad_ (aa_ ok_170 ac_) Tryz.func203 (by kernel_rfl) (pl:=qp 4 (.s (.s .p (.s (.s .p (.s (.s .p (.s (.s (qd 16) .p) .p)) .p)) .p)) (.s .p (.s (.s .p (.lp ⟨[(12,.d (.sl .str)),(13,.d qI)],[],[0,1,6],[0],[],3025⟩ ⟨[],[],[],[],[],3025⟩ true (.s .p (.s (.s .p (.s (qd 22) (.s (.s (qd 10) .p) .p))) .p)))) .p)))) λ_=>by kernel_rfl,by kernel_rfl⟩
def c_167:Con te:=ag_ te [.d .str,.d (.st 3),.d (.st 15)] [(.str,[])] false (qu3 fp_)
theorem ok_167:OKF 167 c_167:=⟨ab_ ad_ (aa_ ok_203 ac_) Tryz.func167 (by kernel_rfl) (pl:=qp 3 (.s (.lp ⟨[(7,.d .str),(8,.d qI)],[],[0,4,5],[0,2],[],7⟩ ⟨[(7,.d .str)],[],[],[],[],7⟩ false (qp 2 (.j ⟨[(9,.d .str),(10,.d qI)],[],[0,4,5,7,8],[0,2],[],13⟩ false .p (.j ⟨[(9,.d .str),(10,.d qI)],[],[0,4,5,7,8],[0,2],[],13⟩ false .p .p)))) .p)) λ_=>by kernel_rfl,by kernel_rfl⟩
def c_204:Con te:=ag_ te [.d (.sl (.st 2)),.d .str] [(.sl (.st 2),[some 87])] false (qu2 h0_)
theorem ok_204:OKF 204 c_204:=⟨ab_ ad_ ac_ Tryz.func204 (by kernel_rfl) (pl:=qp 2 (.s (.s .p (.lp ⟨[(5,.one (.own 3)),(6,.d qI)],[(3,false,.row 87 (.st 2) [])],[0,1],[],[],4⟩ ⟨[(5,.one (.own 3))],[(3,false,.row 87 (.st 2) [])],[],[],[],4⟩ false (.s .p (.j ⟨[(5,.one (.own 8))],[(8,false,.row 87 (.st 2) [])],[0,1,6],[],[],9⟩ false .p .p)))) .p)) λ_=>by kernel_rfl,by kernel_rfl⟩
def c_237:Con te:=ag_ te [.d (.sl (.st 2)),.d .str] [(.str,[]),qB] false (qu2 k0_)
theorem ok_237:OKF 237 c_237:=⟨ab_ ad_ ac_ Tryz.func237 (by kernel_rfl) (pl := .s .p (.s (.s .p (.lp ⟨[(6,.d qI)],[],[0,1],[],[],3⟩ ⟨[],[],[],[],[],3⟩ true .p)) .p)) λ_=>by kernel_rfl,by kernel_rfl⟩
def c_205:Con te:=ag_ te [.d (.sl (.st 2)),.d (.sl (.st 2))] [qB] false (qu2 h2_)
theorem ok_205:OKF 205 c_205:=⟨ab_ ad_ (aa_ ok_237 ac_) Tryz.func205 (by kernel_rfl) (pl := .s .p (.s (.s .p (.lp ⟨[(5,.d qI)],[],[0,1],[],[],2⟩ ⟨[],[],[],[],[],2⟩ true .p)) .p)) λ_=>by kernel_rfl,by kernel_rfl⟩
def c_206:Con te:=ag_ te [.d (.sl (.st 2)),.d .str,.d .str] [(.sl (.st 2),[some 87])] false (qu3 l9_)
theorem ok_206:OKF 206 c_206:=⟨ab_ ad_ ac_ Tryz.func206 (by kernel_rfl) (pl:=qp 3 (.s (.s .p (.lp ⟨[(7,.one (.own 4)),(8,.d .bool),(9,.d qI)],[(4,false,.row 87 (.st 2) [])],[0,1,2],[],[],5⟩ ⟨[(7,.one (.own 4)),(8,.d .bool)],[(4,false,.row 87 (.st 2) [])],[1,2],[],[],5⟩ false (.s .p (.s (.s .p (.j ⟨[(8,.d .bool)],[(13,true,.box 87 (.st 2))],[0,1,2,7,9,10],[4],[],17⟩ false .p .p)) .p)))) (.j ⟨[(7,.one (.own 5))],[(5,false,.row 87 (.st 2) [])],[],[],[],6⟩ false .p .p))) λ_=>by kernel_rfl,by kernel_rfl⟩
def c_168:Con te:=ag_ te [.d (.st 3),.d .str,.d .str] [(.st 3,[]),qB] true (qu3 hC_)
theorem ok_168:OKF 168 c_168:=⟨ab_ ad_ (aa_ ok_206 (aa_ ok_205 (aa_ ok_129 (aa_ ok_204 ac_)))) Tryz.func168 (by kernel_rfl) (pl:=qp 4 (.s (.s .p (.s (.s (.dr [0,0,0,0,0,4,4,4,2,4] [5,6,7] false []) .p) .p)) (.s (.s .p (.lp ⟨[(11,.d qI)],[(0,true,.cells 39 [.v .str,.v .str,.v .str,.v .str,.v (.sl (.st 2)),.v .str]),(8,true,.row 87 (.st 2) [])],[3,6,8],[2],[],22⟩ ⟨[],[(0,true,.box 39 (.st 3))],[3,6],[2],[],22⟩ true (.s .p (.s (.s .p (.dr [0,0,0,0,0,0,0,0,0,0,0,0,1,4,2] [] false [])) .p)))) .p))) λ_=>by kernel_rfl,by kernel_rfl⟩
def c_169:Con te:=ag_ te [.d (.st 3),.d .str,.d .str] [(.st 3,[])] true (qu3 ke_)
theorem ok_169:OKF 169 c_169:=⟨ab_ ad_ ac_ Tryz.func169 (by kernel_rfl) (pl := .s .p (.j ⟨[],[(0,true,.box 39 (.st 3))],[3,6],[2],[],4⟩ false .p .p)) λ_=>by kernel_rfl,by kernel_rfl⟩
def c_239:Con te:=ag_ te [.d (.st 7)] [(.st 17,[some 268,some 4])] true λa=>bL_ a.1
theorem ok_239:OKF 239 c_239:=⟨ab_ ad_ ac_ Tryz.func239 (by kernel_rfl) (pl := .p) λ_=>by kernel_rfl,by kernel_rfl⟩
def cS_238(f:Xh->tX->Xa->Int->Int->(tL Int)->tO Xa):Con te:=ag_ te [.d (.st 7),.d .str,.g (.st 17) [some 268,some 4],.d qI,.d qI,.d (.sl qI)] [(.st 17,[some 268,some 4])] true (qu6 f)
theorem okS_238(f:Xh->tX->Xa->Int->Int->(tL Int)->tO Xa)(h:OKF 238 (cS_238 f)):OKF 238 (cS_238 (f3_ f)):=⟨ab_ ad_ (aa_ h ac_) Tryz.func238 (by kernel_rfl) (pl:=qp 4 (.s (qp 4 (.s (.s (.dr [0,0,0,0,0,0,0,0,0,1,0,0,0,0,1,1] [10,12,13,11] true [0,1,6]) .p) .p)) .p)) λ_=>by kernel_rfl,by kernel_rfl⟩
theorem okN_238:∀n,OKF 238 (cS_238 (as_ n))
 | 0=>⟨gL_ λ_=>rfl,by kernel_rfl⟩
 | n+1=>okS_238 _ (okN_238 n)
def c_238:Con te:=cS_238 (as_ BIG)
theorem ok_238:OKF 238 c_238:=okN_238 BIG
def c_240:Con te:=ag_ te [.d (.st 6),.d (.int .u8)] [qB] false (qu2 fU_)
theorem ok_240:OKF 240 c_240:=⟨ab_ ad_ ac_ Tryz.func240 (by kernel_rfl) (pl := .s .p (.s (qp 6 (.s (.s .p (.s (.s .p (.lp ⟨[(5,.d .bool),(6,.d qI)],[],[1,2],[0],[],13⟩ ⟨[(5,.d .bool)],[],[2],[0],[],13⟩ false .p)) .p)) .p)) .p)) λ_=>by kernel_rfl,by kernel_rfl⟩
def c_207:Con te:=ag_ te [.d (.st 7),.d .str,.d qI,.d .bool] [(.st 18,[])] true (qu4 k1_)
theorem ok_207:OKF 207 c_207:=⟨ab_ ad_ (aa_ ok_240 (aa_ ok_238 (aa_ ok_239 ac_))) Tryz.func207 (by kernel_rfl) (pl:=qp 2 (.s (.s .p (.lp ⟨[(10,.d qI)],[(7,true,.row 3 qI [])],[1,2,3,4,8,9],[0,2],[],11⟩ ⟨[],[(7,true,.row 3 qI [])],[1,2,3,4,8,9],[0,2],[],11⟩ false .p)) (.j ⟨[(11,.one (.ptr 11))],[(11,false,.cells 264 [.own 12,.own 13]),(12,false,.row 268 (.st 16) []),(13,false,.row 4 .bool [])],[1,2,3,4,8],[0,2],[],14⟩ false (.ot 0 (.free 1 (.free 4 (.free 5 (.alt 0 (.alt 2 (.alt 3 (.alt 6 (.alt 7 (.alt 8 .nil .nil) .nil) (.alt 7 (.alt 6 (.alt 8 .nil .nil) .nil) .nil)) (.alt 7 (.alt 3 (.alt 6 (.alt 8 .nil .nil) .nil) .nil) .nil)) (.alt 7 (.alt 2 (.alt 3 (.alt 6 (.alt 8 .nil .nil) .nil) .nil) .nil) .nil)) (.alt 2 (.alt 0 (.alt 3 (.alt 6 (.alt 7 (.alt 8 .nil .nil) .nil) (.alt 7 (.alt 6 (.alt 8 .nil .nil) .nil) .nil)) (.alt 7 (.alt 3 (.alt 6 (.alt 8 .nil .nil) .nil) .nil) .nil)) (.alt 3 (.alt 0 (.alt 6 (.alt 7 (.alt 8 .nil .nil) .nil) (.alt 7 (.alt 6 (.alt 8 .nil .nil) .nil) .nil)) (.alt 7 (.alt 0 (.alt 6 (.alt 8 .nil .nil) .nil) .nil) .nil)) (.alt 7 (.alt 0 (.alt 3 (.alt 6 (.alt 8 .nil .nil) .nil) .nil) (.alt 3 (.alt 0 (.alt 6 (.alt 8 .nil .nil) .nil) .nil) .nil)) .nil))) (.alt 7 (.alt 0 (.alt 2 (.alt 3 (.alt 6 (.alt 8 .nil .nil) .nil) .nil) .nil) (.alt 2 (.alt 0 (.alt 3 (.alt 6 (.alt 8 .nil .nil) .nil) .nil) (.alt 3 (.alt 0 (.alt 6 (.alt 8 .nil .nil) .nil) .nil) .nil)) .nil)) .nil))))))) (.s .p (.s (.s .p (.lp ⟨[(13,.d qI)],[(11,true,.cells 264 [.own 18,.own 19]),(18,false,.row 268 (.st 16) []),(19,false,.row 4 .bool []),(14,true,.box 234 (.st 18))],[1,2,3,4,8,11,12],[0,2],[],20⟩ ⟨[],[(14,true,.box 234 (.st 18))],[8,12],[2],[],18⟩ false (.s .p (.s (qp 2 (.s (.s .p (.lp ⟨[(15,.d .bool),(16,.d qI)],[(18,true,.row 268 (.st 16) []),(14,true,.box 234 (.st 18)),(5029,true,.cells 264 [.own 5035,.own 5036]),(5035,false,.row 268 (.st 16) []),(5036,false,.row 4 .bool [])],[1,2,3,4,8,11,12,13,14],[0,2,11,19],[],5037⟩ ⟨[],[(18,true,.row 268 (.st 16) []),(14,true,.box 234 (.st 18)),(5029,true,.cells 264 [.own 5035,.own 5036]),(5035,false,.row 268 (.st 16) []),(5036,false,.row 4 .bool [])],[1,2,3,4,8,11,12,13,14],[0,2,11,19],[],5037⟩ false (.s .p (.j ⟨[(15,.d .bool)],[(18,true,.row 268 (.st 16) []),(14,true,.box 234 (.st 18)),(5029,true,.cells 264 [.own 5042,.own 5043]),(5042,false,.row 268 (.st 16) []),(5043,false,.row 4 .bool [])],[1,2,3,4,8,11,12,13,14,16],[0,2,11,19],[],5044⟩ false (.s (.dr [0,0,0,0,0,0,0,0,0,0,1,2] [] false []) (.j ⟨[(15,.d .bool)],[(18,true,.row 268 (.st 16) []),(14,true,.box 234 (.st 18))],[1,2,3,4,8,11,12,13,14,16,17],[0,2,11,19,5029,5035,5036,5053],[],5057⟩ false .p (.s (qd 11) (.s (.dr [0,0,0,0,0,0,0,0,0,0,0,0,0,0,0,0,0,0,2,2] [] false []) .p)))) .p)))) .p)) .p)))) .p))))) λ_=>by kernel_rfl,by kernel_rfl⟩
def c_171:Con te:=ag_ te [.d (.st 7),.d .str] [(.sl qI,[some 3]),qB] false (qu2 e2_)
theorem ok_171:OKF 171 c_171:=⟨ab_ ad_ (aa_ ok_207 ac_) Tryz.func171 (by kernel_rfl) (pl:=qp 2 (.s (.dr [1,0,0,1,0,0,4,4] [1,4,2,5] true []) .p)) λ_=>by kernel_rfl,by kernel_rfl⟩
def c_131:Con te:=ag_ te [.d (.st 1),.d (.st 3)] [(.st 3,[]),(.str,[]),qB] true (qu2 hD_)
theorem ok_131:OKF 131 c_131:=⟨ab_ ad_ (aa_ ok_171 (aa_ ok_170 (aa_ ok_150 (aa_ ok_169 (aa_ ok_168 (aa_ ok_167 (aa_ ok_44 (aa_ ok_75 ac_)))))))) Tryz.func131 (by kernel_rfl) (pl:=qp 5 (.s (.s .p (.lp ⟨[(8,.d .str),(10,.d qI)],[(4013,true,.box 39 (.st 3)),(4018,true,.cells 191 [.v .str,.own 4021]),(4021,false,.row 3 qI [])],[2,4,7,9],[0,4],[],4022⟩ ⟨[(8,.d .str)],[(4013,true,.box 39 (.st 3))],[4,7],[4],[],4021⟩ true (.s .p (.s (qp 3 (.j ⟨[(8,.d .str),(13,.d .bool)],[(4013,true,.box 39 (.st 3)),(4018,true,.cells 191 [.v .str,.own 4043]),(4043,false,.row 3 qI [])],[2,4,7,9,10],[0,4],[],4044⟩ false (qp 10 (qd 11)) .p)) .p)))) .p)) λ_=>by kernel_rfl,by kernel_rfl⟩
def c_94:Con te:=ag_ te [.d (.sl (.st 1)),.d (.st 3)] [(.st 3,[]),(.str,[]),qB] true (qu2 jV_)
theorem ok_94:OKF 94 c_94:=⟨ab_ ad_ (aa_ ok_131 ac_) Tryz.func94 (by kernel_rfl) (pl := .s .p (.s (.s .p (.lp ⟨[(7,.d qI)],[],[0,3,4],[0,2],[],7⟩ ⟨[],[],[4],[2],[],7⟩ true (.s .p (.s (.s (.df [0,0,0,0,0,1,4,4,4,4,1,2,4,4] [] 5) .p) .p)))) .p)) λ_=>by kernel_rfl,by kernel_rfl⟩
def c_58:Con te:=ag_ te [.d (.st 5),.d (.st 3)] [(.st 5,[]),qJ] true (qu2 hc_)
theorem ok_58:OKF 58 c_58:=⟨ab_ ad_ (aa_ ok_91 (aa_ ok_94 (aa_ ok_18 ac_))) Tryz.func58 (by kernel_rfl) (pl:=qp 3 (.j ⟨[(9,.d .str)],[(24,true,.box 39 (.st 3))],[2,4,8],[0,4],[],30⟩ false .p (.s (.s .p (.lp ⟨[(11,.d qI)],[],[2,4,8,9],[0,4,24],[],31⟩ ⟨[],[],[2,4],[0,4],[],31⟩ true .p)) .p))) λ_=>by kernel_rfl,by kernel_rfl⟩
def c_56:Con te:=ag_ te [.d (.st 5),.d qI,.d qI,.d .str] [(.st 5,[]),qJ,qJ] true (qu4 jW_)
theorem ok_56:OKF 56 c_56:=⟨ab_ ad_ (aa_ ok_58 (aa_ ok_93 (aa_ ok_92 (aa_ ok_61 ac_)))) Tryz.func56 (by kernel_rfl) (pl := .p) λ_=>by kernel_rfl,by kernel_rfl⟩
def c_57:Con te:=ag_ te [.d (.st 5),.d qI,.d qI] [(.st 5,[])] true (qu3 jX_)
theorem ok_57:OKF 57 c_57:=⟨ab_ ad_ (aa_ ok_91 (aa_ ok_61 ac_)) Tryz.func57 (by kernel_rfl) (pl:=qp 4 (.j ⟨[],[(14014,true,.box 66 (.st 4))],[1,3,6,7],[0,2],[],14024⟩ false .p .p)) λ_=>by kernel_rfl,by kernel_rfl⟩
def c_22:Con te:=ag_ te [.d (.st 5),.d (.st 13)] [(.st 5,[]),(.st 14,[])] true (qu2 k2_)
theorem ok_22:OKF 22 c_22:=⟨ab_ ad_ (aa_ ok_58 (aa_ ok_57 (aa_ ok_56 (aa_ ok_55 (aa_ ok_54 ac_))))) Tryz.func22 (by kernel_rfl) (pl:=qp 2 (.j ⟨[],[(0,true,.box 27 (.st 5)),(9,true,.box 49 (.st 14))],[2,4,5,6],[4,6],[],13⟩ false .p (.s (.dr [0,0,1,1] [] true [4,6]) .p))) λ_=>by kernel_rfl,by kernel_rfl⟩
def c_6:Con te:=ag_ te [.d (.st 5),.d (.st 13)] [qB] false (qu2 dx_)
theorem ok_6:OKF 6 c_6:=⟨ab_ ad_ (aa_ ok_14 (aa_ ok_12 (aa_ ok_22 (aa_ ok_21 (aa_ ok_9 (aa_ ok_15 (aa_ ok_17 (aa_ ok_13 ac_)))))))) Tryz.func6 (by kernel_rfl) (pl := .p) λ_=>by kernel_rfl,by kernel_rfl⟩
end
end Go.Proofs.YtfbcbakhdkppoaaGreatDoor
namespace Go
namespace Rt
theorem ar_{n:Int}(h:I64 n):w64 n=n:=by
 unfold w64;rw[IntKind.wrap_i64];omega
theorem lj_{n:Int}(h:I64 n):IntKind.i64.wrap n=n:=ar_ h
theorem wu8(n:Int):IntKind.u8.wrap n=n%256:=IntKind.wrap_u8 n
theorem mc_{a:Nat}(f:a<2^64):(BitVec.ofInt 64 (a:Int)).toNat=a:=by
 rw[BitVec.toNat_ofInt];have:((a:Int)%((2^64:Nat):Int))=((a%2^64:Nat):Int):=by omega
 rw[this];simp;omega
theorem andI_nat{a b:Nat}(h:a<2^63)(f:b<2^63):andI .i64 a b=((a&&&b:Nat):Int):=by
 have j:a&&&b<2^63:=Nat.and_lt_two_pow a f;show IntKind.i64.wrap (((BitVec.ofInt 64 (a:Int)&&&BitVec.ofInt 64 (b:Int)).toNat:Nat):Int)=_;rw[BitVec.toNat_and,mc_ (by omega),mc_ (by omega)];exact lj_ ⟨by omega,by omega⟩
theorem andNotI_nat{a b:Nat}(f:a<2^63)(h:b<2^63):le_ .i64 a b=((a&&&(2^64-1-b):Nat):Int):=by
 have j:a&&&(2^64-1-b)<2^63:=Nat.lt_of_le_of_lt Nat.and_le_left f;show IntKind.i64.wrap (((BitVec.ofInt 64 (a:Int) &&& ~~~(BitVec.ofInt 64 (b:Int))).toNat:Nat):Int)=_;rw[BitVec.toNat_and,BitVec.toNat_not,mc_ (by omega),mc_ (by omega)];exact lj_ ⟨by omega,by omega⟩
theorem bit_and{a k:Nat}:(a&&&2^k != 0)=(a/2^k%2==1):=by
 have p:a&&&2^k=if a.testBit k then 2^k else 0:=by
  apply Nat.eq_of_testBit_eq;intro i;rw[Nat.testBit_and,Nat.testBit_two_pow];by_cases f:k=i
  .subst f;cases h:a.testBit k<;>simp
  .cases h:a.testBit k<;>simp[f]
 rw[p];have j:a.testBit k=decide (a/2^k%2=1):=Nat.testBit_eq_decide_div_mod_eq;by_cases h:a/2^k%2=1
 .simp[j,h]
 .simp[j,h]
theorem al_{α β:Type}{x:tO α}{a:α}{f:α->tO β}{r:tO β}(h:x=some a)(hr:f a=r):x.bind f=r:=by subst h;exact hr
theorem ki_{α:Type}{c:tV}{A B r:α}(f:c=true)(h:A=r):(bif c then A else B)=r:=by subst f;exact h
theorem er_{α:Type}{c:tV}{A B r:α}(f:c=false)(h:B=r):(bif c then A else B)=r:=by subst f;exact h
theorem loopF_run{σ β:Type}{body:σ->tO (Step σ β)}(I:Nat->σ->β->Prop)
  (p:∀s b,I 0 s b->body s=some (.done b))
  (h:∀k s b,I (k+1) s b->body s=some (.done b)\/∃s',body s=some (.next s')/\I k s' b):∀{k n:Nat} {s:σ} {b:β},I k s b->k<n->af_ body n s=some b
 | 0,n+1,s,b,j,_=>by simp only[af_,p s b j]
 | k+1,n+1,s,b,j,x=>by
  simp only[af_];rcases h k s b j with u|⟨s',q,f⟩
  .rw[u]
  .rw[q];exact loopF_run I p h f (by omega)
theorem ik_{σ β:Type}{body:σ->tO (Step σ β)}(n:Nat)(q:n<BIG)(J:Nat->σ->β->Prop)(y:∀s b,J n s b->body s=some (.done b))
  (h:∀i s b,i<n->J i s b->body s=some (.done b)\/∃s',body s=some (.next s')/\J (i+1) s' b) {s:σ} {b:β} (x:J 0 s b):af_ body BIG s=some b:=by
 refine loopF_run (λk s b=>k<=n/\J (n-k) s b) (λs b f=>y s b (by simpa using f.2)) (λk s b f => ?_) (k:=n) ⟨qE _,by simpa using x⟩ q;obtain⟨C,f⟩:=f;rcases h _ s b (by omega) f with u|⟨s',p,j⟩
 .exact .inl u
 .exact .inr ⟨s',p,by omega,by rwa [show n-(k+1)+1=n-k by omega]at j⟩
theorem bQ_{σ β:Type}{body:σ->tO (Step σ β)}(T:Nat->σ)(n:Nat)(p:n<BIG){b:β}(j:∀i,i<n->body (T i)=some (.next (T (i+1))))(q:body (T n)=some (.done b)):af_ body BIG (T 0)=some b:=by
 refine ik_ (J:=λi s h=>s=T i/\h=b) n p (λs h f => ?_) (λi s h hi f => ?_) ⟨rfl,rfl⟩
 .obtain⟨rfl,rfl⟩:=f;exact q
 .obtain⟨rfl,rfl⟩:=f;exact .inr ⟨_,j i hi,rfl,rfl⟩
theorem jt_{α β:Type}{body:Int->tO (Step Int (Out Unit β))}(xs:tL α)(p:α->tV)(r:β)(j:xs.length<BIG)
  (u:∀i (h:i<xs.length),body (i:Int)=if p xs[i]then some (.next ((i+1:Nat):Int))else some (.done (.ret r)))
  (q:body (xs.length:Int)=some (.done (.fall ()))):af_ body BIG 0=some (if xs.all p then .fall ()else .ret r):=by
 refine ik_ (J:=λi s b=>s=(i:Int)/\b=if(xs.drop i).all p then .fall ()else .ret r) xs.length j (λs b f => ?_) (λi s b hi f => ?_) (by simp)
 .obtain⟨rfl,rfl⟩:=f;rw[q];simp
 .obtain⟨rfl,rfl⟩:=f;rw[u i hi,qi hi,jR];cases x:p xs[i]with
  | true=>exact .inr ⟨_,rfl,rfl,by simp⟩
  | false=>exact .inl (by simp)
theorem aX_{α:Type}(xs:tL α)(i:Nat):ah_ xs (i:Int)=xs[i]? := by
 unfold ah_;rw[qL (by omega)];simp
theorem aq_{α:Type}{xs:tL α}{i:Nat}(h:i<xs.length):ah_ xs (i:Int)=some xs[i]:=by
 rw[aX_,qY h]
theorem aJ_{s:tX}{i:Nat}(h:i<s.length):ap_ s (i:Int)=some (s[i].toNat:Int):=by
 unfold ap_;rw[aq_ h];rfl
theorem byteI_nat(s:tX)(i:Nat):ap_ s (i:Int)=s[i]?.map λb=>(b.toNat:Int):=by
 unfold ap_;rw[aX_]
theorem bq_{a b:tX}(h:a.length+b.length<=9223372036854775807):cat a b=some (a++b):=by
 unfold cat;rw[qL h]
theorem az_{α:Type}{bytes:Nat}{xs f:tL α}(j:xs.length+f.length<=9223372036854775807)(h:(xs.length+f.length)*bytes<=140737488355328):room bytes xs f=some (xs++f):=by
 unfold room;rw[qL ⟨j,h⟩]
theorem ax_{α:Type}{xs:tL α}{lo hi:Int}(j:0<=lo)(h:lo<=hi)(f:hi<=xs.length):aP_ xs lo hi=some ((xs.take hi.toNat).drop lo.toNat):=by
 unfold aP_;rw[qL ⟨j,h,f⟩]
theorem il_{α:Type}{bytes:Nat}{z:α}{n:Int}(j:0<=n)(h:n<=9223372036854775807)(f:bytes*n<=281474976710656):et_ bytes z n=some (List.replicate n.toNat z):=by
 unfold et_;rw[qL ⟨j,h,f⟩]
theorem set_mid{α:Type}(A:tL α)(k:Nat)(z v:α):(A++List.replicate (k+1) z).set A.length v=A++[v]++List.replicate k z:=by
 simp[List.replicate_succ]
theorem lk_{a b:tX}:(a==b)=decide (a=b):=by
 rw[zL];simp
end Rt
end Go
namespace Go.Proofs.YtfbcbakhdkppoaaGreatDoor
open Go.Rt Go.RowKit
theorem an_{σ β:Type}{body:σ->tO (Step σ β)}{s s':σ}{n:Nat}{r:tO β}(h:body s=some (.next s'))(hr:af_ body n s'=r):af_ body (n+1) s=r:=by
 simp only[af_,h];exact hr
theorem aj_{σ β:Type}{body:σ->tO (Step σ β)}{s:σ}{n:Nat}{b:β}(h:body s=some (.done b)):af_ body (n+1) s=some b:=by
 simp only[af_,h]
def bh_{α β:Type}(g:Nat->α->tO β):Nat->tL α->tO β
 | _,[]=>none
 | i,x::l=>match g i x with
  | some r=>some r
  | none=>bh_ g (i+1) l
def outO{β:Type}:tO β->Out Unit β|some r => .ret r|none => .fall ()
theorem aB_{i n:Nat}(h:i<n):decide ((i:Int)<(n:Int))=true:=by simpa using h
theorem aM_(n:Nat):decide ((n:Int)<(n:Int))=false:=by simp
theorem ai_{i:Nat}(h:i<9223372036854775807):w64 ((i:Int)+1)=((i+1:Nat):Int):=by
 rw[ar_ ⟨by omega,by omega⟩];rfl
theorem w_pred{i:Nat}(f:0<i)(h:i<9223372036854775807):w64 ((i:Int)-1)=((i-1:Nat):Int):=by
 rw[ar_ ⟨by omega,by omega⟩];omega
def dr_{β:Type}(o:tO β)(i:Nat):Step Int (Out Unit β):=match o with|some r => .done (.ret r)|none => .next ((i+1:Nat):Int)
theorem bw_{α β:Type}{body:Int->tO (Step Int (Out Unit β))}(xs:tL α)(g:Nat->α->tO β)(j:xs.length<BIG)
  (q:∀i (h:i<xs.length),body (i:Int)=some (dr_ (g i xs[i]) i))
  (p:body (xs.length:Int)=some (.done (.fall ()))):af_ body BIG 0=some (outO (bh_ g 0 xs)):=by
 refine ik_ (J:=λi s b=>s=(i:Int)/\b=outO (bh_ g i (xs.drop i))) xs.length j (λs b f => ?_) (λi s b hi f => ?_) (by simp)
 .obtain⟨rfl,rfl⟩:=f;rw[p];simp[bh_,outO]
 .obtain⟨rfl,rfl⟩:=f;rw[q i hi,qi hi];simp only[bh_];cases u:g i xs[i]with
  | some r=>exact .inl rfl
  | none=>exact .inr ⟨_,rfl,rfl,rfl⟩
theorem bD_{β:Type}{L:tO (Out Unit β)}{k:Out Unit β->tO β}{o:tO β}{x:β}(h:L=some (outO o))(j:∀r,k (.ret r)=some r)(f:k (.fall ())=some x):Option.bind L k=some (o.getD x):=by
 subst h;cases o with
 | some r=>exact j r
 | none=>exact f
theorem gy_{α β:Type}(p:α->tV)(f:α->β):∀(k:Nat) (l:tL α),bh_ (λ_ x=>if p x then some (f x)else none) k l=(l.find? p).map f
 | _,[]=>rfl
 | k,x::l=>by
  simp only[bh_,List.find?_cons];cases p x with
  | true=>rfl
  | false=>exact gy_ p f (k+1) l
theorem scan_idx{α:Type}(p:α->tV):∀(k:Nat) (l:tL α),bh_ (λi x=>if p x then some ((i:Nat):Int)else none) k l=(l.findIdx? p).map λi=>((k+i:Nat):Int)
 | _,[]=>rfl
 | k,x::l=>by
  simp only[bh_,List.findIdx?_cons];cases p x with
  | true=>rfl
  | false =>
   simp only[qM,zY];rw[scan_idx p (k+1) l];cases l.findIdx? p with
   | none=>rfl
   | some i=>simp only[zn];congr 2;omega
theorem scan_none{α β:Type}{g:Nat->α->tO β}:∀{k:Nat} {l:tL α},bh_ g k l=none↔∀i x,l[i]? = some x->g (k+i) x=none
 | _,[]=>⟨λ_ i x h=>by simp at h,λ_=>rfl⟩
 | k,x::l=>by
  simp only[bh_];constructor
  .intro h;split at h
   .cases h
   .rename_i j;intro i y f;cases i with
    | zero=>simp at f;subst f;exact j
    | succ i=>have:=(scan_none (k:=k+1)).1 h i y (by simpa using f);rwa [show k+1+i=k+(i+1)by omega]at this
  .intro h;have j:=h 0 x rfl;rw[jP]at j;rw[j];exact scan_none.2 λi y f=>by rw[show k+1+i=k+(i+1)by omega];exact h (i+1) y (by simpa using f)
theorem ix_{α β:Type}{g:Nat->α->tO β}{r:β}:∀{k:Nat} {l:tL α},bh_ g k l=some r->∃i x,l[i]? = some x/\g (k+i) x=some r/\∀j y,j<i->l[j]? = some y->g (k+j) y=none
 | _,[],h=>by cases h
 | k,x::l,h=>by
  simp only[bh_]at h;split at h
  .rename_i r' p;obtain rfl:=qSj h;exact⟨0,x,rfl,p,λj y s=>by omega⟩
  .rename_i p;obtain⟨i,y,D,C,u⟩:=ix_ h;refine⟨i+1,y,by simpa using D,by rw[show k+(i+1)=k+1+i by omega];exact C,λj q s f => ?_⟩;cases j with
   | zero=>simp at f;subst f;exact p
   | succ j=>rw[show k+(j+1)=k+1+j by omega];exact u j q (by omega) (by simpa using f)
def at_{α:Type}(p:α->tV)(l:tL α):Int:=match l.findIdx? p with|some i=>(i:Int)|none => -1
theorem pL_{α:Type}(p:α->tV)(l:tL α):(bh_ (λi x=>if p x then some ((i:Nat):Int)else none) 0 l).getD (-1)=at_ p l:=by
 rw[scan_idx];unfold at_;cases l.findIdx? p<;>simp
theorem pM_{α:Type}(p:α->tV)(l:tL α):(l.find? p=none/\at_ p l = -1)\/∃(i:Nat) (x:α),l.find? p=some x/\at_ p l=(i:Int)/\l[i]? = some x/\p x=true/\∀j y,j<i->l[j]? = some y->p y=false:=by
 unfold at_;cases h:l.findIdx? p with
 | none =>
  refine .inl ⟨?_,rfl⟩;rw[jr];intro x D;rw[List.findIdx?_eq_none_iff]at h;simpa using h x D
 | some i =>
  obtain⟨q,C,f⟩:=jU.1 h;refine .inr ⟨i,l[i],?_,rfl,qY q,C,λj y s u => ?_⟩
  .rw[List.find?_eq_some_iff_getElem];exact⟨C,i,q,rfl,λj s=>by simpa using f j s⟩
  .have:=f j s;rw[qY (by omega)]at u;obtain rfl:=qSj u;simpa using this
theorem at_neg{α:Type}(p:α->tV)(l:tL α):decide (at_ p l<0)=(l.find? p).isNone:=by
 rcases pM_ p l with⟨h,f⟩|⟨i,x,h,f,_⟩
 .rw[h,f];rfl
 .rw[h,f];simp
theorem md_{α:Type}{n:Nat}{xs:tL α}(h:xs.length*n<=140737488355328)(f:xs.length<=9223372036854775807):room n ([]:tL α) xs=some xs :=
 az_ (by simpa using f) (by simpa using h)
theorem au_{n:Nat}(h:n<=9223372036854775807):n<BIG:=by unfold BIG;omega
theorem nb_(s p:tX):bJ_ s p=some (s.take p.length==p):=by
 unfold bJ_;by_cases h:p.length<=s.length
 .rw[show decide ((s.length:Int)>=(p.length:Int))=true by simpa using h];simp only[qW];rw[ax_ (qt 0) (by omega) (by omega)];simp
 .rw[show decide ((s.length:Int)>=(p.length:Int))=false by simpa using h];simp only[qZ,qBs];have:(s.take p.length==p)=false:=by
   rw[lk_];refine qV λe => ?_
   have:=qa List.length e;rw[qA]at this;omega
  rw[this]
theorem trimPre(s p:tX):strings_TrimPrefix s p=some (if s.take p.length==p then s.drop p.length else s):=by
 unfold strings_TrimPrefix c0_;rw[nb_];simp only[qBs];cases f:s.take p.length==p with
 | true =>
  have h:p.length<=s.length:=by
   rw[lk_]at f;have:=qa List.length (of_decide_eq_true f);rw[qA]at this;omega
  rw[qW,ax_ (by omega) (by omega) (qt _)];simp
 | false=>simp
theorem idxB_range(s:tX)(c:UInt8):dI_ s c = -1\/(0<=dI_ s c/\dI_ s c<s.length):=by
 induction s with
 | nil=>exact .inl rfl
 | cons b l f =>
  simp only[dI_];split
  .exact .inr ⟨qt 0,by simp only[qLc];omega⟩
  .split
   .exact .inl rfl
   .rename_i j h;rcases f with f|f
    .exact absurd (by rw[f];rfl) h
    .exact .inr ⟨by omega,by simp only[qLc];omega⟩
theorem qA_(s:tX)(c:UInt8):0<=dI_ s c↔s.contains c=true:=by
 induction s with
 | nil=>exact⟨λh=>absurd (show(0:Int) <= -1 from h) (by decide),λh=>by cases h⟩
 | cons b l j =>
  have e:dI_ (b::l) c=if b==c then 0 else if dI_ l c == -1 then -1 else dI_ l c+1:=rfl
  rw[e,zB];by_cases f:b=c
  .subst f;simp
  .have u:(b==c)=false:=qX.2 f;have q:(c==b)=false:=qX.2 λe=>f e.symm
   rw[u,q,zX,←j];rcases idxB_range l c with h|⟨h,_⟩
   .rw[h];simp
   .have p:(dI_ l c == -1)=false:=qX.2 (by omega);rw[p];simp only[qM,zY];omega
theorem pN_(s:tX)(c:UInt8):decide (dI_ s c>=0)=s.contains c:=by
 cases h:s.contains c with
 | true=>exact qK ((qA_ s c).2 h)
 | false=>exact qV λf=>by rw[(qA_ s c).1 f]at h;cases h
theorem mz_(s:tX)(c:UInt8):strings_Contains s [c]=some (s.contains c):=by
 unfold strings_Contains strings_Index stringslite_Index;simp only[qBs];rw[pN_]
def ae_(p:tX)(s:tX):Nat:=(s.takeWhile λb => !(p.contains b)).length
theorem ea_(p s:tX):ae_ p s<=s.length:=by
 unfold ae_;exact List.Sublist.length_le (List.takeWhile_sublist _)
theorem rL_(p:tX):∀(k:Nat) (s:tX),(bh_ (λi b=>if p.contains b then some ((i:Nat):Int)else none) k s).getD ((k+s.length:Nat):Int)=((k+ae_ p s:Nat):Int)
 | k,[]=>by simp[bh_,ae_]
 | k,b::s=>by
  simp only[bh_,ae_,zM];cases h:p.contains b with
  | true=>simp
  | false =>
   have f:=rL_ p (k+1) s;simp only[qf,zT,qM,zY,qLc];rw[show k+(s.length+1)=k+1+s.length by omega,f];unfold ae_
   congr 1
   omega
theorem toNat_u8(b:UInt8):(b.toNat:Int).toNat.toUInt8=b:=by simp
theorem nU_{s p:tX}(f:s.length<=9223372036854775807):fy_ s p=some ((ae_ p s:Nat):Int):=by
 unfold fy_;have h:=bw_ (body:=hP_ s p) s (λi b=>if p.contains b then some ((i:Nat):Int)else none) (au_ f) (λi hi=>by
  unfold hP_;rw[aB_ hi,qW,aJ_ hi];simp only[qBs];unfold strings_IndexByte stringslite_IndexByte;simp only[qBs];rw[toNat_u8,pN_];cases j:p.contains s[i]with
  | true=>rfl
  | false =>
   simp only[qZ,qM,zY,dr_];rw[ai_ (by omega)]) (by
  unfold hP_;rw[aM_];rfl)
 refine(bD_ (x:=((s.length:Nat):Int)) h (λr=>rfl) rfl).trans ?_;have:=rL_ p 0 s;rw[qh,qh]at this;rw[this]
def okN(n:Nat):tV:=(decide (97<=n)&&decide (n<=122))||(decide (48<=n)&&decide (n<=57))||n==45||n==95
def lowN(n:Nat):tV:=decide (97<=n)&&decide (n<=122)
def trimB(s:tX):tX:=if s.take 1==[33]then s.drop 1 else s
def h4_(s:tX):tV:=(trimB s).length>=1&&((trimB s).length<=32&&(lowN ((trimB s).headD 0).toNat&&(trimB s).all λb=>okN b.toNat))
theorem okN_int(n:Nat):((((decide ((n:Int)<97)||decide ((n:Int)>122))&&(decide ((n:Int)<48)||decide ((n:Int)>57)))&&((n:Int) != 45))&&((n:Int) != 95)) = !(okN n):=by
 unfold okN;rw[zL];simp only[qAn,zh,qDe,zt,ne_eq,qo,zS,jI,qDf,qX];omega
theorem isName_eq{s:tX}(U:s.length<=9223372036854775807):jH_ s=some (h4_ s):=by
 unfold jH_;have J:strings_TrimPrefix s [33]=some (trimB s):=trimPre s [33];rw[J];simp only[qBs];have u:(trimB s).length<=s.length:=by
  unfold trimB;split
  .rw[qC];omega
  .exact qE _
 unfold h4_;cases D:trimB s with
 | nil=>rfl
 | cons b t =>
  rw[D]at u;by_cases q:(b::t).length<=32
  .have C:decide (((b::t).length:Int)>32)=false:=qV (by omega);have O:((b::t:tX)==[])=false:=rfl;rw[C,O];have y:ap_ (b::t) 0=some (b.toNat:Int):=aJ_ (s:=b::t) (i:=0) (by simp);simp only[za,qZ,y,qBs];have M:decide ((b::t).length>=1)=true:=by simp
   rw[M,qK q];simp only[qm,List.headD_cons];by_cases x:lowN b.toNat=true
   .have j:=x;unfold lowN at j;simp only[qAn,qDe]at j;rw[qV (show ¬(b.toNat:Int)<97 by omega)];simp only[qZ];rw[qV (show ¬(b.toNat:Int)>122 by omega)];simp only[qBs,qZ,x,qm];have h:=jt_ (body:=gP_ (b::t)) (b::t) (λb=>okN b.toNat) false (au_ (by omega)) (λi hi=>by
     unfold gP_;rw[aB_ hi,qW,aJ_ hi];simp only[qBs];rw[okN_int];cases okN (b::t)[i].toNat with
     | true=>simp only[qN,qZ,zT];rw[ai_ (by omega)]
     | false=>rfl) (by
     unfold gP_;rw[aM_];rfl)
    refine al_ h ?_;cases(b::t).all λb=>okN b.toNat<;>rfl
   .have f:lowN b.toNat=false:=by simpa using x
    rw[f];have:¬(97<=b.toNat/\b.toNat<=122):=λ⟨G,F⟩=>by
     unfold lowN at f;rw[qK G,qK F]at f;cases f
    by_cases p:(b.toNat:Int)<97
    .rw[qK p];rfl
    .rw[qV p];simp only[qZ];rw[qK (show(b.toNat:Int)>122 by omega)];rfl
  .have C:decide (((b::t).length:Int)>32)=true:=qK (by omega);rw[C,qV q];simp
theorem secret_eq(s:tX):iX_ s=some (s.take 1==[33]):=by
 unfold iX_;cases s with
 | nil=>rfl
 | cons b t =>
  rw[qK (show((b::t).length:Int)>0 by simp only[qLc];omega),qW,show ap_ (b::t) 0=some (b.toNat:Int)from aJ_ (s:=b::t) (i:=0) (by simp)];simp only[qBs,zx,jj]
  congr 1
  rw[zL,qn,qn];constructor
  .intro h;have:b=33:=UInt8.toNat_inj.1 (by show b.toNat=33;omega);rw[this]
  .intro h;injection h with h _;rw[h];rfl
theorem okR_int(n i:Nat):(Option.bind (bif decide ((n:Int)>=97)then Option.bind (some (n:Int)) λy=>some (decide (y<=122))else some false) λ(F:tV) =>
  Option.bind (bif(!F)then
   Option.bind (bif((i:Int)==0)then some true else
    Option.bind (some (n:Int)) λD =>
    Option.bind (bif decide (D>=48)then
     Option.bind (some (n:Int)) λC =>
     some (decide (C<=57))
      else some false) λ(x:tV) =>
    Option.bind (bif x then some true else
     Option.bind (some (n:Int)) λu =>
     some (u==45)
     ) λ(s:tV) =>
    Option.bind (bif s then some true else
     Option.bind (some (n:Int)) λq =>
     some (q==95)
     ) λ(p:tV) =>
    some (!p)
    ) λ(j:tV) =>
   some j
    else some false) λ(h:tV)=>some h)=some (!(lowN n||(decide (i≠0)&&okN n))):=by
 unfold lowN okN;have G:decide ((n:Int)>=97)=decide (97<=n):=jg.2 (by omega);have f:decide ((n:Int)<=122)=decide (n<=122):=jg.2 (by omega);have O:decide ((n:Int)>=48)=decide (48<=n):=jg.2 (by omega);have M:decide ((n:Int)<=57)=decide (n<=57):=jg.2 (by omega);have U:((n:Int)==45)=(n==45):=by rw[zL,qn,qn];omega
 have J:((n:Int)==95)=(n==95):=by rw[zL,qn,qn];omega
 have c0:((i:Int)==0)=decide (i=0):=by rw[zL,qn,qDe];omega
 have cn:decide (i≠0) = !(decide (i=0)):=by simp
 simp only[qBs,G,f,O,M,U,J,c0,cn];cases decide (97<=n)<;>cases decide (n<=122)<;>cases decide (48<=n)<;>cases decide (n<=57)<;>cases n==45<;>cases n==95<;>cases decide (i=0)<;>rfl
theorem low_ok{n:Nat}(h:lowN n=true):okN n=true:=by
 unfold lowN at h;unfold okN;rw[h];rfl
def gName(i:Nat)(b:UInt8):tO tV:=if !(lowN b.toNat||(decide (i≠0)&&okN b.toNat))then some false else none
theorem scan_name:∀(t:tX) (k:Nat),0<k->bh_ gName k t=if t.all λb=>okN b.toNat then none else some false
 | [],_,_=>rfl
 | b::t,k,q=>by
  have p:gName k b=if okN b.toNat then none else some false:=by
   unfold gName;rw[qK (show k≠0 by omega),qm];cases f:okN b.toNat with
   | true=>simp
   | false =>
    cases j:lowN b.toNat with
    | true=>rw[low_ok j]at f;cases f
    | false=>rfl
  simp only[bh_,p,jR];by_cases f:okN b.toNat=true
  .simp only[f,zT,qm];exact scan_name t (k+1) (by omega)
  .have h:okN b.toNat=false:=by simpa using f
   simp[h]
theorem bind2_last{α γ:Type}{A:tO α}{B:α->tO tV}{f:tV->tO γ}{r:tV}(h:(Option.bind A λy=>Option.bind (B y) λz=>some z)=some r):(Option.bind A λy=>Option.bind (B y) f)=f r:=by
 cases A with
 | none=>cases h
 | some a =>
  simp only[qBs]at h ⊢;cases j:B a with
  | none=>rw[j]at h;cases h
  | some b =>
   rw[j]at h;simp only[qBs]at h ⊢;rw[qSj h]
theorem refName_eq{s:tX}(M:s.length<=9223372036854775807):kV_ s=some (h4_ s):=by
 unfold kV_;rw[secret_eq];have C:(Option.bind (some (s.take 1==[33])) λy1=>(bif y1 then(aP_ s 1 (s.length:Int)).bind λp=>some p else some s))=some (trimB s):=by
  simp only[qBs];unfold trimB;cases y:s.take 1==[33]with
  | true =>
   have u:1<=s.length:=by
    cases s with
    | nil=>cases y
    | cons b t=>simp
   rw[qW,ax_ (by omega) (by omega) (qt _)];simp
  | false=>rfl
 refine al_ C ?_;have q:(trimB s).length<=s.length:=by
  unfold trimB;split
  .rw[qC];omega
  .exact qE _
 have h:=bw_ (body:=hX_ (trimB s)) (trimB s) gName (au_ (by omega)) (λi hi=>by
  unfold hX_;rw[aB_ hi,qW,aJ_ hi];simp only[qBs];refine(bind2_last (okR_int (trimB s)[i].toNat i)).trans ?_;unfold gName;cases(lowN (trimB s)[i].toNat||(decide (i≠0)&&okN (trimB s)[i].toNat))with
  | true =>
   simp only[qN,qZ,qM,zY,dr_];rw[ai_ (by omega)]
  | false=>rfl) (by
  unfold hX_;rw[aM_];rfl)
 refine(bD_ (x:=(decide (((trimB s).length:Int)>=1)&&decide (((trimB s).length:Int)<=32))) h (λr=>rfl) rfl).trans ?_
 congr 1
 unfold h4_;cases J:trimB s with
 | nil=>rfl
 | cons b t =>
  have G:decide (((b::t).length:Int)>=1)=decide ((b::t).length>=1):=jg.2 (by omega);have F:decide (((b::t).length:Int)<=32)=decide ((b::t).length<=32):=jg.2 (by omega);rw[G,F];have D:gName 0 b=if lowN b.toNat then none else some false:=by
   unfold gName;cases lowN b.toNat<;>rfl
  simp only[bh_,D,List.headD_cons,jR];by_cases j:lowN b.toNat=true
  .rw[scan_name t (0+1) (by omega)];simp only[j,low_ok j,zT,qm];cases t.all λb=>okN b.toNat<;>simp
  .have f:lowN b.toNat=false:=by simpa using j
   simp[f]
theorem refPlain_eq{s:tX}(j:s.length<=9223372036854775807):jL_ s=some (decide (ae_ [0,10,13] s=s.length)):=by
 unfold jL_;have h:=bw_ (body:=g2_ s) s (λ_ b=>if([0,10,13]:tX).contains b then some false else none) (au_ j) (λi hi=>by
  unfold g2_;rw[aB_ hi,qW,aJ_ hi];simp only[qBs];have p:([0,10,13]:tX).contains s[i]=(((s[i].toNat:Int)==0)||(((s[i].toNat:Int)==10)||((s[i].toNat:Int)==13))):=by
   have key:∀k:UInt8,(s[i]==k)=((s[i].toNat:Int)==(k.toNat:Int)):=λk=>by
    rw[zL,qn,qn];exact⟨λe=>by rw[e],λe=>UInt8.toNat_inj.1 (by omega)⟩
   simp only[zB,jD,za];rw[key 0,key 10,key 13];rfl
  rw[p];cases((s[i].toNat:Int)==0)with
  | true=>rfl
  | false =>
   cases((s[i].toNat:Int)==10)with
   | true=>rfl
   | false =>
    cases((s[i].toNat:Int)==13)with
    | true=>rfl
    | false =>
     simp only[qZ,qBs,za,qM,zY,dr_];rw[ai_ (by omega)]) (by
  unfold g2_;rw[aM_];rfl)
 refine(bD_ (x:=true) h (λr=>rfl) rfl).trans ?_
 congr 1
 have:∀(k:Nat) (t:tX),(bh_ (λ_ b=>if([0,10,13]:tX).contains b then some false else none) k t).getD true=decide (ae_ [0,10,13] t=t.length):=by
  intro k t
  induction t generalizing k with
  | nil=>rfl
  | cons b t f =>
   simp only[bh_,ae_,zM];cases q:([0,10,13]:tX).contains b with
   | true=>simp
   | false =>
    simp only[qM,zY,qf,zT,qLc];rw[f (k+1)];unfold ae_;exact jg.2 (by omega)
 exact this 0 s
def dy_(l:tL Xx)(a:Xx):Int:=if l.length>=32 then 22 else if !(h4_ a.Xg)then 6 else if a.Xi && !(a.Xr==[])then 2 else if ae_ [0,10,13] a.Xr<a.Xr.length then 2 else if a.Xr.length>1024 then 4 else if l.any λb=>b.Xg==a.Xg then 7 else 0
theorem lH_(l:tL Xx)(p:Xx->tV)(f:l.length<=9223372036854775807):bm_ l (λa=>some (p a))=some (at_ p l):=by
 unfold bm_;have h:=bw_ (body:=bS_ l (λa=>some (p a))) l (λi x=>if p x then some ((i:Nat):Int)else none) (au_ f) (λi hi=>by
  unfold bS_;rw[aB_ hi,qW,aq_ hi];simp only[qBs];cases p l[i]with
  | true=>rfl
  | false =>
   simp only[qZ,qM,zY,dr_];rw[ai_ (by omega)]) (by
  unfold bS_;rw[aM_];rfl)
 refine(bD_ (x:=(-1:Int)) h (λr=>rfl) rfl).trans ?_;rw[pL_]
theorem at_any{α:Type}(p:α->tV)(l:tL α):decide (at_ p l>=0)=l.any p:=by
 have:=at_neg p l;have j:decide (at_ p l>=0) = !(decide (at_ p l<0)):=by
  by_cases h:at_ p l<0
  .rw[qK h,qV (by omega)];rfl
  .rw[qV h,qK (by omega)];rfl
 rw[j,this];cases f:l.find? p with
 | none =>
  rw[jr]at f
  symm;simp only[Option.isNone_none,qN,List.any_eq_false];exact f
 | some x =>
  symm;simp only[Option.isNone_some,qf,List.any_eq_true];exact⟨x,jH f,jb f⟩
theorem i5_(l:tL Xx)(p:Xx->tV)(f:l.length<=9223372036854775807):bx_ l (λa=>some (p a))=some (l.any p):=by
 unfold bx_;rw[lH_ l p f];simp only[qBs];rw[at_any]
theorem qB_{l:tL Xx}{a:Xx}(x:l.length<=9223372036854775807)(u:a.Xg.length<=9223372036854775807)(s:a.Xr.length<=9223372036854775807):gQ_ l a=some (dy_ l a):=by
 unfold gQ_ dy_;by_cases f:l.length>=32
 .rw[qK (show(l.length:Int)>=32 by omega),qL f];rfl
 .rw [qV (show ¬(l.length:Int)>=32 by omega),qP f,qZ,isName_eq u];simp only[qBs];cases h4_ a.Xg with
  | false=>rfl
  | true =>
   simp only[qN,qZ,qM,zY];cases a.Xi && !(a.Xr==[])with
   | true=>rfl
   | false =>
    simp only[qZ,qM,zY];rw[nU_ s];simp only[qBs];by_cases h:ae_ [0,10,13] a.Xr<a.Xr.length
    .rw[qK (show((ae_ [0,10,13] a.Xr:Nat):Int)<(a.Xr.length:Int)by omega),qL h];rfl
    .rw[qV (show ¬((ae_ [0,10,13] a.Xr:Nat):Int)<(a.Xr.length:Int)by omega),qP h,qZ];by_cases j:a.Xr.length>1024
     .rw[qK (show(a.Xr.length:Int)>1024 by omega),qL j];rfl
     .rw[qV (show ¬(a.Xr.length:Int)>1024 by omega),qP j,qZ];have:(λ(q:Xx)=>Option.bind (lF_ q a) λ(p:tV)=>some p)=λb=>some (b.Xg==a.Xg):=rfl
      rw[this,i5_ l _ x];simp only[qBs];cases l.any λb=>b.Xg==a.Xg<;>rfl
theorem o4_ {l:tL Xx} {a:Xx} (y:l.length<=9223372036854775807) (u:a.Xg.length<=9223372036854775807) (s:a.Xr.length<=9223372036854775807):iv_ l a=some (dy_ l a):=by
 unfold iv_ dy_;by_cases j:l.length>=32
 .rw[qK (show(l.length:Int)>=32 by omega),qL j];rfl
 .rw [qV (show ¬(l.length:Int)>=32 by omega),qP j,qZ,refName_eq u];simp only[qBs];cases h4_ a.Xg with
  | false=>rfl
  | true =>
   simp only[qN,qZ,qM,zY];cases a.Xi && !(a.Xr==[])with
   | true=>rfl
   | false =>
    simp only[qZ,qM,zY];rw[refPlain_eq s];simp only[qBs];have x:=ea_ [0,10,13] a.Xr;by_cases p:ae_ [0,10,13] a.Xr<a.Xr.length
    .rw[qV (show ¬ae_ [0,10,13] a.Xr=a.Xr.length by omega),qL p];rfl
    .rw [qK (show ae_ [0,10,13] a.Xr=a.Xr.length by omega),qP p];simp only[qN,qZ];by_cases q:a.Xr.length>1024
     .rw[qK (show(a.Xr.length:Int)>1024 by omega),qL q];rfl
     .rw[qV (show ¬(a.Xr.length:Int)>1024 by omega),qP q,qZ];have h:=jt_ (body:=iY_ l a) l (λb => !(b.Xg==a.Xg)) (7:Int) (au_ y) (λi hi=>by
       unfold iY_;rw[aB_ hi,qW,aq_ hi];simp only[qBs];cases l[i].Xg==a.Xg with
       | true=>rfl
       | false =>
        simp only[qZ,qf,zT];rw[ai_ (by omega)]) (by
       unfold iY_;rw[aM_];rfl)
      refine al_ h ?_;have f:(l.any λb=>b.Xg==a.Xg) = !(l.all λb => !(b.Xg==a.Xg)):=by
       rw[List.all_eq_not_any_not];simp
      rw[f];cases l.all λb => !(b.Xg==a.Xg)<;>rfl
theorem nW_{α β γ:Type}{body:Int×γ->tO (Step (Int×γ) (Out Unit β))}(c:γ)(xs:tL α)(g:Nat->α->tO β)(j:xs.length<BIG)
  (q:∀i (h:i<xs.length),body ((i:Int),c)=some (match g i xs[i]with|some r => .done (.ret r)|none => .next (((i+1:Nat):Int),c)))
  (p:body ((xs.length:Int),c)=some (.done (.fall ()))):af_ body BIG (0,c)=some (outO (bh_ g 0 xs)):=by
 refine ik_ (J:=λi s b=>s=((i:Int),c)/\b=outO (bh_ g i (xs.drop i))) xs.length j (λs b f => ?_) (λi s b hi f => ?_) (by simp)
 .obtain⟨rfl,rfl⟩:=f;rw[p];simp[bh_,outO]
 .obtain⟨rfl,rfl⟩:=f;rw[q i hi,qi hi];simp only[bh_];cases u:g i xs[i]with
  | some r=>exact .inl rfl
  | none=>exact .inr ⟨_,rfl,rfl,rfl⟩
structure AttrL(l:tL Xx):Prop where
 len:l.length<=9223372036854775807
 nm:∀a∈l,a.Xg.length<=9223372036854775807
 vl:∀a∈l,a.Xr.length<=9223372036854775807
def hF_(l:tL Xx)(i:Nat)(x:Xx):tO Int:=if dy_ (l.take i) x=0 then none else some (dy_ (l.take i) x)
def bU_(l:tL Xx):Int:=(bh_ (hF_ l) 0 l).getD 0
theorem o5_{l:tL Xx}(h:AttrL l):iQ_ l=some (bU_ l):=by
 unfold iQ_;have p:=bw_ (body:=hQ_ l) l (hF_ l) (au_ h.len) (λi hi=>by
  unfold hQ_;have j:=qk hi;have q:=h.len;rw[aB_ hi,qW,aq_ hi,ax_ (qt 0) (by omega) (by omega)];simp only[qBs,qTn,jN,zO];rw[qB_ (by rw[qA];omega) (h.nm _ j) (h.vl _ j)];simp only[qBs];unfold hF_;by_cases f:dy_ (l.take i) l[i]=0
  .rw[qL f,f];simp only[qy,qZ,dr_];rw[ai_ (by omega)]
  .rw[qP f,show(dy_ (l.take i) l[i] != 0)=true from zt.2 f];rfl) (by
  unfold hQ_;rw[aM_];rfl)
 exact bD_ (x:=(0:Int)) p (λr=>rfl) rfl
theorem p4_{l:tL Xx}(h:AttrL l):hx_ l=some (bU_ l):=by
 unfold hx_;have p:=bw_ (body:=g3_ l) l (hF_ l) (au_ h.len) (λi hi=>by
  unfold g3_;have j:=qk hi;have q:=h.len;rw[aB_ hi,qW,aq_ hi,ax_ (qt 0) (by omega) (by omega)];simp only[qBs,qTn,jN,zO];rw[o4_ (by rw[qA];omega) (h.nm _ j) (h.vl _ j)];simp only[qBs];unfold hF_;by_cases f:dy_ (l.take i) l[i]=0
  .rw[qL f,f];simp only[qy,qZ,dr_];rw[ai_ (by omega)]
  .rw[qP f,show(dy_ (l.take i) l[i] != 0)=true from zt.2 f];rfl) (by
  unfold g3_;rw[aM_];rfl)
 exact bD_ (x:=(0:Int)) p (λr=>rfl) rfl
def gl_(s:tX):Int:=if s.length>1024 then 4 else if s.contains 10 then 2 else 0
theorem rM_(s:tX):iV_ s=some (gl_ s):=by
 unfold iV_ gl_;by_cases h:s.length>1024
 .rw[qK (show(s.length:Int)>1024 by omega),qL h];rfl
 .rw[qV (show ¬(s.length:Int)>1024 by omega),qP h,qZ];have f:=jt_ (body:=hU_ s) s (λb => !(b==10)) (2:Int) (au_ (by omega)) (λi hi=>by
   unfold hU_;rw[aB_ hi,qW,aJ_ hi];simp only[qBs];have j:((s[i].toNat:Int)==10)=(s[i]==10):=by
    rw[zL,qn,qn];exact⟨λe=>UInt8.toNat_inj.1 (show s[i].toNat=10 by omega),λe=>by rw[e];rfl⟩
   rw[j];cases s[i]==10 with
   | true=>rfl
   | false =>
    simp only[qZ,qf,zT];rw[ai_ (by omega)]) (by
   unfold hU_;rw[aM_];rfl)
  refine al_ f ?_;have:s.contains 10 = !(s.all λb => !(b==10)):=by
   rw[List.contains_eq_any_beq,List.all_eq_not_any_not];simp only[Bool.not_not]
   congr 1
   funext b
   rw[zL,qn,qn];exact eq_comm
  rw[this];cases s.all λb => !(b==10)<;>rfl
def jY_(_:Nat)(s:tX):tO Int:=if gl_ s=0 then none else some (gl_ s)
def bf_(m:Xq):Int:=(bh_ jY_ 0 [m.Xu,m.Xe,m.Yz,m.Xt]).getD (if bU_ m.Xm=0 then(if m.Xm.any (·.Xi)then 2 else if m.Xl.length>65536 then 4 else 0)else bU_ m.Xm)
theorem fW_{m:Xq}(h:AttrL m.Xm):c1_ m=some (bf_ m):=by
 unfold c1_;have p:=nW_ (body:=gR_ m) [m.Xu,m.Xe,m.Yz,m.Xt] [m.Xu,m.Xe,m.Yz,m.Xt] jY_ (by unfold BIG;simp) (λi hi=>by
  unfold gR_;rw[aB_ hi,qW,aq_ hi];simp only[qBs];generalize([m.Xu,m.Xe,m.Yz,m.Xt]:tL tX)[i]=s;unfold jY_ gl_;by_cases j:s.length>1024
  .rw[qK (show(s.length:Int)>1024 by omega),qL j];rfl
  .rw[qV (show ¬(s.length:Int)>1024 by omega),qP j,qZ,mz_];simp only[qBs];cases s.contains 10 with
   | true=>rfl
   | false =>
    simp only[qZ,qM,zY,zT];have y:i<4:=hi;rw[ai_ (by omega)]) (by
  unfold gR_;rw[aM_];rfl)
 unfold bf_;cases f:bh_ jY_ 0 [m.Xu,m.Xe,m.Yz,m.Xt]with
 | some r =>
  rw[f]at p;exact al_ p rfl
 | none =>
  rw[f]at p;refine al_ p ?_;simp only[outO];rw[o5_ h];simp only[qBs,jh];by_cases q:bU_ m.Xm=0
  .rw[qL q,q];simp only[qy,qZ];unfold fM_;have:(λ(x:Xx)=>Option.bind (iR_ x) λ(u:tV)=>some u)=λb=>some b.Xi:=rfl
   rw[this,i5_ _ _ h.len];simp only[qBs];cases m.Xm.any (·.Xi)with
   | true=>rfl
   | false =>
    simp only[qZ,qM,zY];by_cases j:m.Xl.length>65536
    .rw[qK (show(m.Xl.length:Int)>65536 by omega),qL j];rfl
    .rw[qV (show ¬(m.Xl.length:Int)>65536 by omega),qP j];rfl
  .rw[qP q,show(bU_ m.Xm != 0)=true from zt.2 q];rfl
theorem fF_{m:Xq}(h:AttrL m.Xm):e0_ m=some (bf_ m):=by
 unfold e0_;have q:=nW_ (body:=g4_) [m.Xu,m.Xe,m.Yz,m.Xt] [m.Xu,m.Xe,m.Yz,m.Xt] jY_ (by unfold BIG;simp) (λi hi=>by
  unfold g4_;rw[aB_ hi,qW,aq_ hi];simp only[qBs];generalize([m.Xu,m.Xe,m.Yz,m.Xt]:tL tX)[i]=s;rw[rM_];simp only[qBs];unfold jY_;by_cases f:gl_ s=0
  .rw[qL f,f];simp only[qy,qZ];have y:i<4:=hi;rw[ai_ (by omega)]
  .rw[qP f,show(gl_ s != 0)=true from zt.2 f];rfl) (by
  unfold g4_;rw[aM_];rfl)
 unfold bf_;cases j:bh_ jY_ 0 [m.Xu,m.Xe,m.Yz,m.Xt]with
 | some r =>
  rw[j]at q;exact al_ q rfl
 | none =>
  rw[j]at q;refine al_ q ?_;simp only[outO];rw[p4_ h];simp only[qBs,jh];by_cases f:bU_ m.Xm=0
  .rw[qL f,f];simp only[qy,qZ];have x:=jt_ (body:=g5_ m) m.Xm (λa => !a.Xi) (2:Int) (au_ h.len) (λi hi=>by
    unfold g5_;have C:=h.len;rw[aB_ hi,qW,aq_ hi];simp only[qBs];cases m.Xm[i].Xi with
    | true=>rfl
    | false =>
     simp only[qZ,qf,zT];rw[ai_ (by omega)]) (by
    unfold g5_;rw[aM_];rfl)
   refine al_ x ?_;have p:(m.Xm.any (·.Xi)) = !(m.Xm.all λa => !a.Xi):=by
    rw[List.all_eq_not_any_not];simp
   rw[p];cases m.Xm.all λa => !a.Xi with
   | false=>rfl
   | true =>
    simp only[qN,qM,zY,zT];by_cases u:m.Xl.length>65536
    .rw[qK (show(m.Xl.length:Int)>65536 by omega),qL u];rfl
    .rw[qV (show ¬(m.Xl.length:Int)>65536 by omega),qP u];rfl
  .rw[qP f,show(bU_ m.Xm != 0)=true from zt.2 f];rfl
def dbl(s:tX):tX:=s.flatMap λb=>if b==39 then[39,39]else[b]
theorem pO_(a b:tX):dbl (a++b)=dbl a++dbl b:=by unfold dbl;rw[List.flatMap_append]
theorem o6_{s:tX}(h:s.contains 39=false):dbl s=s:=by
 induction s with
 | nil=>rfl
 | cons b t f =>
  rw[zB,zS]at h;unfold dbl at f ⊢;rw[List.flatMap_cons,f h.2];have:(b==39)=false:=by
   rw[qX];intro e;rw[e]at h;simp at h
  rw[this];rfl
theorem ll_(s:tX):(dbl s).length<=2*s.length:=by
 induction s with
 | nil=>simp[dbl]
 | cons b t h =>
  unfold dbl at h ⊢;rw[List.flatMap_cons,qLa,qLc];by_cases f:(b==39)=true
  .rw[qL f];simp only[qLc,qQ];omega
  .rw[qP f];simp only[qLc,qQ];omega
theorem bO_{c:UInt8}{s:tX}(h:s.contains c=true):s=s.take (ae_ [c] s)++c::s.drop (ae_ [c] s+1)/\(s.take (ae_ [c] s)).contains c=false/\dI_ s c=((ae_ [c] s:Nat):Int)/\ae_ [c] s<s.length:=by
 induction s with
 | nil=>cases h
 | cons b t q =>
  by_cases f:b=c
  .subst f;have j:ae_ [b] (b::t)=0:=by
    unfold ae_;rw[zM];simp
   rw[j];refine⟨rfl,rfl,?_,by simp⟩;simp[dI_]
  .have x:(b==c)=false:=qX.2 f;have p:(c==b)=false:=qX.2 λe=>f e.symm
   rw[zB,p,zX]at h;obtain⟨u,i2,i3,i4⟩:=q h;have j:ae_ [c] (b::t)=ae_ [c] t+1:=by
    unfold ae_;rw[zM];simp[f]
   rw[j];refine⟨?_,?_,?_,by simp only[qLc];omega⟩
   .rw[zx,List.drop_succ_cons,qc,←u]
   .rw[zx,zB,p,i2];rfl
   .have e:dI_ (b::t) c=if b==c then 0 else if dI_ t c == -1 then -1 else dI_ t c+1:=rfl
    rw[e,x,i3,show(((ae_ [c] t:Nat):Int) == -1)=false from qX.2 (by omega)];simp only[qM,zY];omega
theorem me_{c:UInt8}{s:tX}(h:0<s.count c):s.contains c=true:=by
 rw[zl];exact List.count_pos_iff.1 h
theorem rN_{c:UInt8}{s:tX}(h:s.count c=0):s.contains c=false:=by
 cases f:s.contains c with
 | false=>rfl
 | true =>
  rw[zl]at f;have:=List.count_pos_iff.2 f;omega
theorem nX_{c:UInt8}{s:tX}(h:s.contains c=false):s.count c=0:=by
 rcases zA (s.count c)with f|f
 .exact f
 .rw[me_ f]at h;cases h
theorem e3_(s:tX):bytesS (aG_ s)=s:=by
 unfold bytesS aG_;rw[List.map_map]
 conv=>rhs;rw[←List.map_id s]
 apply List.map_congr_left;intro b _;simp
theorem gz_(a b:tX):aG_ (a++b)=aG_ a++aG_ b:=jZ
theorem aE_(s:tX):(aG_ s).length=s.length:=ql _
def cs_(s:tX):Nat->Nat | 0=>0|i+1=>cs_ s i+ae_ [39] (s.drop (cs_ s i))+1
theorem posQ_ok{s:tX}:∀(i:Nat),i<=s.count 39->cs_ s i<=s.length/\(s.drop (cs_ s i)).count 39=s.count 39-i
 | 0,_=>⟨qO _,rfl⟩
 | i+1,hi=>by
  obtain⟨y,u⟩:=posQ_ok (s:=s) i (by omega);have p:(s.drop (cs_ s i)).contains 39=true:=me_ (by omega);obtain⟨j,h,_,f⟩:=bO_ p;rw[qC]at f;simp only[cs_];refine⟨by omega,?_⟩;have x:s.drop (cs_ s i+ae_ [39] (s.drop (cs_ s i))+1)=(s.drop (cs_ s i)).drop (ae_ [39] (s.drop (cs_ s i))+1):=by
   rw[zz];congr 1
  rw[x];have q:=qa (List.count 39) j;rw[List.count_append,nX_ h,List.count_cons_self,u]at q;omega
theorem take_next{t:tX}{u:Nat}{c:UInt8}(f:t=t.take u++c::t.drop (u+1))(p:u<t.length):t.take (u+1)=t.take u++[c]:=by
 have j:(t.take u).length=u:=by rw[qA];omega
 have h:=qa (List.take (u+1)) f;rw[List.take_append,j,qr (by omega:(t.take u).length<=u+1),show u+1-u=1 by omega]at h;rw[h];simp
theorem dbl_step{s:tX}{p:Nat}(_:p<=s.length)(q:(s.drop p).contains 39=true):dbl (s.take (p+ae_ [39] (s.drop p)+1))=dbl (s.take p)++((s.drop p).take (ae_ [39] (s.drop p))++[39,39]):=by
 obtain⟨j,h,_,f⟩:=bO_ q;have x:s.take (p+ae_ [39] (s.drop p)+1)=s.take p++(s.drop p).take (ae_ [39] (s.drop p)+1):=by
  rw[zG,List.take_add]
 have u:=take_next j f;rw[x,u,pO_,pO_,o6_ h];rfl
theorem tB_{s:tX}(Y:s.length<=1000000000):strings_ReplaceAll s [39] [39,39]=some (dbl s):=by
 have F:s.count 39<=s.length:=List.count_le_length;unfold strings_ReplaceAll strings_Replace;have O:((([39]:tX)==[39,39])||((-1:Int)==0))=false:=rfl;rw[O,qZ];have ec:strings_Count s [39]=some ((s.count 39:Nat):Int):=rfl;rw[ec];simp only[qBs];rcases zA (s.count 39)with p|p
 .rw[p,o6_ (rN_ p)];rfl
 .rw[show(((s.count 39:Nat):Int)==0)=false from qX.2 (by omega)];simp only[qZ,show decide ((-1:Int)<0)=true from rfl,jM,qW,qBs,qLc,qQ];have eg:growB ([]:tL Int) (w64 ((s.length:Int)+w64 (((s.count 39:Nat):Int)*w64 (((0+1+1:Nat):Int)-((0+1:Nat):Int)))))=some []:=by
   rw[ar_ (n:=((0+1+1:Nat):Int)-((0+1:Nat):Int)) ⟨by omega,by omega⟩,ar_ (n:=((s.count 39:Nat):Int)*_) ⟨by omega,by omega⟩,ar_ ⟨by omega,by omega⟩];unfold growB;rw[qK (by omega),qK (by omega)];rfl
  rw[eg];simp only[qBs];rw[show decide (((0+1:Nat):Int)>0)=true from rfl,qW];have C:=bQ_ (body:=du_ ((s.count 39:Nat):Int) s [39] [39,39]) (λi=>((cs_ s i:Int),(i:Int),aG_ (dbl (s.take (cs_ s i))))) (s.count 39) (au_ (by omega)) (λi hi=>by
   obtain⟨q,G⟩:=posQ_ok (s:=s) i (by omega);have h:(s.drop (cs_ s i)).contains 39=true:=me_ (by omega);obtain⟨V,U,x,u⟩:=bO_ h;have D:=dbl_step q h;have f:=ll_ (s.take (cs_ s i));rw[qA]at f;rw[qC]at u;unfold du_;simp only[];rw[aB_ hi,qW,ax_ (by omega) (by omega) (qt _)];simp only[qBs,qTn,qb];unfold strings_Index stringslite_Index;simp only[qBs];rw[x,ar_ (n:=(cs_ s i:Int)+_) ⟨by omega,by omega⟩,ax_ (by omega) (by omega) (by omega)];simp only[qBs];rw[show((cs_ s i:Int)+((ae_ [39] (s.drop (cs_ s i)):Nat):Int)).toNat=cs_ s i+ae_ [39] (s.drop (cs_ s i))by omega,qTn];have M:(s.take (cs_ s i+ae_ [39] (s.drop (cs_ s i)))).drop (cs_ s i)=(s.drop (cs_ s i)).take (ae_ [39] (s.drop (cs_ s i))):=by
    rw[jC];congr 1;omega
   rw[M];have y:((s.drop (cs_ s i)).take (ae_ [39] (s.drop (cs_ s i)))).length<=s.length:=by rw[qA,qC];omega
   rw[az_ (by rw[aE_,aE_];omega) (by rw[aE_,aE_];omega)];simp only[qBs];rw[az_ (by rw[qLa,aE_,aE_,aE_];simp only[qLc,qQ];omega) (by rw[qLa,aE_,aE_,aE_];simp only[qLc,qQ];omega)];simp only[qBs];have J:cs_ s (i+1)=cs_ s i+ae_ [39] (s.drop (cs_ s i))+1:=rfl;rw[ai_ (by omega),J,D,gz_,gz_,qS];rw[ar_ (n:=_+(([39]:tX).length:Int)) ⟨by simp only[qLc,qQ];omega,by simp only[qLc,qQ];omega⟩];rfl) (by
   unfold du_;simp only[];rw[aM_];rfl)
  have j:af_ (du_ ((s.count 39:Nat):Int) s [39] [39,39]) BIG (0,0,[])=some ((cs_ s (s.count 39):Int),aG_ (dbl (s.take (cs_ s (s.count 39))))):=C;rw[j];simp only[qBs];obtain⟨q,G⟩:=posQ_ok (s:=s) (s.count 39) (qE _);have h:(s.drop (cs_ s (s.count 39))).contains 39=false:=rN_ (by omega);have f:=ll_ (s.take (cs_ s (s.count 39)));rw[qA]at f;rw[ax_ (by omega) (by omega) (qt _)];simp only[qBs,qTn,qb];rw[az_ (by rw[aE_,aE_,qC];omega) (by rw[aE_,aE_,qC];omega)];simp only[qBs];rw[←gz_,e3_]
  congr 1
  conv=>rhs;rw[←zj (cs_ s (s.count 39)) s,pO_,o6_ h]
def kj_(s:tX):tX:=if s≠[]/\ae_ [32,9,39] s=s.length then s else 39::(dbl s++[39])
theorem quote_eq{s:tX}(p:s.length<=1000000000):kQ_ s=some (kj_ s):=by
 unfold kQ_ kj_;rw[nU_ (by omega),tB_ p];have q:=ll_ s;by_cases f:s=[]
 .subst f;rfl
 .rw[show(s==[])=false from qX.2 f];simp only[qf,qW,qBs];by_cases j:ae_ [32,9,39] s=s.length
  .rw[j,qL ⟨f,rfl⟩];simp
  .rw[qP λh=>j h.2,show(((ae_ [32,9,39] s:Nat):Int)==(s.length:Int))=false from qX.2 (by omega),qZ,bq_ (by simp only[qLc,qQ];omega)];simp only[qBs];rw[bq_ (by simp only[qLa,qLc,qQ];omega)];simp
theorem until_all(p s:tX):(ae_ p s=s.length)↔(s.any λb=>p.contains b)=false:=by
 induction s with
 | nil=>simp[ae_]
 | cons b t f =>
  unfold ae_ at f ⊢;rw[zM,jp];cases h:p.contains b with
  | true=>simp
  | false =>
   simp only[qf,zT,qLc,zX];rw[←f];omega
theorem aV_(b k:UInt8):((b.toNat:Int)==(k.toNat:Int))=(b==k):=by
 rw[zL,qn,qn];exact⟨λe=>UInt8.toNat_inj.1 (by omega),λe=>by rw[e]⟩
def oddB(b:UInt8):tV:=(b==32)||((b==9)||(b==39))
theorem odd_in(b:UInt8):([32,9,39]:tX).contains b=oddB b:=by
 simp only[oddB,zB,jD,za]
theorem aW_{α:Type}{l:tL α}{i:Nat}(h:i<l.length):l.take (i+1)=l.take i++[l[i]]:=by
 rw[List.take_succ_eq_append_getElem h]
theorem refQuote_eq{s:tX}(U:s.length<=1000000000):jM_ s=some (kj_ s):=by
 unfold jM_;have x:=bQ_ (body:=fm_ s) (λi=>(dbl (s.take i),((s==[])||(s.take i).any oddB),(i:Int))) s.length (au_ (by omega)) (λi hi=>by
  have f:=ll_ (s.take i);rw[qA]at f;unfold fm_;simp only[];rw[aB_ hi,qW,aJ_ hi,ai_ (by omega),ax_ (by omega) (by omega) (by omega)];simp only[qBs,qTn];have O:(s.take (i+1)).drop i=[s[i]]:=by
   rw[aW_ hi,List.drop_append,qA,show i-min i s.length=0 by omega,zi (by rw[qA];omega)];rfl
  rw[O,bq_ (by simp only[qLc,qQ];omega)];have J:((s[i].toNat:Int)==32)=(s[i]==32):=aV_ s[i] 32;have G:((s[i].toNat:Int)==9)=(s[i]==9):=aV_ s[i] 9;have F:((s[i].toNat:Int)==39)=(s[i]==39):=aV_ s[i] 39;rw[J,G,F,aW_ hi,pO_,List.any_append];have D:dbl [s[i]]=if s[i]==39 then[39,39]else[s[i]]:=by unfold dbl;simp
  rw[D];have C:([s[i]].any oddB)=oddB s[i]:=by simp
  rw[C,←Bool.or_assoc];generalize((s==[])||(s.take i).any oddB)=od;unfold oddB;by_cases j:s[i]=39
  .rw[j];simp only[zV,qBs,qW,zT];rw[bq_ (by simp only[qLa,qLc,qQ];omega)];cases od<;>simp
  .rw[show(s[i]==39)=false from qX.2 j];cases od<;>cases(s[i]==32)<;>cases(s[i]==9)<;>rfl) (by
  unfold fm_;simp only[];rw[aM_];rfl)
 have u:af_ (fm_ s) BIG ([],(s==[]),0)=some (dbl s,((s==[])||s.any oddB)):=by
  have p:(s==[]||(s.take 0).any oddB)=(s==[]):=by simp
  simp only[qb]at x;rw[p]at x;exact x
 refine al_ u ?_;have f:=ll_ s;unfold kj_;have q:=until_all [32,9,39] s;have M:(s.any λb=>([32,9,39]:tX).contains b)=s.any oddB:=by congr 1;funext b;exact odd_in b
 rw[M]at q;by_cases p:s=[]
 .subst p;rfl
 .rw[show(s==[])=false from qX.2 p];cases y:s.any oddB with
  | false =>
   rw[qL ⟨p,q.2 y⟩];rfl
  | true =>
   rw[qP λh=>by rw[q.1 h.2]at y;cases y];simp only[jE,qW];rw[bq_ (by simp only[qLc,qQ];omega)];simp only[qBs];rw[bq_ (by simp only[qLa,qLc,qQ];omega)];simp
def cF_(sep:tX):tL tX->tX | []=>[] | [x]=>x|x::y::l=>x++(sep++cF_ sep (y::l))
theorem mf_(sep x:tX):∀(l:tL tX),l≠[]->cF_ sep (l++[x])=cF_ sep l++(sep++x)
 | [],h=>absurd rfl h
 | [y],_=>rfl
 | y::z::l,_=>by
  have f:=mf_ sep x (z::l) (by simp);simp only[qc,cF_]at f ⊢;rw[f];simp
theorem lJ_(sep:tX):∀(l:tL tX),(cF_ sep l).length=l.flatten.length+sep.length*(l.length-1)
 | []=>rfl
 | [x]=>by simp[cF_]
 | x::y::l=>by
  have f:=lJ_ sep (y::l);simp only[cF_,qLa,zw,qLc]at f ⊢;rw[f];have:sep.length*(l.length+1+1-1)=sep.length+sep.length*(l.length+1-1):=by
   rw[show l.length+1+1-1=(l.length+1-1)+1 by omega,Nat.mul_succ];omega
  rw[this];omega
theorem o7_{l:tL tX}{i:Nat}(h:i<l.length):(l.take (i+1)).flatten.length=(l.take i).flatten.length+l[i].length:=by
 rw[aW_ h,zg,qLa];simp
theorem gA_(l:tL tX)(i:Nat):(l.take i).flatten.length<=l.flatten.length:=by
 have h:(l.take i++l.drop i).flatten.length=l.flatten.length:=by rw[zj]
 rw[zg,qLa]at h;omega
theorem Join_eq{xs:tL tX}{sep:tX}(C:0<sep.length)(hb:(cF_ sep xs).length<=1000000000)(hn:xs.length<=1000000)(G:sep.length<=1000):strings_Join xs sep=some (cF_ sep xs):=by
 have U:=lJ_ sep xs;unfold strings_Join;rcases qR xs.length 2 with F|F
 .match xs,F with
  | [],_=>rfl
  | [x],_=>rfl
 .rw[show((xs.length:Int)==0)=false from qX.2 (by omega),qZ,show((xs.length:Int)==1)=false from qX.2 (by omega),qZ,qK (show(sep.length:Int)>0 by omega),qW];rw[ar_ (n:=(xs.length:Int)-1) ⟨by omega,by omega⟩];have hq:(9223372036854775807:Int).tdiv ((xs.length:Int)-1)>=1000000000000:=by
   rw[Int.tdiv_eq_ediv_of_nonneg (by omega)];exact Int.le_ediv_of_mul_le (by omega) (by omega)
  have J:(9223372036854775807:Int).tdiv ((xs.length:Int)-1)<=9223372036854775807:=by
   rw[Int.tdiv_eq_ediv_of_nonneg (by omega)];exact Int.ediv_le_self _ (by omega)
  have eq:quoI .i64 9223372036854775807 ((xs.length:Int)-1)=some ((9223372036854775807:Int).tdiv ((xs.length:Int)-1)):=by
   unfold quoI;rw[qP (by omega),lj_ ⟨by omega,by omega⟩]
  rw[eq];simp only[qBs];rw[qV (show ¬(sep.length:Int)>=(9223372036854775807:Int).tdiv ((xs.length:Int)-1)by omega),qZ];simp only[qBs];have O:(sep.length:Int)*((xs.length:Int)-1)=((sep.length*(xs.length-1):Nat):Int):=by
   rw[Int.natCast_mul];congr 1;omega
  have ebase:w64 (0+w64 ((sep.length:Int)*((xs.length:Int)-1)))=((sep.length*(xs.length-1):Nat):Int):=by
   rw[O,ar_ (n:=((sep.length*(xs.length-1):Nat):Int)) ⟨by omega,by omega⟩,Int.zero_add,ar_ ⟨by omega,by omega⟩]
  rw[ebase];have q:=bQ_ (body:=eL_ xs) (λi=>(((sep.length*(xs.length-1)+(xs.take i).flatten.length:Nat):Int),(i:Int))) xs.length (au_ (by omega)) (λi hi=>by
   have f1:=o7_ hi;have f2:=gA_ xs i;have Y:=gA_ xs (i+1);unfold eL_;simp only[];rw[aB_ hi,qW,aq_ hi];simp only[qBs];rw[ar_ (n:=9223372036854775807-_) ⟨by omega,by omega⟩,qV (by omega),qZ];simp only[qBs];rw[ar_ (n:=_+(xs[i].length:Int)) ⟨by omega,by omega⟩,ai_ (by omega),f1]
   congr 4
   omega) (by
   unfold eL_;simp only[];rw[aM_];rfl)
  have p:af_ (eL_ xs) BIG (((sep.length*(xs.length-1):Nat):Int),0)=some ((sep.length*(xs.length-1)+xs.flatten.length:Nat):Int):=by
   simp only[qb]at q;exact q
  rw[p];simp only[qBs];have eg:growB ([]:tL Int) ((sep.length*(xs.length-1)+xs.flatten.length:Nat):Int)=some []:=by
   unfold growB;rw[qK (by omega),qK (by omega)];rfl
  rw[eg];simp only[qBs];have V:ah_ xs 0=some xs[0]:=aq_ (xs:=xs) (i:=0) (by omega);have D:xs[0].length<=xs.flatten.length:=by
   have:=o7_ (l:=xs) (i:=0) (by omega);have:=gA_ xs (0+1);omega
  rw[V];simp only[qBs];rw[az_ (by rw[aE_];simp only[qQ];omega) (by rw[aE_];simp only[qQ];omega)];simp only[qBs,zy];rw[ax_ (by omega) (by omega) (qt _)];simp only[qBs,qTn,qb];have y:(xs.drop (1:Int).toNat).length=xs.length-1:=by rw[qC];rfl
  have j:=bQ_ (body:=eM_ (xs.drop (1:Int).toNat) sep) (λi=>((i:Int),aG_ (cF_ sep (xs.take (i+1))))) (xs.length-1) (au_ (by omega)) (λi hi=>by
   have s:i+1<xs.length:=by omega
   have f:i<(xs.drop (1:Int).toNat).length:=by omega
   have f1:=o7_ s;have f2:=gA_ xs (i+1);have Y:=gA_ xs (i+1+1);have j1:=lJ_ sep (xs.take (i+1));have u:xs.take (i+1)≠[]:=λe=>by
    have:=qa List.length e;rw[qA,qQ]at this;omega
   have js:=mf_ sep xs[i+1] (xs.take (i+1)) u;rw[←aW_ s]at js;have M:sep.length*((xs.take (i+1)).length-1)<=sep.length*(xs.length-1):=Nat.mul_le_mul_left _ (by rw[qA];omega);unfold eM_;simp only[];rw[aB_ f,qW,aq_ f];simp only[qBs];rw[az_ (by rw[aE_,aE_];omega) (by rw[aE_,aE_];omega)];simp only[qBs];have e5:(xs.drop (1:Int).toNat)[i]=xs[i+1]:=by
    rw[List.getElem_drop]
    congr 1
    show 1+i=i+1;omega
   rw[e5,az_ (by rw[qLa,aE_,aE_,aE_];omega) (by rw[qLa,aE_,aE_,aE_];omega)];simp only[qBs];rw[ai_ (by omega),js,gz_,gz_,qS]) (by
   unfold eM_;simp only[];rw[y,aM_];rfl)
  have h:af_ (eM_ (xs.drop (1:Int).toNat) sep) BIG (0,aG_ xs[0])=some (aG_ (cF_ sep (xs.take (xs.length-1+1)))):=by
   have Z:cF_ sep (xs.take (0+1))=xs[0]:=by
    rw[aW_ (show 0<xs.length by omega)];rfl
   simp only[Z]at j;exact j
  rw[h];simp only[qBs];rw[e3_,show xs.length-1+1=xs.length by omega,qb]
def fG_(a:Xx):tX:=if a.Xi then a.Xg++[63]else a.Xg++(61::kj_ a.Xr)
def nc_(l:tL Xx):tX:=cF_ [32] (l.map fG_)
theorem nY_(s:tX):(kj_ s).length<=2*s.length+2:=by
 unfold kj_;have:=ll_ s;split
 .omega
 .simp only[qLc,qLa,qQ];omega
theorem f4_{l:tL Xx}{a:Xx}(h:dy_ l a=0):l.length<32/\h4_ a.Xg=true/\(a.Xi=true->a.Xr=[])/\ae_ [0,10,13] a.Xr=a.Xr.length/\a.Xr.length<=1024/\(l.any λb=>b.Xg==a.Xg)=false:=by
 unfold dy_ at h;split at h
 .cases h
 .rename_i x;split at h
  .cases h
  .rename_i q;split at h
   .cases h
   .rename_i f;split at h
    .cases h
    .rename_i u;split at h
     .cases h
     .rename_i s;split at h
      .cases h
      .rename_i p;have:=ea_ [0,10,13] a.Xr;refine⟨by omega,by simpa using q,λj => ?_,by omega,by omega,by simpa using p⟩;rw[j]at f;simpa using f
theorem tC_{l:tL Xx}:bU_ l=0↔∀i (h:i<l.length),dy_ (l.take i) l[i]=0:=by
 unfold bU_;constructor
 .intro h i hi;cases p:bh_ (hF_ l) 0 l with
  | none =>
   have:=scan_none.1 p i l[i] (qY hi);rw[qh]at this;unfold hF_ at this;split at this
   .rename_i q;exact q
   .cases this
  | some r =>
   rw[p]at h;obtain⟨j,x,u,f,_⟩:=ix_ p;unfold hF_ at f;split at f
   .cases f
   .rename_i q;have e:=qSj f;rw[zu]at h;omega
 .intro h;have:bh_ (hF_ l) 0 l=none:=scan_none.2 λi x s=>by
   obtain⟨hi,rfl⟩:=qj.1 s;unfold hF_;rw[qh,qL (h i hi)]
  rw[this];rfl
theorem mg_{s:tX}(h:h4_ s=true):s.length<=33:=by
 unfold h4_ at h;simp only[qAn,qDe]at h;have f:=h.2.1;unfold trimB at f;split at f
 .rw[qC]at f;omega
 .omega
structure AttrOK(l:tL Xx):Prop where
 len:l.length<=32
 nm:∀a∈l,h4_ a.Xg=true
 qv:∀a∈l,a.Xi=true->a.Xr=[]
 pl:∀a∈l,ae_ [0,10,13] a.Xr=a.Xr.length
 vl:∀a∈l,a.Xr.length<=1024
theorem iy_{l:tL Xx}(h:bU_ l=0):AttrOK l:=by
 rw[tC_]at h;have key:∀a∈l,∃m,dy_ m a=0:=λa f=>by
  obtain⟨i,hi,rfl⟩:=List.getElem_of_mem f;exact⟨_,h i hi⟩
 refine⟨?_,λa f => ?_,λa f => ?_,λa f => ?_,λa f => ?_⟩
 .rcases qR 32 l.length with p|p
  .have:=(f4_ (h 32 p)).1;rw[qA]at this;omega
  .exact p
 .obtain⟨m,j⟩:=key a f;exact(f4_ j).2.1
 .obtain⟨m,j⟩:=key a f;exact(f4_ j).2.2.1
 .obtain⟨m,j⟩:=key a f;exact(f4_ j).2.2.2.1
 .obtain⟨m,j⟩:=key a f;exact(f4_ j).2.2.2.2.1
theorem wordA_len{a:Xx}(f:h4_ a.Xg=true)(p:a.Xr.length<=1024):(fG_ a).length<=2100:=by
 have j:=mg_ f;have h:=nY_ a.Xr;unfold fG_;split
 .simp only[qLa,qLc,qQ];omega
 .simp only[qLa,qLc];omega
theorem o8_:∀{l:tL Xx},(∀a∈l,(fG_ a).length<=2100)->(cF_ [32] (l.map fG_)).length<=2101*l.length
 | [],_=>by simp[cF_]
 | [a],h=>by
  have:=h a (by simp);simp only[zH,jB,cF_,qLc,qQ];omega
 | a::b::l,h=>by
  have p:=h a (by simp);have f:=o8_ (l:=b::l) λx j=>h x (qG _ j)
  simp only[zH,cF_,qLa,qLc,qQ]at f ⊢;omega
theorem AttrOK.word{l:tL Xx}(h:AttrOK l):∀a∈l,(fG_ a).length<=2100:=λa f=>wordA_len (h.nm a f) (h.vl a f)
theorem AttrOK.take{l:tL Xx}(h:AttrOK l)(i:Nat):AttrOK (l.take i):=by
 have j:∀a∈l.take i,a∈l:=λa f=>zK f
 exact⟨by rw[qA];have:=h.len;omega,λa f=>h.nm a (j a f),λa f=>h.qv a (j a f),λa f=>h.pl a (j a f),λa f=>h.vl a (j a f)⟩
theorem nZ_{l:tL Xx}(h:AttrOK l):(nc_ l).length<=67232:=by
 have j:=o8_ h.word;have f:=h.len;unfold nc_;omega
theorem attrPrint_eq{l:tL Xx}(h:AttrL l):kR_ l=some (if bU_ l=0 then(nc_ l,0)else([],bU_ l)):=by
 unfold kR_;rw[o5_ h];simp only[qBs];by_cases f:bU_ l=0
 .have j:=iy_ f;have x:=j.len;rw[qL f,f];simp only[qy,qZ];rw[il_ (by omega) (by omega) (by omega)];simp only[qBs];have y:=bQ_ (body:=fN_ l) (λi=>((i:Int),(l.take i).map fG_)) l.length (au_ (by omega)) (λi hi=>by
   have u:=qk hi;have F:=mg_ (j.nm _ u);have C:=j.vl _ u;have D:=nY_ l[i].Xr;unfold fN_;simp only[];rw[aB_ hi,qW,aq_ hi];simp only[qBs];rw[aW_ hi,jZ,zH,jB];have p:fG_ l[i]=if l[i].Xi then l[i].Xg++[63]else l[i].Xg++(61::kj_ l[i].Xr):=rfl
   rw[p];cases l[i].Xi with
   | true =>
    rw[qW,bq_ (by simp only[qLc,qQ];omega)];simp only[qBs];rw[az_ (by rw[ql,qA];simp only[qLc,qQ];omega) (by rw[ql,qA];simp only[qLc,qQ];omega),ai_ (by omega)];rfl
   | false =>
    rw[qZ,bq_ (by simp only[qLc,qQ];omega)];simp only[qBs];rw[quote_eq (by omega)];simp only[qBs];rw[bq_ (by simp only[qLa,qLc,qQ];omega)];simp only[qBs];rw[az_ (by rw[ql,qA];simp only[qLc,qQ];omega) (by rw[ql,qA];simp only[qLc,qQ];omega),ai_ (by omega)];simp) (by
   unfold fN_;simp only[];rw[aM_];rfl)
  have s:af_ (fN_ l) BIG (0,[])=some (l.map fG_):=by
   simp only[qb]at y;exact y
  rw[s];simp only[qBs];have q:=nZ_ j;rw[Join_eq (by simp) (by unfold nc_ at q;omega) (by rw[ql];omega) (by simp)];rfl
 .rw[qP f,show(bU_ l != 0)=true from zt.2 f];rfl
theorem refPrint_eq{l:tL Xx}(h:AttrL l):jN_ l=some (if bU_ l=0 then(nc_ l,0)else([],bU_ l)):=by
 unfold jN_;rw[p4_ h];simp only[qBs];by_cases j:bU_ l=0
 .have q:=iy_ j;have y:=q.len;rw[qL j,j];simp only[qy,qZ];have C:=bQ_ (body:=fn_ l) (λi=>(cF_ [32] ((l.take i).map fG_),(i:Int))) l.length (au_ (by omega)) (λi hi=>by
   have x:=qk hi;have O:=mg_ (q.nm _ x);have F:=q.vl _ x;have G:=nY_ l[i].Xr;have U:=o8_ (l:=l.take i) (q.take i).word;rw[qA]at U;have f:∃p,(bif decide ((i:Int)>0)then(cat (cF_ [32] ((l.take i).map fG_)) [32]).bind λs=>some s else some (cF_ [32] ((l.take i).map fG_)))=some p/\p.length<=70000/\∀w,cF_ [32] ((l.take i).map fG_++[w])=p++w:=by
    cases i with
    | zero=>exact⟨[],rfl,by simp,λw=>rfl⟩
    | succ i =>
     rw[qK (show((i+1:Nat):Int)>0 by omega),qW,bq_ (by simp only[qLc,qQ];omega)];refine⟨_,rfl,by simp only[qLa,qLc,qQ];omega,λw => ?_⟩;rw[mf_ _ _ _ (λe=>by
      have:=qa List.length e;rw[ql,qA,qQ]at this;omega),qS]
   obtain⟨p,M,J,D⟩:=f;unfold fn_;simp only[];rw[aB_ hi,qW,aq_ hi,M];simp only[qBs];rw[aW_ hi,jZ,zH,jB,D];unfold fG_;cases l[i].Xi with
   | true =>
    rw[qW,bq_ (by omega)];simp only[qBs];rw[bq_ (by simp only[qLa,qLc,qQ];omega),ai_ (by omega)];simp
   | false =>
    rw[qZ,bq_ (by omega)];simp only[qBs];rw[bq_ (by simp only[qLa,qLc,qQ];omega)];simp only[qBs];rw[refQuote_eq (by omega)];simp only[qBs];rw[bq_ (by simp only[qLa,qLc,qQ];omega),ai_ (by omega)];simp) (by
   unfold fn_;simp only[];rw[aM_];rfl)
  have u:af_ (fn_ l) BIG ([],0)=some (cF_ [32] (l.map fG_)):=by
   simp only[qb]at C;exact C
  rw[u];rfl
 .rw[qP j,show(bU_ l != 0)=true from zt.2 j];rfl
def br_:tX->tO (tX×Nat)
 | []=>none
 | b::t=>if b=39 then(match t with
   | []=>some ([],1)
   | c::f=>if c=39 then(br_ f).map λp=>(39::p.1,p.2+2)else some ([],1))
  else(br_ t).map λp=>(b::p.1,p.2+1)
theorem hG_:∀(n:Nat) {s:tX} {p:tX×Nat},s.length<=n->br_ s=some p->p.2<=s.length/\p.1.length<=s.length/\1<=p.2
 | n,[],p,_,h=>by simp[br_]at h
 | n + 1,b::t,p,x,h=>by
  have j:t.length<=n:=by simpa using x
  unfold br_ at h;split at h
  .split at h
   .obtain rfl:=qSj h;simp
   .rename_i c u;split at h
    .cases f:br_ u with
     | none=>rw[f]at h;cases h
     | some q =>
      rw[f]at h;obtain rfl:=qSj h;have:=hG_ n (s:=u) (by simp at j;omega) f;simp only[qLc];omega
    .obtain rfl:=qSj h;simp
  .cases f:br_ t with
   | none=>rw[f]at h;cases h
   | some q =>
    rw[f]at h;obtain rfl:=qSj h;have:=hG_ n j f;simp only[qLc];omega
theorem iz_{s t:tX}{i:Nat}{b:UInt8}(h:s.drop i=b::t):i<s.length/\ap_ s (i:Int)=some (b.toNat:Int)/\s.drop (i+1)=t:=by
 have hi:i<s.length:=by
  rcases qR i s.length with f|f
  .exact f
  .rw[zi f]at h;cases h
 rw[qi hi]at h;injection h with f j;exact⟨hi,by rw[aJ_ hi,f],j⟩
theorem drop_nil{s:tX}{i:Nat}(hi:i<=s.length)(h:s.drop i=[]):i=s.length:=by
 have:=qa List.length h;rw[qC,qQ]at this;omega
theorem quoted_go {s:tX} (hs:s.length<=1000000000):∀(k:Nat) (rest:tX) (i:Nat) (buf:tL Int) (f:Nat),rest.length<=k->k<f->i<=s.length->s.drop i=rest->buf.length<=i ->
  af_ (cR_ s) f ((i:Int),buf)=some (match br_ rest with
   | some p => .ret (bytesS (buf++aG_ p.1),((i+p.2:Nat):Int),true)
   | none => .fall ()):=by
 intro k
 induction k with
 | zero =>
  intro rest i buf f hk hf hi J hb;obtain rfl:rest=[]:=zI.1 (by omega);obtain⟨f,rfl⟩:∃g,f=g+1:=⟨f-1,by omega⟩;obtain rfl:=drop_nil hi J;refine aj_ ?_;unfold cR_;simp only[];rw[aM_];rfl
 | succ k Y =>
  intro rest i buf f hk hf hi J hb;obtain⟨f,rfl⟩:∃g,f=g+1:=⟨f-1,by omega⟩;cases rest with
  | nil =>
   obtain rfl:=drop_nil hi J;refine aj_ ?_;unfold cR_;simp only[];rw[aM_];rfl
  | cons b t =>
   obtain⟨u,x,C⟩:=iz_ J;have F:t.length<=k:=by simpa using hk
   have hc:((b.toNat:Int)==39)=(b==39):=aV_ b 39;by_cases h:b=39
   .
    have q:((b.toNat:Int) != 39)=false:=by rw[bne,hc,h];rfl
    cases t with
    | nil =>
     have he:i+1=s.length:=drop_nil (by omega) C;refine aj_ ?_;unfold cR_;simp only[];rw[aB_ u,qW,x];simp only[qBs,q,qZ];rw[ai_ (by omega),show(((i+1:Nat):Int)==(s.length:Int))=true by rw[he];simp];simp only[qW,qBs];unfold br_;rw[qL h];simp[aG_]
    | cons c M =>
     obtain⟨Z,y,U⟩:=iz_ C;have G:((c.toNat:Int)==39)=(c==39):=aV_ c 39;have D:(((i+1:Nat):Int)==(s.length:Int))=false:=qX.2 (by omega);by_cases j:c=39
     .have V:((c.toNat:Int) != 39)=false:=by rw[bne,G,j];rfl
      refine an_ (s':=(((i+2:Nat):Int),buf++[39])) ?_ ?_
      .unfold cR_;simp only[];rw[aB_ u,qW,x];simp only[qBs,q,qZ];rw[ai_ (by omega),D];simp only[qZ,y,qBs,V];rw[az_ (by simp only[qLc,qQ];omega) (by simp only[qLc,qQ];omega)];simp only[qBs];rw[ai_ (by omega)]
      .have O:M.length<=k:=by simp at F;omega
       rw[Y M (i+2) (buf++[39]) f O (by omega) (by omega) U (by simp only[qLa,qLc,qQ];omega)]
       conv=>rhs;unfold br_
       rw[qL h];simp only[j,zT];cases br_ M with
       | none=>rfl
       | some p =>
        simp only[zn]
        congr 2
        simp only[aG_,zH,qS,qc,zy]
        congr 2
        omega
     .have V:((c.toNat:Int) != 39)=true:=by rw[bne,G,qX.2 j];rfl
      refine aj_ ?_;unfold cR_;simp only[];rw[aB_ u,qW,x];simp only[qBs,q,qZ];rw[ai_ (by omega),D];simp only[qZ,y,qBs,V,qW];unfold br_;rw[qL h];simp only[j,zY];simp[aG_]
   .have q:((b.toNat:Int) != 39)=true:=by rw[bne,hc,qX.2 h];rfl
    refine an_ (s':=(((i+1:Nat):Int),buf++[(b.toNat:Int)])) ?_ ?_
    .unfold cR_;simp only[];rw[aB_ u,qW,x];simp only[qBs,q,qW];rw[az_ (by simp only[qLc,qQ];omega) (by simp only[qLc,qQ];omega)];simp only[qBs];rw[ai_ (by omega)]
    .rw[Y t (i+1) (buf++[(b.toNat:Int)]) f F (by omega) (by omega) C (by simp only[qLa,qLc,qQ];omega)]
     conv=>rhs;unfold br_
     rw[qP h];cases br_ t with
     | none=>rfl
     | some p =>
      simp only[zn]
      congr 2
      simp only[aG_,zH,qS,qc,zy]
      congr 2
      omega
theorem quoted_eq{s:tX}(f:s.length<=1000000000):hq_ s=some (match br_ s with
  | some p=>(p.1,(p.2:Int),true)
  | none=>([],0,false)):=by
 unfold hq_;have h:=quoted_go f s.length s 0 [] BIG (qE _) (au_ (by omega)) (qO _) rfl (qE _);refine al_ h ?_;cases br_ s with
 | none=>rfl
 | some p =>
  simp only[zy,qh];rw[e3_]
def cV_(b:UInt8):tV:=(b==32)||(b==9)
def cc_(t:tX)(i:Nat):tV:=match t[i]? with|none=>true|some b=>cV_ b
def zeroA:Xx:=Xx.mk [] [] false
def ca_(t:tX):Int×Xx×Nat :=
 if(t.drop (ae_ [32,9,61,63,39] t)).take 1==[63]then
  if cc_ t (ae_ [32,9,61,63,39] t+1)then(0,Xx.mk (t.take (ae_ [32,9,61,63,39] t)) [] true,ae_ [32,9,61,63,39] t+1)else(2,zeroA,0)
 else if(t.drop (ae_ [32,9,61,63,39] t)).take 2==[61,39]then
  match br_ (t.drop (ae_ [32,9,61,63,39] t+2))with
  | none=>(48,zeroA,0)
  | some p=>if cc_ t (ae_ [32,9,61,63,39] t+(2+p.2))then(0,Xx.mk (t.take (ae_ [32,9,61,63,39] t)) p.1 false,ae_ [32,9,61,63,39] t+(2+p.2))else(2,zeroA,0)
 else if(t.drop (ae_ [32,9,61,63,39] t)).take 1==[61]then
  if(((t.drop (ae_ [32,9,61,63,39] t)).take (ae_ [32,9] (t.drop (ae_ [32,9,61,63,39] t)))).drop 1).contains 39 then(2,zeroA,0)
  else(0,Xx.mk (t.take (ae_ [32,9,61,63,39] t)) (((t.drop (ae_ [32,9,61,63,39] t)).take (ae_ [32,9] (t.drop (ae_ [32,9,61,63,39] t)))).drop 1) false,ae_ [32,9,61,63,39] t+ae_ [32,9] (t.drop (ae_ [32,9,61,63,39] t)))
 else(2,zeroA,0)
theorem until_at{p s:tX}{b:UInt8}(h:s[ae_ p s]? = some b):p.contains b=true:=by
 induction s with
 | nil=>simp at h
 | cons c t j =>
  unfold ae_ at h j;rw[zM]at h;cases f:p.contains c with
  | true =>
   rw[f]at h;simp at h;rw[←h];exact f
  | false =>
   rw[f]at h;simp only[qf,zT,qLc,List.getElem?_cons_succ]at h;exact j h
theorem kk_(b:UInt8):gO_ (b.toNat:Int)=some (cV_ b):=by
 unfold gO_ cV_;have h:((b.toNat:Int)==32)=(b==32):=aV_ b 32;have f:((b.toNat:Int)==9)=(b==9):=aV_ b 9;rw[h,f]
theorem tail_eq{t:tX}{i:Nat}(_:i<=t.length):(Option.bind (bif decide ((i:Int)<(t.length:Int))then
   (ap_ t (i:Int)).bind λp =>
   (gO_ p).bind λj =>
   some (!j)
    else some false) λ(f:tV)=>some f)=some (!(cc_ t i)):=by
 unfold cc_;rcases qR i t.length with h|h
 .rw[aB_ h,qW,aJ_ h,qY h];simp only[qBs];rw[kk_];rfl
 .rw[qV (by omega),qe h];rfl
theorem ju_{β:Type}{o:tO tV}{f:tV->tO β}{r:tV}(h:(Option.bind o λy=>some y)=some r):Option.bind o f=f r:=by
 cases o with
 | none=>cases h
 | some x=>simp only[qBs]at h ⊢;rw[qSj h]
theorem one_eq{t:tX}(ht:t.length<=1000000000):nL_ t=some ((ca_ t).2.1,((ca_ t).2.2:Int),(ca_ t).1):=by
 have G:=ea_ [32,9,61,63,39] t;unfold nL_ ca_;rw[nU_ (by omega)];generalize Z:ae_ [32,9,61,63,39] t=n at G;simp only[qBs];rw[ax_ (qt 0) (by omega) (by omega),ax_ (by omega) (by omega) (qt _)];simp only[qBs,qTn,jN,zO,qb];unfold strings_HasPrefix;rw[nb_,nb_,nb_];simp only[qBs,qLc,qQ,qh,Nat.reduceAdd];have f:(t.drop n).length=t.length-n:=qC;cases C:(t.drop n).take 1==[63]with
 | true =>
  have j:n<t.length:=by
   rcases qR n t.length with h|h
   .exact h
   .rw[zi h]at C;cases C
  simp only[qW,qBs,zT];rw[ai_ (by omega)];refine(ju_ (tail_eq (by omega))).trans ?_;cases cc_ t (n+1)<;>rfl
 | false =>
  simp only[qZ,qM,zY];cases y:(t.drop n).take 2==[61,39]with
  | true =>
   have j:n+2<=t.length:=by
    rw[lk_]at y;have:=qa List.length (of_decide_eq_true y);rw[qA,f]at this;simp only[qLc,qQ]at this;omega
   simp only[qW,zT];rw[ax_ (by omega) (by omega) (qt _)];simp only[qBs,qTn,qb];have V:(t.drop n).drop (2:Int).toNat=t.drop (n+2):=by rw[zz];rfl
   rw[V,quoted_eq (by rw[qC];omega)];cases D:br_ (t.drop (n+2))with
   | none=>rfl
   | some p =>
    have F:=hG_ (t.drop (n+2)).length (qE _) D;rw[qC]at F;simp only[qBs,qN,qZ];rw[ar_ (n:=2+(p.2:Int)) ⟨by omega,by omega⟩,ar_ ⟨by omega,by omega⟩,show(n:Int)+(2+(p.2:Int))=((n+(2+p.2):Nat):Int)by omega];refine(ju_ (tail_eq (by omega))).trans ?_;cases cc_ t (n+(2+p.2))<;>rfl
  | false =>
   simp only[qZ,qM,zY];cases q:(t.drop n).take 1==[61]with
   | false=>rfl
   | true =>
    have j:n<t.length:=by
     rcases qR n t.length with h|h
     .exact h
     .rw[zi h]at q;cases q
    simp only[qW,zT];rw[nU_ (by rw[f];omega)];have M:=ea_ [32,9] (t.drop n);have J:1<=ae_ [32,9] (t.drop n):=by
     cases hr:t.drop n with
     | nil=>rw[hr]at f;simp at f;omega
     | cons b r =>
      rw[hr]at q;have U:b=61:=by
       rw[zx,jj,lk_]at q;have:=of_decide_eq_true q;injection this
      unfold ae_;rw[zM,U];simp
    simp only[qBs];rw[ax_ (by omega) (by omega) (by omega)];simp only[qBs,qTn];rw[mz_];simp only[qBs];have Y:(1:Int).toNat=1:=rfl;rw[Y];cases hc:(((t.drop n).take (ae_ [32,9] (t.drop n))).drop 1).contains 39 with
    | true=>rfl
    | false =>
     simp only[qZ,qBs,qM,zY];rw[f]at M;rw[ar_ ⟨by omega,by omega⟩,show(n:Int)+((ae_ [32,9] (t.drop n):Nat):Int)=((n+ae_ [32,9] (t.drop n):Nat):Int)by omega];refine(ju_ (tail_eq (by omega))).trans ?_;have u:cc_ t (n+ae_ [32,9] (t.drop n))=true:=by
      unfold cc_;cases O:t[n+ae_ [32,9] (t.drop n)]? with
      | none=>rfl
      | some b =>
       have x:=until_at (p:=[32,9]) (s:=t.drop n) (b:=b) (by rw[zW];exact O);simp only[zB,jD,za]at x;exact x
     rw[u];rfl
theorem rP_{s:tX}{p:UInt8->tV}{body:Int->tO (Step Int Int)}(y:∀i (h:i<s.length),body (i:Int)=some (if p s[i]then .done (i:Int)else .next ((i+1:Nat):Int)))
  (x:body (s.length:Int)=some (.done (s.length:Int))):∀(k:Nat) (i f:Nat),(s.drop i).length<=k->k<f->i<=s.length->af_ body f (i:Int)=some ((i+((s.drop i).takeWhile λb => !(p b)).length:Nat):Int):=by
 intro k
 induction k with
 | zero =>
  intro i f u D hi;obtain⟨f,rfl⟩:∃g,f=g+1:=⟨f-1,by omega⟩;rw[qC]at u;obtain rfl:i=s.length:=by omega
  rw[aj_ x,ze];rfl
 | succ k C =>
  intro i f u D hi;obtain⟨f,rfl⟩:∃g,f=g+1:=⟨f-1,by omega⟩;rw[qC]at u;rcases qR i s.length with h|h
  .rw[qi h,zM];by_cases j:p s[i]=true
   .rw[aj_ ((y i h).trans (by rw[qL j])),j];rfl
   .have q:p s[i]=false:=by simpa using j
    refine(an_ ((y i h).trans (by rw[qP j])) (C (i+1) f (by rw[qC];omega) (by omega) (by omega))).trans ?_;rw[q];simp only[qf,zT,qLc]
    congr 2
    omega
  .obtain rfl:i=s.length:=by omega
   rw[aj_ x,ze];rfl
theorem o9_(b:UInt8):hA_ (b.toNat:Int)=some (cV_ b):=kk_ b
theorem jv_{s:tX}{i:Nat}(hi:i<=s.length):g9_ s (i:Int)=some (cc_ s i):=by
 unfold g9_ cc_;rcases qR i s.length with h|h
 .rw[show((i:Int)==(s.length:Int))=false from qX.2 (by omega),qZ,aJ_ h,qY h];simp only[qBs];rw[o9_];rfl
 .obtain rfl:i=s.length:=by omega
  rw[qe (qE _)];simp
theorem refQuoted_go {s:tX} (hs:s.length<=1000000000):∀(k:Nat) (rest:tX) (i:Nat) (out:tX) (f:Nat),rest.length<=k->k<f->i<=s.length->s.drop i=rest->out.length<=i ->
  ∃e,af_ (cw_ s) f ((i:Int),out)=some (match br_ rest with
   | some p => .ret (out++p.1,((i+p.2:Nat):Int),0)
   | none => .fall e):=by
 intro k
 induction k with
 | zero =>
  intro rest i out f hk hf hi J hb;obtain rfl:rest=[]:=zI.1 (by omega);obtain⟨f,rfl⟩:∃g,f=g+1:=⟨f-1,by omega⟩;obtain rfl:=drop_nil hi J;refine⟨(s.length:Int),aj_ ?_⟩;unfold cw_;simp only[];rw[aM_];rfl
 | succ k Z =>
  intro rest i out f hk hf hi J hb;obtain⟨f,rfl⟩:∃g,f=g+1:=⟨f-1,by omega⟩;cases rest with
  | nil =>
   obtain rfl:=drop_nil hi J;refine⟨(s.length:Int),aj_ ?_⟩;unfold cw_;simp only[];rw[aM_];rfl
  | cons b t =>
   obtain⟨u,x,D⟩:=iz_ J;have G:t.length<=k:=by simpa using hk
   have hc:((b.toNat:Int)==39)=(b==39):=aV_ b 39;by_cases h:b=39
   .have q:((b.toNat:Int) != 39)=false:=by rw[bne,hc,h];rfl
    cases t with
    | nil =>
     have he:i+1=s.length:=drop_nil (by omega) D;refine⟨0,aj_ ?_⟩;unfold cw_;simp only[];rw[aB_ u,qW,x];simp only[qBs,q,qZ];rw[ai_ (by omega),show(((i+1:Nat):Int)==(s.length:Int))=true by rw[he];simp];simp only[qW,qBs];unfold br_;rw[qL h];simp
    | cons c O =>
     obtain⟨ZZ,y,V⟩:=iz_ D;have M:((c.toNat:Int)==39)=(c==39):=aV_ c 39;have F:(((i+1:Nat):Int)==(s.length:Int))=false:=qX.2 (by omega);by_cases j:c=39
     .have Y:((c.toNat:Int) != 39)=false:=by rw[bne,M,j];rfl
      have U:O.length<=k:=by simp at G;omega
      obtain⟨e,C⟩:=Z O (i+2) (out++[39]) f U (by omega) (by omega) V (by simp only[qLa,qLc,qQ];omega);refine⟨e,(an_ (s':=(((i+2:Nat):Int),out++[39])) ?_ C).trans ?_⟩
      .unfold cw_;simp only[];rw[aB_ u,qW,x];simp only[qBs,q,qZ];rw[ai_ (by omega),F];simp only[qZ,y,qBs,Y];rw[bq_ (by simp only[qLc,qQ];omega),ar_ (n:=(i:Int)+2) ⟨by omega,by omega⟩];rfl
      .conv=>rhs;unfold br_
       rw[qL h];simp only[j,zT];cases br_ O with
       | none=>rfl
       | some p =>
        simp only[zn,qS,qc,zy]
        congr 4
        omega
     .have Y:((c.toNat:Int) != 39)=true:=by rw[bne,M,qX.2 j];rfl
      refine⟨0,aj_ ?_⟩;unfold cw_;simp only[];rw[aB_ u,qW,x];simp only[qBs,q,qZ];rw[ai_ (by omega),F];simp only[qZ,y,qBs,Y,qW];unfold br_;rw[qL h];simp only[j,zY];simp
   .have q:((b.toNat:Int) != 39)=true:=by rw[bne,hc,qX.2 h];rfl
    obtain⟨e,C⟩:=Z t (i+1) (out++[b]) f G (by omega) (by omega) D (by simp only[qLa,qLc,qQ];omega);refine⟨e,(an_ (s':=(((i+1:Nat):Int),out++[b])) ?_ C).trans ?_⟩
    .have e1:(s.take (i+1)).drop i=[b]:=by
      rw[jC,J,show i+1-i=1 by omega];rfl
     unfold cw_;simp only[];rw[aB_ u,qW,x];simp only[qBs,q,qW];rw[ai_ (by omega),ax_ (by omega) (by omega) (by omega)];simp only[qBs,qTn];rw[e1,bq_ (by simp only[qLc,qQ];omega)];rfl
    .conv=>rhs;unfold br_
     rw[qP h];cases br_ t with
     | none=>rfl
     | some p =>
      simp only[zn,qS,qc,zy]
      congr 4
      omega
theorem refQuoted_eq{s:tX}{i:Nat}(f:s.length<=1000000000)(hi:i<=s.length):∃v e,i0_ s (i:Int)=some (match br_ (s.drop i)with
  | some p=>(p.1,((i+p.2:Nat):Int),0)
  | none=>(v,e,48)):=by
 obtain⟨e,h⟩:=refQuoted_go f (s.drop i).length (s.drop i) i [] BIG (qE _) (au_ (by rw[qC];omega)) hi rfl (qO _);refine⟨[],e,?_⟩;unfold i0_;refine al_ h ?_;cases br_ (s.drop i)<;>rfl
theorem qC_{t:tX}{c:UInt8}:(t.take 1==[c])=(match t with | []=>false|b::_=>b==c):=by
 cases t with
 | nil=>rfl
 | cons b r =>
  rw[zx,jj];rw[zL,qn,qn];exact⟨λe=>by injection e,λe=>by rw[e]⟩
theorem loopL1{s:tX}(x:s.length<=1000000000){i:Nat}(hi:i<=s.length):af_ (fT_ s) BIG (i:Int)=some ((i+ae_ [32,9,61,63,39] (s.drop i):Nat):Int):=by
 have h:=rP_ (s:=s) (p:=λb=>([32,9,61,63,39]:tX).contains b) (body:=fT_ s) (λi hi=>by
  unfold fT_;rw[aB_ hi,qW,aJ_ hi];simp only[qBs];rw[o9_];have q:((s[i].toNat:Int)==61)=(s[i]==61):=aV_ s[i] 61;have j:((s[i].toNat:Int)==63)=(s[i]==63):=aV_ s[i] 63;have f:((s[i].toNat:Int)==39)=(s[i]==39):=aV_ s[i] 39;have u:([32,9,61,63,39]:tX).contains s[i]=(cV_ s[i]||((s[i]==61)||((s[i]==63)||(s[i]==39)))):=by
   unfold cV_;simp only[zB,jD,za,Bool.or_assoc]
  simp only[u,qBs,bne,q,j,f];rw[ai_ (by omega)];cases cV_ s[i]<;>cases(s[i]==61)<;>cases(s[i]==63)<;>cases(s[i]==39)<;>rfl) (by
  unfold fT_;rw[aM_];rfl) (s.drop i).length i BIG (qE _) (au_ (by rw[qC];omega)) hi
 rw[h];rfl
theorem loopL2{s nm:tX}(O:s.length<=1000000000):∀(k:Nat) (i f:Nat),(s.drop i).length<=k->k<f->i<=s.length ->
  ∃e,af_ (dM_ s nm) f (i:Int)=some (if((s.drop i).take (ae_ [32,9] (s.drop i))).contains 39 then .ret (Xx.mk nm [] false,e,2)else .fall ((i+ae_ [32,9] (s.drop i):Nat):Int)):=by
 intro k
 induction k with
 | zero =>
  intro i f C G hi;obtain⟨f,rfl⟩:∃g,f=g+1:=⟨f-1,by omega⟩;rw[qC]at C;obtain rfl:i=s.length:=by omega
  refine⟨0,aj_ ?_⟩;unfold dM_;rw[jv_ (qE _)];unfold cc_;rw[qe (qE _),ze];rfl
 | succ k F =>
  intro i f C G hi;obtain⟨f,rfl⟩:∃g,f=g+1:=⟨f-1,by omega⟩;rw[qC]at C;rcases qR i s.length with h|h
  .have y:=qi h;have D:((s[i].toNat:Int)==39)=(s[i]==39):=aV_ s[i] 39;have u:([32,9]:tX).contains s[i]=cV_ s[i]:=by
    unfold cV_;simp only[zB,jD,za]
   have p:cc_ s i=cV_ s[i]:=by
    unfold cc_;rw[qY h]
   cases x:cV_ s[i]with
   | true =>
    refine⟨0,aj_ ?_⟩;unfold dM_;rw[jv_ hi,p,x];have q:ae_ [32,9] (s.drop i)=0:=by
     unfold ae_;rw[y,zM,u,x];rfl
    rw[q];rfl
   | false =>
    have q:ae_ [32,9] (s.drop i)=ae_ [32,9] (s.drop (i+1))+1:=by
     unfold ae_;rw[y,zM,u,x];rfl
    by_cases j:s[i]=39
    .refine⟨(i:Int),aj_ ?_⟩;unfold dM_;rw[jv_ hi,p,x];simp only[qBs,qf,qW];rw[aJ_ h];simp only[qBs];rw[D,j,q,y,zx,j,zB];rfl
    .obtain⟨e,J⟩:=F (i+1) f (by rw[qC];omega) (by omega) (by omega);refine⟨e,(an_ (s':=((i+1:Nat):Int)) ?_ J).trans ?_⟩
     .unfold dM_;rw[jv_ hi,p,x];simp only[qBs,qf,qW];rw[aJ_ h];simp only[qBs];rw[D,qX.2 j,qZ,ai_ (by omega)]
     .have M:((s.drop i).take (ae_ [32,9] (s.drop i))).contains 39=((s.drop (i+1)).take (ae_ [32,9] (s.drop (i+1)))).contains 39:=by
       rw[q,y,zx,zB,show((39:UInt8)==s[i])=false from qX.2 λe=>j e.symm,zX]
      rw[M,q]
      congr 2
      congr 1
      omega
  .obtain rfl:i=s.length:=by omega
   refine⟨0,aj_ ?_⟩;unfold dM_;rw[jv_ (qE _)];unfold cc_;rw[qe (qE _),ze];rfl
theorem pa_(s:tX)(i m:Nat):cc_ (s.drop i) m=cc_ s (i+m):=by
 unfold cc_;rw[zW]
def ReadsAs(o:tO (Xx×Int×Int))(i:Nat)(q:Int×Xx×Nat):Prop:=∃a nx,o=some (a,nx,q.1)/\(q.1=0->a=q.2.1/\nx=((i+q.2.2:Nat):Int))
theorem iA_{o:tO (Xx×Int×Int)}{i:Nat}{a:Xx}{nx e:Int}{q:Int×Xx×Nat}(h:o=some (a,nx,e))(f:q.1=e)(j:e≠0):ReadsAs o i q :=
 ⟨a,nx,by rw[h,f],λp=>absurd (f.symm.trans p) j⟩
theorem qD_{o:tO (Xx×Int×Int)}{i m:Nat}{a:Xx}(h:o=some (a,((i+m:Nat):Int),0)):ReadsAs o i (0,a,m) :=
 ⟨a,_,h,λ_=>⟨rfl,rfl⟩⟩
theorem read_eq{s:tX}(M:s.length<=1000000000){i:Nat}(hi:i<=s.length):ReadsAs (kZ_ s (i:Int)) i (ca_ (s.drop i)):=by
 have hn:=ea_ [32,9,61,63,39] (s.drop i);unfold kZ_;rw[loopL1 M hi];simp only[qBs];unfold ca_;generalize hu:ae_ [32,9,61,63,39] (s.drop i)=n at hn;rw[qC]at hn;have e1:(s.take (i+n)).drop i=(s.drop i).take n:=by
  rw[jC];congr 1;omega
 rw[ax_ (by omega) (by omega) (by omega)];simp only[qBs,qTn];rw[e1];have ed:(s.drop i).drop n=s.drop (i+n):=by rw[zz]
 have ZV:(s.drop i).drop (n+2)=s.drop (i+n+2):=by rw[zz];congr 1
 rw[ed,ZV,pa_,qC_,qC_];cases hr:s.drop (i+n)with
 | nil =>
  have he:i+n=s.length:=drop_nil (by omega) hr;rw[qV (show ¬((i+n:Nat):Int)<(s.length:Int)by omega),show(((i+n:Nat):Int)==(s.length:Int))=true by rw[he];simp];exact iA_ rfl rfl (by decide)
 | cons b r =>
  obtain⟨Y,ZY,q⟩:=iz_ hr;have G:((b.toNat:Int)==63)=(b==63):=aV_ b 63;have u:((b.toNat:Int)==61)=(b==61):=aV_ b 61;have V:(((i+n:Nat):Int)==(s.length:Int))=false:=qX.2 (by omega);rw[aB_ Y,qW,ZY,V];simp only[qBs];rw[G];by_cases h:b=63
  .have j:((b.toNat:Int) != 61)=true:=by rw[bne,u,h];rfl
   rw[h];simp only[zV,qW,zT];rw[ai_ (by omega),jv_ (by omega)];simp only[qBs];rw[show i+(n+1)=i+n+1 by omega];cases ZX:cc_ s (i+n+1)with
   | true =>
    simp only[qW,zT];exact qD_ (m:=n+1) (by rw[show i+(n+1)=i+n+1 by omega])
   | false =>
    simp only[qZ,qM,zY];rw[h]at j;rw[j];exact iA_ rfl rfl (by decide)
  .rw [qX.2 h];simp only[qZ,qBs,qM,zY];by_cases f:b=61
   .have j:((b.toNat:Int) != 61)=false:=by rw[bne,u,f];rfl
    rw[j];simp only[qZ];rw[ai_ (by omega)];have hk:ae_ [32,9] (b::r)=ae_ [32,9] r+1:=by
     unfold ae_;rw[zM,f];rfl
    have ZW:(b==61)=true:=by rw[f];rfl
    -- whether a quote follows
    have hq:(Option.bind (bif decide (((i+n+1:Nat):Int)<(s.length:Int))then(ap_ s ((i+n+1:Nat):Int)).bind λF=>some (F==39)else some false) λy=>some y)=some ((b::r).take 2==[61,39]):=by
     rw[f];cases r with
     | nil =>
      have he:i+n+1=s.length:=drop_nil (by omega) q;rw[qV (by omega)];rfl
     | cons c r' =>
      obtain⟨C,D,_⟩:=iz_ q;rw[aB_ C,qW,D];simp only[qBs];have J:((c.toNat:Int)==39)=(c==39):=aV_ c 39;rw[J]
      congr 1
      rw[zL,qn,qn];constructor
      .intro e;rw[e];rfl
      .intro e;simp only[zx,jj]at e;injection e with _ e;injection e
    refine(ju_ hq).symm ▸ ?_;cases hc:(b::r).take 2==[61,39]with
    | true =>
     have x:i+n+2<=s.length:=by
      rw[lk_]at hc;have:=qa List.length (of_decide_eq_true hc);rw[←hr,qA,qC]at this;simp only[qLc,qQ]at this;omega
     simp only[qW,zT];rw[ai_ (by omega)];obtain⟨v,e,U⟩:=refQuoted_eq M x;rw[U];cases O:br_ (s.drop (i+n+2))with
     | none =>
      simp only[qBs];exact iA_ (e:=48) rfl rfl (by decide)
     | some p =>
      have hp:=hG_ (s.drop (i+n+2)).length (qE _) O;rw[qC]at hp;simp only[qBs,zV,qW];rw[jv_ (by omega)];simp only[qBs];rw[pa_,show i+(n+(2+p.2))=i+n+2+p.2 by omega];cases ZX:cc_ s (i+n+2+p.2)with
      | true =>
       simp only[qN,qZ,qBs,zT];exact qD_ (m:=n+(2+p.2)) (by rw[show i+(n+(2+p.2))=i+n+2+p.2 by omega])
      | false =>
       simp only[qf,qW,qBs,qM,zY];exact iA_ rfl rfl (by decide)
    | false =>
     simp only[qZ,qM,zY,ZW,zT];obtain⟨e,Z⟩:=loopL2 (nm:=(s.drop i).take n) M (s.drop (i+n+1)).length (i+n+1) BIG (qE _) (au_ (by rw[qC];omega)) (by omega);rw[Z,q,hk];have e5:((b::r).take (ae_ [32,9] r+1)).drop 1=r.take (ae_ [32,9] r):=by
      rw[zx];rfl
     rw[e5];have ZU:=ea_ [32,9] r;have ZT:r.length=s.length-(i+n+1):=by rw[←q,qC]
     cases ZS:(r.take (ae_ [32,9] r)).contains 39 with
     | true=>exact iA_ rfl rfl (by decide)
     | false =>
      simp only[qM,zY,qBs];rw[ax_ (by omega) (by omega) (by omega)];simp only[qBs,qTn];have e6:(s.take (i+n+1+ae_ [32,9] r)).drop (i+n+1)=r.take (ae_ [32,9] r):=by
       rw[jC,q];congr 1;omega
      rw[e6];exact qD_ (m:=n+(ae_ [32,9] r+1)) (by rw[show i+(n+(ae_ [32,9] r+1))=i+n+1+ae_ [32,9] r by omega])
   .have j:((b.toNat:Int) != 61)=true:=by rw[bne,u,qX.2 f];rfl
    have ZZ:((b::r).take 2==[61,39])=false:=by
     rw[qX];intro e;cases r with
     | nil=>simp at e
     | cons c r' =>
      simp only[zx,jj]at e;injection e with e _;exact f e
    rw[j,ZZ];simp only[qX.2 f,qW,qM,zY];exact iA_ rfl rfl (by decide)
theorem iB_{t:tX}(h:(ca_ t).1=0):1<=(ca_ t).2.2/\(ca_ t).2.2<=t.length/\(ca_ t).2.1.Xg.length<=t.length/\(ca_ t).2.1.Xr.length<=t.length:=by
 have J:=ea_ [32,9,61,63,39] t;unfold ca_ at h ⊢;generalize ae_ [32,9,61,63,39] t=n at J h ⊢;have u:(t.drop n).length=t.length-n:=qC;have j:(t.take n).length<=t.length:=by rw[qA];omega
 have s:∀c:UInt8,((t.drop n).take 1==[c])=true->n<t.length:=λc x=>by
  rcases qR n t.length with C|C
  .exact C
  .rw[zi C]at x;cases x
 by_cases F:((t.drop n).take 1==[63])=true
 .have:=s _ F;rw[qL F]at h ⊢;by_cases q:cc_ t (n+1)=true
  .rw[qL q];exact⟨by simp,by simp;omega,j,by simp⟩
  .rw[qP q]at h;cases h
 .rw [qP F]at h ⊢;by_cases D:((t.drop n).take 2==[61,39])=true
  .rw[qL D]at h ⊢;have V:n+2<=t.length:=by
    have e:=D;rw[lk_]at e;have:=qa List.length (of_decide_eq_true e);rw[qA,u]at this;simp only[qLc,qQ]at this;omega
   cases y:br_ (t.drop (n+2))with
   | none=>rw[y]at h;cases h
   | some p =>
    rw[y]at h;have G:=hG_ (t.drop (n+2)).length (qE _) y;rw[qC]at G;simp only at h ⊢;by_cases q:cc_ t (n+(2+p.2))=true
    .rw[qL q];exact⟨by simp;omega,by simp;omega,j,by simp;omega⟩
    .rw[qP q]at h;cases h
  .rw [qP D]at h ⊢;by_cases f:((t.drop n).take 1==[61])=true
   .have M:=s _ f;rw[qL f]at h ⊢;split at h
    .cases h
    .rename_i x;rw[qP x];have U:=ea_ [32,9] (t.drop n);have O:1<=ae_ [32,9] (t.drop n):=by
      rw[qC_]at f;cases hr:t.drop n with
      | nil=>rw[hr]at f;cases f
      | cons b r =>
       rw[hr]at f;have q:b=61:=by simpa using f
       unfold ae_;rw[zM,q];simp
     refine⟨by simp;omega,by simp;omega,j,?_⟩;show(((t.drop n).take (ae_ [32,9] (t.drop n))).drop 1).length<=t.length;rw[qC,qA,u];omega
   .rw[qP f]at h;cases h
def hd_(s:tX)(i:Nat)(out:tL Xx):Int:=if(ca_ (s.drop i)).1=0 then dy_ out (ca_ (s.drop i)).2.1 else(ca_ (s.drop i)).1
inductive PR(s:tX):Nat->tL Xx->tL Xx×Int×Int->Prop
 | done {out}:PR s s.length out (out,0,0)
 | blank {i out r} (h:i<s.length) (hb:cV_ s[i]=true) (t:PR s (i+1) out r):PR s i out r
 | err {i out} (h:i<s.length) (hb:cV_ s[i]=false) (he:hd_ s i out≠0):PR s i out ([],(i:Int),hd_ s i out)
 | next {i out r} (h:i<s.length) (hb:cV_ s[i]=false) (he:hd_ s i out=0) (t:PR s (i+(ca_ (s.drop i)).2.2) (out++[(ca_ (s.drop i)).2.1]) r):PR s i out r
theorem n0_{s:tX}{i:Nat}{out:tL Xx}(h:hd_ s i out=0):(ca_ (s.drop i)).1=0/\dy_ out (ca_ (s.drop i)).2.1=0:=by
 unfold hd_ at h;split at h
 .rename_i f;exact⟨f,h⟩
 .rename_i f;exact absurd h f
theorem PR.ex{s:tX}:∀(k i:Nat) (out:tL Xx),s.length-i<=k->i<=s.length->∃r,PR s i out r:=by
 intro k
 induction k with
 | zero =>
  intro i out u hi;obtain rfl:i=s.length:=by omega
  exact⟨_,.done⟩
 | succ k p =>
  intro i out u hi;rcases qR i s.length with h|h
  .cases j:cV_ s[i]with
   | true =>
    obtain⟨r,hr⟩:=p (i+1) out (by omega) (by omega);exact⟨r,.blank h j hr⟩
   | false =>
    by_cases f:hd_ s i out=0
    .have q:=iB_ (n0_ f).1;rw[qC]at q;obtain⟨r,hr⟩:=p (i+(ca_ (s.drop i)).2.2) (out++[(ca_ (s.drop i)).2.1]) (by omega) (by omega);exact⟨r,.next h j f hr⟩
    .exact⟨_,.err h j f⟩
  .obtain rfl:i=s.length:=by omega
   exact⟨_,.done⟩
theorem out_len{out:tL Xx}{a:Xx}(h:dy_ out a=0):out.length<32:=(f4_ h).1
theorem PR.prog{s:tX}(Y:s.length<=1000000000){i:Nat}{out:tL Xx}{r:tL Xx×Int×Int}(h:PR s i out r):i<=s.length->out.length<=32->∀f,s.length-i<f ->
  Option.bind (af_ (dh_ s) f ((i:Int),out)) (λwo=>match wo with
   | .ret O=>some O
   | .fall U=>some (U,0,0))=some r:=by
 induction h with
 | done =>
  intro _ _ f D;obtain⟨f,rfl⟩:∃g,f=g+1:=⟨f-1,by omega⟩;refine al_ (aj_ (b := .fall _) ?_) rfl;unfold dh_;simp only[];rw[aM_];rfl
 | @blank i out r h p _ x =>
  intro hi y f D;obtain⟨f,rfl⟩:∃g,f=g+1:=⟨f-1,by omega⟩;have J:=x (by omega) y f (by omega);have j:dh_ s ((i:Int),out)=some (.next (((i+1:Nat):Int),out)):=by
   unfold dh_;simp only[];rw[aB_ h,qW,aJ_ h];simp only[qBs];rw[kk_,p];simp only[qBs,qW];rw[ai_ (by omega)]
  rw[an_ j rfl];exact J
 | @err i out h p G =>
  intro hi y f D;obtain⟨f,rfl⟩:∃g,f=g+1:=⟨f-1,by omega⟩;refine al_ (aj_ (b := .ret ([],(i:Int),hd_ s i out)) ?_) rfl;unfold dh_;simp only[];rw[aB_ h,qW,aJ_ h];simp only[qBs];rw[kk_,p];simp only[qBs,qZ];rw[ax_ (by omega) (by omega) (qt _)];simp only[qBs,qTn,qb];rw[one_eq (by rw[qC];omega)];simp only[qBs];have F:(bif(ca_ (s.drop i)).1==0 then(gQ_ out (ca_ (s.drop i)).2.1).bind λu=>some u else some (ca_ (s.drop i)).1)=some (hd_ s i out):=by
   unfold hd_;by_cases q:(ca_ (s.drop i)).1=0
   .have C:=iB_ q;rw[qC]at C;rw[qL q,q];simp only[zV,qW];rw[qB_ (by omega) (by omega) (by omega)];rfl
   .rw[qP q,qX.2 q];rfl
  rw[F];simp only[qBs];rw[show(hd_ s i out != 0)=true from zt.2 G];rfl
 | @next i out r h p G _ x =>
  intro hi y f D;obtain⟨f,rfl⟩:∃g,f=g+1:=⟨f-1,by omega⟩;obtain⟨z0,M⟩:=n0_ G;have C:=iB_ z0;rw[qC]at C;have V:=out_len M;have J:=x (by omega) (by rw[qLa];simp only[qLc,qQ];omega) f (by omega);have j:dh_ s ((i:Int),out)=some (.next (((i+(ca_ (s.drop i)).2.2:Nat):Int),out++[(ca_ (s.drop i)).2.1])):=by
   unfold dh_;simp only[];rw[aB_ h,qW,aJ_ h];simp only[qBs];rw[kk_,p];simp only[qBs,qZ];rw[ax_ (by omega) (by omega) (qt _)];simp only[qBs,qTn,qb];rw[one_eq (by rw[qC];omega)];simp only[qBs];rw[z0];simp only[zV,qW];rw[qB_ (by omega) (by omega) (by omega),M];simp only[qBs,qy,qZ];rw[az_ (by simp only[qLc,qQ];omega) (by simp only[qLc,qQ];omega)];simp only[qBs];rw[ar_ ⟨by omega,by omega⟩];rfl
  rw[an_ j rfl];exact J
theorem parse_eq{s:tX}(f:s.length<=1000000000){r:tL Xx×Int×Int}(h:PR s 0 [] r):kP_ s=some r :=
 h.prog f (qO _) (qO _) BIG (au_ (by omega))
def k4_(s:tX)(i:Nat):Nat:=i+((s.drop i).takeWhile cV_).length
theorem kl_{s:tX}(f:s.length<=1000000000){i:Nat}(hi:i<=s.length):af_ (fo_ s) BIG (i:Int)=some ((k4_ s i:Nat):Int):=by
 have h:=rP_ (s:=s) (p:=λb => !(cV_ b)) (body:=fo_ s) (λi hi=>by
  unfold fo_;rw[aB_ hi,qW,aJ_ hi];simp only[qBs];rw[o9_];simp only[qBs];rw[ai_ (by omega)];cases cV_ s[i]<;>rfl) (by
  unfold fo_;rw[aM_];rfl) (s.drop i).length i BIG (qE _) (au_ (by rw[qC];omega)) hi
 rw[h];unfold k4_;simp only[Bool.not_not]
theorem skip_blank{s:tX}{i:Nat}(h:i<s.length)(f:cV_ s[i]=true):k4_ s i=k4_ s (i+1):=by
 unfold k4_;rw[qi h,zM,f];simp only[zT,qLc];omega
theorem skip_none{s:tX}{i:Nat}(h:i<s.length)(f:cV_ s[i]=false):k4_ s i=i:=by
 unfold k4_;rw[qi h,zM,f];rfl
theorem skip_end(s:tX):k4_ s s.length=s.length:=by
 unfold k4_;rw[ze];rfl
theorem loopF_same{σ β:Type}{body:σ->tO (Step σ β)}{s s':σ}(h:body s=body s'):∀(f:Nat),af_ body f s=af_ body f s'
 | 0=>rfl
 | f+1=>by simp only[af_,h]
theorem PR.ref{s:tX}(j:s.length<=1000000000){i:Nat}{out:tL Xx}{r:tL Xx×Int×Int}(h:PR s i out r):i<=s.length->out.length<=32->∀f,s.length-i<f ->
  af_ (eg_ s) f ((i:Int),out)=some (.ret r):=by
 induction h with
 | done =>
  intro _ _ f D;obtain⟨f,rfl⟩:∃g,f=g+1:=⟨f-1,by omega⟩;refine aj_ ?_;unfold eg_;simp only[];rw[kl_ j (qE _),skip_end];simp
 | @blank i out r h q _ x =>
  intro hi y f D;have J:=x (by omega) y f (by omega);rw[←J];refine loopF_same ?_ f;unfold eg_;simp only[];rw[kl_ j hi,kl_ j (by omega),skip_blank h q]
 | @err i out h q G =>
  intro hi y f D;obtain⟨f,rfl⟩:∃g,f=g+1:=⟨f-1,by omega⟩;refine aj_ ?_;unfold eg_;simp only[];rw[kl_ j hi,skip_none h q];simp only[qBs];rw[show((i:Int)==(s.length:Int))=false from qX.2 (by omega),qZ];obtain⟨a,nx,hr,M⟩:=read_eq j hi;rw[hr];simp only[qBs];have F:(bif(ca_ (s.drop i)).1==0 then(iv_ out a).bind λu=>some u else some (ca_ (s.drop i)).1)=some (hd_ s i out):=by
   unfold hd_;by_cases p:(ca_ (s.drop i)).1=0
   .have C:=iB_ p;rw[qC]at C;obtain⟨rfl,_⟩:=M p;rw[qL p,p];simp only[zV,qW];rw[o4_ (by omega) (by omega) (by omega)];rfl
   .rw[qP p,qX.2 p];rfl
  rw[F];simp only[qBs];rw[show(hd_ s i out != 0)=true from zt.2 G];rfl
 | @next i out r h q G _ x =>
  intro hi y f D;obtain⟨f,rfl⟩:∃g,f=g+1:=⟨f-1,by omega⟩;obtain⟨z0,O⟩:=n0_ G;have C:=iB_ z0;rw[qC]at C;have U:=out_len O;have J:=x (by omega) (by rw[qLa];simp only[qLc,qQ];omega) f (by omega);obtain⟨a,nx,hr,M⟩:=read_eq j hi;obtain⟨rfl,rfl⟩:=M z0;refine an_ ?_ J;unfold eg_;simp only[];rw[kl_ j hi,skip_none h q];simp only[qBs];rw[show((i:Int)==(s.length:Int))=false from qX.2 (by omega),qZ,hr];simp only[qBs];rw[z0];simp only[zV,qW];rw[o4_ (by omega) (by omega) (by omega),O];simp only[qBs,qy,qZ];rw[az_ (by simp only[qLc,qQ];omega) (by simp only[qLc,qQ];omega)];rfl
theorem p5_{s:tX}(f:s.length<=1000000000){r:tL Xx×Int×Int}(h:PR s 0 [] r):hB_ s=some r:=by
 unfold hB_;exact al_ (h.ref f (qO _) (qO _) BIG (au_ (by omega))) rfl
def isD(b:UInt8):tV:=decide (48<=b.toNat)&&decide (b.toNat<=57)
def numS:tX->Nat->tO Nat | [],v=>some v|b::t,v=>if isD b=true/\v<=(65536-(b.toNat-48))/10 then numS t (v*10+(b.toNat-48))else none
theorem digit_eq(b:UInt8):l5_ (b.toNat:Int)=some (if isD b then((b.toNat-48:Nat):Int)else if 97<=b.toNat/\b.toNat<=102 then((b.toNat-87:Nat):Int)else 16):=by
 unfold l5_ isD;have s:=b.toNat_lt;by_cases h:48<=b.toNat/\b.toNat<=57
 .rw[qK (show(b.toNat:Int)>=48 by omega),qK (show(b.toNat:Int)<=57 by omega),qK h.1,qK h.2];simp only[jX,qW,zT];rw[wu8,ar_ ⟨by omega,by omega⟩]
  congr 1
  omega
 .have q:(decide ((b.toNat:Int)>=48)&&decide ((b.toNat:Int)<=57))=false:=by
   rw[jI,qDf,qDf];omega
  have p:(decide (48<=b.toNat)&&decide (b.toNat<=57))=false:=by
   rw[jI,qDf,qDf];omega
  rw[q,p];simp only[qZ,qM,zY];by_cases f:97<=b.toNat/\b.toNat<=102
  .rw[qK (show(b.toNat:Int)>=97 by omega),qK (show(b.toNat:Int)<=102 by omega),qL f];simp only[jX,qW];rw[wu8,ar_ (n:=((b.toNat:Int)-97)%256) ⟨by omega,by omega⟩,ar_ ⟨by omega,by omega⟩]
   congr 1
   omega
  .have j:(decide ((b.toNat:Int)>=97)&&decide ((b.toNat:Int)<=102))=false:=by
    rw[jI,qDf,qDf];omega
   rw[j,qP f];rfl
theorem refDigit_eq(b:UInt8):jS_ (b.toNat:Int)=some (if isD b then((b.toNat-48:Nat):Int)else if 97<=b.toNat/\b.toNat<=102 then((b.toNat-87:Nat):Int)else -1):=by
 unfold jS_ isD;have s:=b.toNat_lt;by_cases h:48<=b.toNat/\b.toNat<=57
 .rw[qK (show(b.toNat:Int)>=48 by omega),qK (show(b.toNat:Int)<=57 by omega),qK h.1,qK h.2];simp only[jX,qW,zT];rw[ar_ (n:=(b.toNat:Int)) ⟨by omega,by omega⟩,ar_ ⟨by omega,by omega⟩]
  congr 1
  omega
 .have q:(decide ((b.toNat:Int)>=48)&&decide ((b.toNat:Int)<=57))=false:=by
   rw[jI,qDf,qDf];omega
  have p:(decide (48<=b.toNat)&&decide (b.toNat<=57))=false:=by
   rw[jI,qDf,qDf];omega
  rw[q,p];simp only[qZ,qM,zY];by_cases f:97<=b.toNat/\b.toNat<=102
  .rw[qK (show(b.toNat:Int)>=97 by omega),qK (show(b.toNat:Int)<=102 by omega),qL f];simp only[jX,qW];rw[ar_ (n:=(b.toNat:Int)) ⟨by omega,by omega⟩,ar_ (n:=(b.toNat:Int)-97) ⟨by omega,by omega⟩,ar_ ⟨by omega,by omega⟩]
   congr 1
   omega
  .have j:(decide ((b.toNat:Int)>=97)&&decide ((b.toNat:Int)<=102))=false:=by
    rw[jI,qDf,qDf];omega
   rw[j,qP f];rfl
theorem quo10{d:Nat}(f:d<=9):quoI .i64 (w64 (65536-(d:Int))) 10=some (((65536-d)/10:Nat):Int):=by
 unfold quoI;rw[ar_ ⟨by omega,by omega⟩,qP (by decide),show(65536-(d:Int))=((65536-d:Nat):Int)by omega,Int.tdiv_eq_ediv_of_nonneg (by omega),lj_ ⟨by omega,by omega⟩]
 congr 1
theorem num_go{s:tX}{body:Int×Int->tO (Step (Int×Int) (Out Int (Int×Int)))}
  (x:∀(v i:Nat) (h:i<s.length),v<=65536->body ((v:Int),(i:Int))=some (if isD s[i]=true/\v<=(65536-(s[i].toNat-48))/10 then .next (((v*10+(s[i].toNat-48):Nat):Int),((i+1:Nat):Int))else .done (.ret (0,5))))
  (u:∀v:Int,body (v,(s.length:Int))=some (.done (.fall v))):∀(k i v f:Nat),(s.drop i).length<=k->k<f->i<=s.length->v<=65536 ->
  af_ body f ((v:Int),(i:Int))=some (match numS (s.drop i) v with
   | some w => .fall (w:Int)
   | none => .ret (0,5)):=by
 intro k
 induction k with
 | zero =>
  intro i v f q D hi p;obtain⟨f,rfl⟩:∃g,f=g+1:=⟨f-1,by omega⟩;rw[qC]at q;obtain rfl:i=s.length:=by omega
  rw[aj_ (u v),ze];rfl
 | succ k C =>
  intro i v f q D hi p;obtain⟨f,rfl⟩:∃g,f=g+1:=⟨f-1,by omega⟩;rw[qC]at q;rcases qR i s.length with h|h
  .rw[qi h];unfold numS;by_cases j:isD s[i]=true/\v<=(65536-(s[i].toNat-48))/10
   .rw[qL j];have y:=j.1;unfold isD at y;simp only[qAn,qDe]at y;have F:=j.2;exact an_ ((x v i h p).trans (by rw[qL j])) (C (i+1) _ f (by rw[qC];omega) (by omega) (by omega) (by omega))
   .rw[qP j];exact aj_ ((x v i h p).trans (by rw[qP j]))
  .obtain rfl:i=s.length:=by omega
   rw[aj_ (u v),ze];rfl
def numR(s:tX):Int×Int:=if s=[]\/(1<s.length/\s.take 1=[48])then(0,5)else match numS s 0 with|some w=>((w:Int),0)|none=>(0,5)
theorem lead_eq(s:tX):(Option.bind (bif(s==[])then some true else
   Option.bind (bif decide ((s.length:Int)>1)then
    (ap_ s 0).bind λj =>
    some (j==48)
     else some false) λ(h:tV) =>
   some h
   ) λ(y4:tV)=>some y4)=some (decide (s=[]\/(1<s.length/\s.take 1=[48]))):=by
 cases s with
 | nil=>rfl
 | cons b t =>
  rw[show((b::t:tX)==[])=false from rfl,qZ];by_cases f:1<(b::t).length
  .rw[qK (show((b::t).length:Int)>1 by omega),qW,show ap_ (b::t) 0=some (b.toNat:Int)from aJ_ (s:=b::t) (i:=0) (by simp)];simp only[qBs];have k:((b.toNat:Int)==48)=(b==48):=aV_ b 48;rw[k]
   congr 1
   rw[zL,qn,qDe];constructor
   .intro e;exact .inr ⟨f,by rw[e];rfl⟩
   .rintro(e|⟨_,e⟩)
    .cases e
    .rw[zx]at e;injection e
  .rw[qV (show ¬((b::t).length:Int)>1 by omega),qZ];simp only[qBs]
   congr 1
   symm;rw[qDf]
   rintro(e|⟨e,_⟩)
   .cases e
   .exact f e
theorem num_eq{s:tX}(y:s.length<=9223372036854775807):l6_ s 10 65536=some (numR s):=by
 unfold l6_ numR;have C:l4_ 10=some true:=rfl;rw[C];simp only[qBs];rw[show((!true)||decide ((65536:Int)<0))=false from rfl,qZ];refine(ju_ (lead_eq s)).trans ?_;by_cases p:s=[]\/(1<s.length/\s.take 1=[48])
 .rw[qK p,qL p];rfl
 .rw [qV p,qP p,qZ];have h:=num_go (s:=s) (body:=iP_ s 10 65536) (λv i h D=>by
   unfold iP_;simp only[];rw[aB_ h,qW,aJ_ h];simp only[qBs];rw[digit_eq];simp only[qBs];by_cases j:isD s[i]=true
   .have x:=j;unfold isD at x;simp only[qAn,qDe]at x;rw[qL j,qV (by omega),qZ,quo10 (by omega)];simp only[qBs];rw[qV (show ¬((s[i].toNat-48:Nat):Int)>65536 by omega),za];by_cases f:v<=(65536-(s[i].toNat-48))/10
    .rw[qV (by omega),qZ,qL ⟨j,f⟩,ai_ (by omega),ar_ (n:=(v:Int)*10) ⟨by omega,by omega⟩,ar_ ⟨by omega,by omega⟩]
     congr 3
    .rw[qK (by omega),qW,qP λh=>f h.2]
   .have q:¬(isD s[i]=true/\v<=(65536-(s[i].toNat-48))/10):=λh=>j h.1
    rw[qP j,qP q];have u:(if 97<=s[i].toNat/\s[i].toNat<=102 then((s[i].toNat-87:Nat):Int)else 16)>=10:=by
     split<;>omega
    rw[qK u];rfl) (λv=>by
   unfold iP_;simp only[];rw[aM_];rfl) (s.drop 0).length 0 0 BIG (qE _) (au_ (by simpa using y)) (qO _) (qO _)
  refine al_ h ?_;rw[zO];cases numS s 0<;>rfl
theorem refNum_eq{s:tX}(y:s.length<=9223372036854775807):jT_ s 10 65536=some (numR s):=by
 unfold jT_ numR;have C:jO_ 10=some true:=rfl;rw[C];simp only[qBs];rw[show((!true)||decide ((65536:Int)<0))=false from rfl,qZ];refine(ju_ (lead_eq s)).trans ?_;by_cases p:s=[]\/(1<s.length/\s.take 1=[48])
 .rw[qK p,qL p];rfl
 .rw [qV p,qP p,qZ];have h:=num_go (s:=s) (body:=ha_ s 10 65536) (λv i h D=>by
   unfold ha_;simp only[];rw[aB_ h,qW,aJ_ h];simp only[qBs];rw[refDigit_eq];simp only[qBs];by_cases j:isD s[i]=true
   .have x:=j;unfold isD at x;simp only[qAn,qDe]at x;rw[qL j,qV (show ¬((s[i].toNat-48:Nat):Int)<0 by omega),qV (show ¬((s[i].toNat-48:Nat):Int)>=10 by omega),qV (show ¬((s[i].toNat-48:Nat):Int)>65536 by omega)];simp only[Bool.or_self,qZ];rw[quo10 (by omega)];simp only[qBs];by_cases f:v<=(65536-(s[i].toNat-48))/10
    .rw[qV (by omega),qZ,qL ⟨j,f⟩,ai_ (by omega),ar_ (n:=(v:Int)*10) ⟨by omega,by omega⟩,ar_ ⟨by omega,by omega⟩]
     congr 3
    .rw[qK (by omega),qW,qP λh=>f h.2]
   .have q:¬(isD s[i]=true/\v<=(65536-(s[i].toNat-48))/10):=λh=>j h.1
    rw[qP j,qP q];by_cases u:97<=s[i].toNat/\s[i].toNat<=102
    .rw[qL u,qK (show((s[i].toNat-87:Nat):Int)>=10 by omega),jE];rfl
    .rw[qP u];rfl) (λv=>by
   unfold ha_;simp only[];rw[aM_];rfl) (s.drop 0).length 0 0 BIG (qE _) (au_ (by simpa using y)) (qO _) (qO _)
  refine al_ h ?_;rw[zO];cases numS s 0<;>rfl
def splitK:Nat->tX->tL tX | 0,s=>[s]|k+1,s=>if s.contains 10 then s.take (ae_ [10] s)::splitK k (s.drop (ae_ [10] s+1))else[s]
theorem e4_{k:Nat}{s:tX}(h:s.contains 10=false):splitK k s=[s]:=by
 cases k with
 | zero=>rfl
 | succ k=>unfold splitK;rw[h];rfl
theorem k5_{k:Nat}{s:tX}(h:s.contains 10=true):splitK (k+1) s=s.take (ae_ [10] s)::splitK k (s.drop (ae_ [10] s+1)):=by
 conv=>lhs;unfold splitK
 rw[qL h]
theorem set_rep{α:Type}(A:tL α)(k:Nat)(z v:α):(A++List.replicate (k+1) z).set A.length v=A++[v]++List.replicate k z:=set_mid A k z v
theorem split_go{s:tX}(hs:s.length<=1000000000){m:Nat}(O:m=min 7 (s.length+1)):∀(k:Nat) (t:tX) (i:Nat) (A:tL tX) (f:Nat),m-1-i<=k->k<f->A.length=i->i+1<=m->t.length+i<=s.length->splitK 6 s=A++splitK (6-i) t ->
  ∃C i' A',af_ (bg_ 7 s [10] 0) f (t,(i:Int),A++List.replicate (m-i) [])=some (C,((i':Nat):Int),A'++List.replicate (m-i') [])/\A'.length=i'/\i'+1<=m/\splitK 6 s=A'++[C]:=by
 have p:cz_ 7 (w64 ((s.length:Int)+1))=(m:Int):=by
  rw[ar_ ⟨by omega,by omega⟩];unfold cz_;rw[O];split<;>omega
 intro k
 induction k with
 | zero =>
  intro t i A f U Y q hi M j;obtain⟨f,rfl⟩:∃g,f=g+1:=⟨f-1,by omega⟩;refine⟨t,i,A,aj_ ?_,q,hi,?_⟩
  .unfold bg_;simp only[];rw[p,ar_ (n:=(m:Int)-1) ⟨by omega,by omega⟩,qV (by omega)];rfl
  .rw[j]
   congr 1
   by_cases F:i=6
   .rw[F];rfl
   .have:t=[]:=zI.1 (by omega);rw[this];exact e4_ rfl
 | succ k J =>
  intro t i A f U Y q hi M j;obtain⟨f,rfl⟩:∃g,f=g+1:=⟨f-1,by omega⟩;by_cases D:i+1=m
  .refine⟨t,i,A,aj_ ?_,q,hi,?_⟩
   .unfold bg_;simp only[];rw[p,ar_ (n:=(m:Int)-1) ⟨by omega,by omega⟩,qV (by omega)];rfl
   .rw[j]
    congr 1
    by_cases F:i=6
    .rw[F];rfl
    .have:t=[]:=zI.1 (by omega);rw[this];exact e4_ rfl
  .cases y:t.contains 10 with
   | false =>
    refine⟨t,i,A,aj_ ?_,q,hi,by rw[j,e4_ y]⟩;have u:dI_ t 10<0:=by
     rcases Int.lt_or_le (dI_ t 10) 0 with h|h
     .exact h
     .rw[(qA_ t 10).1 h]at y;cases y
    unfold bg_;simp only[];rw[p,ar_ (n:=(m:Int)-1) ⟨by omega,by omega⟩,qK (by omega),qW];unfold strings_Index stringslite_Index;simp only[qBs];rw[qK u];rfl
   | true =>
    obtain⟨k1,k2,G,k4⟩:=bO_ y;have V:i<6:=by omega
    obtain⟨C,i',A',h1,Z⟩:=J (t.drop (ae_ [10] t+1)) (i+1) (A++[t.take (ae_ [10] t)]) f (by omega) (by omega) (by rw[qLa,q];rfl) (by omega) (by rw[qC];omega) (by
     rw[j,show 6-i=(6-(i+1))+1 by omega,k5_ y,qS];rfl)
    refine⟨C,i',A',(an_ ?_ h1),Z⟩;unfold bg_;simp only[];rw[p,ar_ (n:=(m:Int)-1) ⟨by omega,by omega⟩,qK (by omega),qW];unfold strings_Index stringslite_Index;simp only[qBs];rw[G,qV (by omega),qZ,Int.add_zero,ar_ (n:=((ae_ [10] t:Nat):Int)) ⟨by omega,by omega⟩,ax_ (qt 0) (by omega) (by omega)];simp only[qBs,qTn,jN,zO];have x:ah_ (A++List.replicate (m-i) ([]:tX)) (i:Int)=some []:=by
     rw[aX_,zZ (by omega),q,jd,jO,qL (by omega)]
    rw[x];simp only[qBs];rw[ar_ (n:=((ae_ [10] t:Nat):Int)+(([10]:tX).length:Int)) ⟨by simp only[qLc,qQ];omega,by simp only[qLc,qQ];omega⟩,ax_ (by simp only[qLc,qQ];omega) (by simp only[qLc,qQ];omega) (qt _)];simp only[qBs,qTn,qb];rw[ai_ (by omega)];have e1:(((ae_ [10] t:Nat):Int)+(([10]:tX).length:Int)).toNat=ae_ [10] t+1:=by simp only[qLc,qQ];omega
    rw[e1];have e2:(A++List.replicate (m-i) ([]:tX)).set i (t.take (ae_ [10] t))=A++[t.take (ae_ [10] t)]++List.replicate (m-(i+1)) []:=by
     rw[←q,show m-A.length=(m-(A.length+1))+1 by omega,set_rep]
    rw[e2]
theorem splitN_eq{s:tX}(u:s.length<=1000000000):strings_SplitN s [10] 7=some (splitK 6 s):=by
 unfold strings_SplitN strings_genSplit;rw[show((7:Int)==0)=false from rfl,qZ,show(([10]:tX)==[])=false from rfl,qZ,show decide ((7:Int)<0)=false from rfl,qZ];simp only[qBs];obtain⟨m,p⟩:∃m,m=min 7 (s.length+1):=⟨_,rfl⟩;have h:cz_ 7 (w64 ((s.length:Int)+1))=(m:Int):=by
  rw[ar_ ⟨by omega,by omega⟩];unfold cz_;rw[p];split<;>omega
 rw[h,il_ (by omega) (by omega) (by omega)];simp only[qBs,qTn];obtain⟨t,i,A,y,q,D,x⟩:=split_go u p (m-1) s 0 [] BIG (by omega) (au_ (by omega)) rfl (by omega) (qE _) rfl;have j:af_ (bg_ 7 s [10] 0) BIG (s,0,List.replicate m [])=some (t,((i:Nat):Int),A++List.replicate (m-i) []):=y;rw[j];simp only[qBs];have f:ah_ (A++List.replicate (m-i) ([]:tX)) (i:Int)=some []:=by
  rw[aX_,zZ (by omega),q,jd,jO,qL (by omega)]
 have C:(A++List.replicate (m-i) ([]:tX)).set i t=A++[t]++List.replicate (m-(i+1)) []:=by
  rw[←q,show m-A.length=(m-(A.length+1))+1 by omega,set_rep]
 rw[f];simp only[qBs,qTn];rw[C,ai_ (by omega),ax_ (qt 0) (by omega) (by simp only[qLa,qLc,qQ,jT];omega)];simp only[qBs,qTn]
 congr 1
 rw[x,zU (by simp only[qLa,qLc,qQ];omega),qr (by simp only[qLa,qLc,qQ];omega)]
end Go.Proofs.YtfbcbakhdkppoaaGreatDoor
