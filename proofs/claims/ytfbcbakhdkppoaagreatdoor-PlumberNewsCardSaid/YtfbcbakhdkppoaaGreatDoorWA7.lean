/-
 What the statements of this seat hang on,part 7: Of Og K6 Os K7 K8 K9 K10 K11 Num Fa0 Aa Ab Ac Ad Ae Af Ag Ah Ai Aj Ak Al Am An Ao Ap Aq Ar Ba Bb Bc Bd Be.
-/
import Derived.Test.YtfbcbakhdkppoaaGreatDoorWA6
import Derived.Laws.BitsLemmas
import Derived.KernelRfl
namespace Go.Proofs.YtfbcbakhdkppoaaGreatDoor
open Go.Rt Go.RowKit
structure Sent(x0:Xj)(x1:Xw)(y1:Xj)(m:Xw)(n:Str)(y4:Int)(y5:Xv)(y9:Xw):Prop where
 own:cA_ x0=some y1
 ev2:(evS (sH2 x0 x1) sP2 .p sS2 λs1=>evS (sH2 x0 x1) sR5 .p s1 λs2=>evS (sH2 x0 x1) sP6 (.s .p (.s (.dr [0,0,0,1,1] [] true [27,29]) .p)) s2 (sK2 (sH2 x0 x1)))=some (m,n)
 ev3:(evS (sH3 y1 m n) sR8 .p sS3 λs1=>evS (sH3 y1 m n) sB0 sPl0 s1 (sK3 (sH3 y1 m n)))=some y4
 at4:ag_ y1.Xq y4=some y5
 cl:dE_ m=some y9
 rm:∃r,room 104 y5.Xf [y9]=some r
def sG2(b2 b3 b4 b6:Nat):Ga:=λj=>if j=1 then some ⟨none,0,0,0,b2,0⟩else if j=2 then some ⟨none,0,0,0,b3,0⟩else if j=3 then some ⟨none,0,0,0,b4,0⟩else if j=4 then some ⟨none,0,0,0,b6,0⟩else none
theorem jV_{b2 b3 b4 b6 n:Nat}(h:5<=n):Fresh (sG2 b2 b3 b4 b6) n:=λj hj=>by
 unfold sG2;rw[if_neg (by omega),if_neg (by omega),if_neg (by omega),if_neg (by omega)]
def SentH(z0:Fz)(w0:World)(y:Xj)(v:Value)(w:World):Prop:=∃z vr vp,Mx te z0 w0 w z []/\v = .tuple #[.agg #[vr,vp],.int .i64 0]/\RD te z [.sl (.st 1),.sl (.st 4)] (y.Xc,y.Xq,()) [vr,vp]
theorem frH_two{p q o:Rt.Obj te}{i:Nat}(h:frH [(1,p),(2,q)] i=some o):(i=1/\o=p)\/(i=2/\o=q):=by
 unfold frH at h;simp only[au_]at h;split at h
 .rename_i hb;exact .inl ⟨qNb hb,(qSj h).symm⟩
 .split at h
  .rename_i hb;exact .inr ⟨qNb hb,(qSj h).symm⟩
  .cases h
theorem frH_three{p q r o:Rt.Obj te}{i:Nat}(h:frH [(1,p),(2,q),(3,r)] i=some o):(i=1/\o=p)\/(i=2/\o=q)\/(i=3/\o=r):=by
 unfold frH at h;simp only[au_]at h;split at h
 .rename_i hb;exact .inl ⟨qNb hb,(qSj h).symm⟩
 .split at h
  .rename_i hb;exact .inr (.inl ⟨qNb hb,(qSj h).symm⟩)
  .split at h
   .rename_i hb;exact .inr (.inr ⟨qNb hb,(qSj h).symm⟩)
   .cases h
theorem lC_{α:Type}{l:List α}(h:l.length=6):∃a b c d e f,l=[a,b,c,d,e,f]:=by
 match l,h with
 | [a,b,c,d,e,f],_=>exact⟨a,b,c,d,e,f,rfl⟩
theorem one_list{α:Type}{l:List α}(h:l.length=1):∃a,l=[a]:=by
 match l,h with
 | [a],_=>exact⟨a,rfl⟩
section
variable{x0:Xj}{x1:Xw}{y1:Xj}{m:Xw}{n:Str}{y4:Int}{y5:Xv}{y9:Xw}{z0:Fz}{w0:World}{y10:List Xw}
def SentJ(z0:Fz)(w0:World)(y1:Xj)(m:Xw)(y4:Int)(a:Act)(w:World):Prop :=
 ∃z b4 b6 b9 vr A cap rows Aq capq rq ms,Mx te z0 w0 w z [.box b6 27 [vr,.slice A y1.Xq.length cap],.row 66 3 A y1.Xq.length cap rows,.row 39 6 Aq (rq:List (List Value)).length capq rq,.box b4 27 [.slice none 0 0,.slice none 0 0]] /\
  Env 85 a [(4,.pointer (some ⟨b4,0,none⟩)),(6,.pointer (some ⟨b6,0,none⟩)),(9,.pointer (some ⟨b9,0,none⟩)),(12,.int .i64 y4)]/\RD te z [.sl (.st 1)] (y1.Xc,()) [vr]/\HoleRows z y4.toNat y1.Xq rows Aq capq rq /\
  z.F b9/\RD te z (te.flat (.st 3)) (te.fl (.st 3) m) ms/\∀j u,ms[j]? = some u->z.w.cell? ⟨b9,j,none⟩=some u
def I15(z:Fz)(b6:Nat)(A:Option Addr)(w:World)(w':World):Prop:=w.heap.size<=w'.heap.size/\∀k,(z.F k\/k=b6\/bA_ A k)->w'.heap[k]? = w.heap[k]?
theorem ld_at{N:Nat}{a:Act}{env:List (Nat×Value)}{P:Program}{o:Oper}{w:World}{b off:Nat}{T T':TypeId}{cs:List Value}{v:Value}{x:Operand}(hE:Env N a env)(ho:o.op = .load T x)(hx:opv env x=some (.pointer (some ⟨b,off,none⟩)))(hb:w.heap[b]? = some (.cells cs.toArray T' (0,0)))
  (hv:dC_ P T cs off=some v):(execOp a.eval o).run P w = .ok (.value v) w:=by
 have h:=de_ (P:=P) (b:=b) (base:=0) hv (w:=w) (λj u hu=>by
  rw[Nat.zero_add,cell_of_row w b j cs.toArray T' (0,0) hb];simpa using hu)
 rw[Nat.zero_add]at h;exact Rt.run_load ho (hE.eval hx) h
theorem clone_call(hcl:dE_ m=some y9){w:World}{z:Fz}{L:List Res}(hM:Mx te z0 w0 w z L){ms:List Value}(hms:RD te z (te.flat (.st 3)) (te.fl (.st 3) m) ms) :
  Ret Tryz.prog 52 #[.agg ms.toArray] w λv w'=>∃z' vs,Mx te z0 w0 w' z' L/\z.Le z'/\v = .agg vs.toArray/\RD te z' (te.flat (.st 3)) (te.fl (.st 3) y9) vs/\Chg [] w w':=by
 obtain⟨rh,bh,hk,hcall⟩:=ok_52.1 _ (m,()) (λrh _=>some rh) (y9,()) (by
  show(dE_ m).bind _=_;rw[hcl];rfl)
 obtain rfl:=qSj hk;refine Ret.mono (hcall w z (λ_=>none) [] [.agg (te.cells (.st 3) m)] [.agg ms.toArray] rfl ((hM.hr _).less λi o e=>e) (λ_ _=>rfl) (.cons ⟨ms,rfl,cells_rd.1 hms⟩ .nil)) ?_
 rintro v w' ⟨z',g',svr,hz,_,hg,hsv,hv,hH⟩;obtain rfl:=qSj hsv;obtain⟨vs,rfl,hvs⟩:=hv;have hrow:upH (λ_=>none) (ck_ te [(.st 3,[none,none,none,none,some 87])] (y9,()) 0++aI_ te [.d (.st 3)] (cS_ te [.d (.st 3)] (m,()) bh) 0 (0+1)) 0=some (.row 87 (.st 2) y9.Xn []):=rfl;obtain⟨l,rows,hl,hn,hlen,hrows,hres⟩:=jU_ hH hrow;have hM2:=hM.step hH hz [(0,.row 87 (te.size (.st 2)) l.A y9.Xn.length l.cap rows)] (λp hp=>by
  obtain rfl:=List.mem_singleton.1 hp;exact⟨_,hrow,hres⟩) (by simp)
 obtain⟨hM3,hz3,hs3⟩:=hM2.freeze;refine⟨_,vs,hM3,hz.trans hz3,rfl,?_,hH.chg⟩;have hc:All2 (RC Tryz.prog te z' g') [.dt .str y9.Xu,.dt .str y9.Xa,.dt .str y9.Yz,.dt .str y9.Xd,.own 0,.dt .str y9.Xt] vs:=hvs;cases hc with
 | cons c0 hc =>
 cases hc with
 | cons c1 hc =>
 cases hc with
 | cons c2 hc =>
 cases hc with
 | cons c3 hc =>
 cases hc with
 | cons c4 hc =>
 cases hc with
 | cons c5 hc =>
 cases hc
 obtain⟨l',gl',rfl⟩:=c4;obtain rfl:=qSj (hl.symm.trans gl');rw[hn];refine RD.cons (RD.le c0 hz3) (RD.cons (RD.le c1 hz3) (RD.cons (RD.le c2 hz3) (RD.cons (RD.le c3 hz3) ?_)));exact .sl hs3 (Own.cap_le hres.2.1.1).1 (λj x r h7 h8=>(hrows.le hz3) j x r h7 h8) (RD.le c5 hz3)
set_option maxRecDepth 100000 in
theorem send_end(hs:Sent x0 x1 y1 m n y4 y5 y9)(hr:room 104 y5.Xf [y9]=some y10){a:Act}{w:World}(hJ:SentJ z0 w0 y1 m y4 a w) :
  (Code.seq sR15 (.seq sR16 .ret)).wp Tryz.prog (bodyPost Tryz.prog fSend λe w'=>∃v,e = .returned v/\SentH z0 w0 ⟨y1.Xc,y1.Xq.set y4.toNat ⟨y5.Xy,y10,y5.Xl⟩⟩ v w') a w:=by
 obtain⟨z,b4,b6,b9,vr,A,cap,rows,Aq,capq,rq,ms,hM,hE,hrr,hh,hF9,hms,hc9⟩:=hJ;obtain⟨h40,hy5,hlt4⟩:=df_ hs.at4;obtain⟨hrow,hlq,hrq⟩:=hh.hole y5 hy5;obtain⟨m0,m1,m2,m3,m4,m5,rfl⟩:=lC_ hms.len;rw[hlq]at hM;have hrd:=cd_ (hM.sep.hold (.row 66 3 A y1.Xq.length cap rows) (by simp));obtain⟨b,off,rfl,_,_⟩:=hrd.2 (by omega);have hb6:w.heap[b6]? = some (.cells [vr,.slice (some ⟨b,off,none⟩) y1.Xq.length cap].toArray 27 (0,0)):=hM.sep.hold (.box b6 27 [vr,.slice (some ⟨b,off,none⟩) y1.Xq.length cap]) (by simp);have hlt:∀k,(z.F k\/k=b6\/bA_ (some ⟨b,off,none⟩) k)->k<w.heap.size:=λk hk=>by
  rcases hk with hk|hk|hk
  .exact(hM.In k hk).1
  .exact hM.lt (r := .box b6 27 [vr,.slice (some ⟨b,off,none⟩) y1.Xq.length cap]) (by simp) hk
  .exact hM.lt (r := .row 66 3 (some ⟨b,off,none⟩) y1.Xq.length cap rows) (by simp) hk
 have hIx:∀w1 w2,I15 z b6 (some ⟨b,off,none⟩) w w1->Ext w1 w2->I15 z b6 (some ⟨b,off,none⟩) w w2:=λw1 w2 h1 hx =>
  ⟨Nat.le_trans h1.1 hx.below.size,λk hk=>(hx.below.block k (Nat.lt_of_lt_of_le (hlt k hk) h1.1)).trans (h1.2 k hk)⟩
 have hI6:∀w',I15 z b6 (some ⟨b,off,none⟩) w w'->w'.heap[b6]? = some (.cells [vr,.slice (some ⟨b,off,none⟩) y1.Xq.length cap].toArray 27 (0,0)):=λw' h=>(h.2 b6 (.inr (.inl rfl))).trans hb6
 have hIr:∀w',I15 z b6 (some ⟨b,off,none⟩) w w'->SlF (bA_ (some ⟨b,off,none⟩)) 3 (some ⟨b,off,none⟩) y1.Xq.length rows w':=λw' h=>SlF.local w w' h.1 (λk hk=>h.2 k (.inr (.inr hk))) hrd
 have hIz:∀w',I15 z b6 (some ⟨b,off,none⟩) w w'->z.In w':=λw' h k hk=>⟨Nat.lt_of_lt_of_le (hM.In k hk).1 h.1,(h.2 k (.inl hk)).trans (hM.In k hk).2⟩
 rw[sR15_eq];refine wp_seq (hB_ hIx [15] [] sOrd (by kernel_rfl) s15_mix ⟨Nat.le_refl _,λ_ _=>rfl⟩ ?_);refine f9_ hE (o:=sR15.at 0) rfl (by kernel_rfl) 69 (by kernel_rfl) rfl (.pointer (some ⟨b6,1,none⟩)) (λw' _=>eu_ hE (by kernel_rfl) w') λa1 hE1 => ?_
 refine f9_ hE1 (o:=sR15.at 1) rfl (by kernel_rfl) 70 (by kernel_rfl) rfl (.slice (some ⟨b,off,none⟩) y1.Xq.length cap) (λw' h=>ld_at hE1 (by kernel_rfl:(sR15.at 1).op = .load 25 (.tmp 69)) rfl (hI6 w' h) (by kernel_rfl)) λa2 hE2 => ?_
 refine f9_ hE2 (o:=sR15.at 2) rfl (by kernel_rfl) 71 (by kernel_rfl) rfl (.int .i64 y4) (λw' _=>eu_ hE2 (by kernel_rfl) w') λa3 hE3 => ?_
 refine f9_ hE3 (o:=sR15.at 3) rfl (by kernel_rfl) 72 (by kernel_rfl) rfl (.pointer (some ⟨b6,1,none⟩)) (λw' _=>eu_ hE3 (by kernel_rfl) w') λa4 hE4 => ?_
 refine f9_ hE4 (o:=sR15.at 4) rfl (by kernel_rfl) 73 (by kernel_rfl) rfl (.slice (some ⟨b,off,none⟩) y1.Xq.length cap) (λw' h=>ld_at hE4 (by kernel_rfl:(sR15.at 4).op = .load 25 (.tmp 72)) rfl (hI6 w' h) (by kernel_rfl)) λa5 hE5 => ?_
 refine f9_ hE5 (o:=sR15.at 5) rfl (by kernel_rfl) 74 (by kernel_rfl) rfl (.int .i64 y4) (λw' _=>eu_ hE5 (by kernel_rfl) w') λa6 hE6 => ?_
 refine f9_ hE6 (o:=sR15.at 6) rfl (by kernel_rfl) 75 (by kernel_rfl) rfl (.pointer (some ⟨b,off+y4.toNat*3,none⟩)) (λw' h => ?_) λa7 hE7 => ?_
 .obtain⟨b',off',e,hrun⟩:=gd_ (P:=Tryz.prog) (by kernel_rfl:(sR15.at 6).op = .indexAddr 25 (.tmp 73) (.tmp 74)) (by kernel_rfl) (by kernel_rfl:aB_ Tryz.prog 66=some 3) (hE6.eval rfl) (hE6.eval rfl) (hIr w' h) rfl hs.at4;cases e
  exact hrun
 refine f9_ hE7 (o:=sR15.at 7) rfl (by kernel_rfl) 76 (by kernel_rfl) rfl (.pointer (some ⟨b,off+y4.toNat*3+1,none⟩)) (λw' _=>eu_ hE7 (by kernel_rfl) w') λa8 hE8 => ?_
 refine f9_ hE8 (o:=sR15.at 8) rfl (by kernel_rfl) 77 (by kernel_rfl) rfl (.slice Aq y5.Xf.length capq) (λw' h=>rp_ (by kernel_rfl:(sR15.at 8).op = .load 34 (.tmp 76)) (hE8.eval rfl) (hIr w' h) rfl hrow rfl (by kernel_rfl)) λa9 hE9 => ?_
 refine f9_ hE9 (o:=sR15.at 9) rfl (by kernel_rfl) 78 (by kernel_rfl) rfl (.agg #[m0,m1,m2,m3,m4,m5]) (λw' h=>Rt.run_load (by kernel_rfl:(sR15.at 9).op = .load 39 (.tmp 9)) (hE9.eval rfl) ?_) λa10 hE10 => ?_
 .have:=de_ (P:=Tryz.prog) (T:=39) (b:=b9) (base:=0) (off:=0) (cs:=[m0,m1,m2,m3,m4,m5]) (v := .agg #[m0,m1,m2,m3,m4,m5]) (by kernel_rfl) (w:=w') (λj u hu=>by
   rw[Nat.zero_add];exact(hIz w' h).cell hF9 (hc9 j u hu))
  exact this
 have hapq:∀k,(z.F k\/k=b6\/bA_ (some ⟨b,off,none⟩) k)->¬bA_ Aq k:=λk hk hq=>by
  rcases hk with hk|hk|hk
  .exact hM.nfz (r := .row 39 6 Aq y5.Xf.length capq rq) (by simp) hq hk
  .exact(List.pairwise_cons.1 (List.pairwise_cons.1 hM.sep.apart).2).1 (.row 39 6 Aq y5.Xf.length capq rq) (by simp) (.inl trivial) k hk hq
  .exact(List.pairwise_cons.1 (List.pairwise_cons.1 (List.pairwise_cons.1 hM.sep.apart).2).2).1 (.row 39 6 Aq y5.Xf.length capq rq) (by simp) (.inl trivial) k hk hq
 refine jc_ (o:=sR15.at 10) rfl λw' hx => ?_
 refine st_call hE10 (by kernel_rfl) 79 (by kernel_rfl) rfl 52 #[.agg #[m0,m1,m2,m3,m4,m5]] (by kernel_rfl) _ (clone_call hs.cl (hM.ext hx) hms) λa11 v79 w11 hR hE11 => ?_
 obtain⟨z1,vs,hM1,hz1,rfl,hvs,hchg⟩:=hR;obtain⟨n0,n1,n2,n3,n4,n5,rfl⟩:=lC_ hvs.len;refine⟨λ_ hI=>hIx w' w11 (hIx w w' hI hx) (Ext.of_below hchg.below),?_⟩;refine jc_ (o:=sR15.at 11) rfl λw' hx => ?_
 refine go_slice hE11 (hM1.ext hx).sep (by kernel_rfl) 80 (by kernel_rfl) rfl 39 6 1 [[n0,n1,n2,n3,n4,n5]] (λ_=>by kernel_rfl) rfl (λr hr=>by obtain rfl:=List.mem_singleton.1 hr;rfl) rfl λa12 w12 A8 hx12 hE12 hS12 => ?_
 refine⟨λ_ hI=>hIx w' w12 (hIx w11 w' hI hx) hx12,?_⟩;refine jc_ (o:=sR15.at 12) rfl λw' hx => ?_
 have hlit:=cd_ ((hS12.ext hx).hold (.row 39 6 A8 1 1 [[n0,n1,n2,n3,n4,n5]]) (by simp));obtain⟨A',cap',w13,hrun,hS13,hgrow,hoth⟩:=kQ_ (P:=Tryz.prog) (k:=4) (by kernel_rfl:(sR15.at 12).op = .call { callee := .builtin .append,args := #[.tmp 77,.tmp 80],argTypes := #[34,34] }) (ko_ (t:=34) (e:=39) (c:=6) (bytes:=104) (by kernel_rfl) (by kernel_rfl)) (hE12.eval rfl) (hE12.eval rfl) (hS12.ext hx) rfl hlit (λr hr=>by
  obtain rfl:=List.mem_singleton.1 hr;exact RD.cells hvs) rfl rfl hr (λr hr=>by obtain rfl:=List.mem_singleton.1 hr;rfl)
 refine e9_ hE12 (by kernel_rfl) 81 (by kernel_rfl) rfl _ hrun λa13 hE13 => ?_
 refine⟨λ_ hI => ?_,?_⟩
 .have h1:=hIx w12 w' hI hx;exact⟨Nat.le_trans h1.1 hgrow.size,λk hk=>(hoth k (Nat.lt_of_lt_of_le (hlt k hk) h1.1) (hapq k hk)).trans (h1.2 k hk)⟩
 refine jc_ (o:=sR15.at 13) rfl λw' hx => ?_
 have hS14:=hS13.ext hx;obtain⟨b',off',e,hrun⟩:=gd_ (P:=Tryz.prog) (by kernel_rfl:(sR15.at 13).op = .indexAddr 25 (.tmp 70) (.tmp 71)) (by kernel_rfl) (by kernel_rfl:aB_ Tryz.prog 66=some 3) (hE13.eval rfl) (hE13.eval rfl) (cd_ (hS14.hold (.row 66 3 (some ⟨b,off,none⟩) y1.Xq.length cap rows) (by simp))) rfl hs.at4;cases e
 refine e9_ hE13 (by kernel_rfl) 82 (by kernel_rfl) rfl _ hrun λa14 hE14 => ?_
 refine⟨λ_ hI=>hIx w13 w' hI hx,?_⟩;refine jc_ (o:=sR15.at 14) rfl λw2 hx2 => ?_
 refine gN_ hE14 (by kernel_rfl) 83 (by kernel_rfl) rfl (.pointer (some ⟨b,off+y4.toNat*3+1,none⟩)) (by kernel_rfl) λa15 hE15 => ?_
 refine⟨λ_ hI=>hIx w' w2 hI hx2,?_⟩;refine jc_ (o:=sR15.at 15) rfl λw3 hx3 => ?_
 have hS15:=(hS14.ext hx2).ext hx3;have hvr:dG_ vr=true:=RD.cell hrr;refine go_put (j:=1) (i:=y4.toNat) (r:=[S y5.Xy,.slice Aq y5.Xf.length capq,.int .i64 y5.Xl]) (r':=[S y5.Xy,.slice A' (y5.Xf.length+1) cap',.int .i64 y5.Xl]) (L':=[.row 39 6 A8 1 1 [[n0,n1,n2,n3,n4,n5]],.ro z1.F z1.In,.box b6 27 [vr,.slice (some ⟨b,off,none⟩) y1.Xq.length cap],.row 66 3 (some ⟨b,off,none⟩) y1.Xq.length cap (rows.set y4.toNat [S y5.Xy,.slice A' (y5.Xf.length+1) cap',.int .i64 y5.Xl]),.row 39 6 A' (y5.Xf.length+1) cap' (rq++[[n0,n1,n2,n3,n4,n5]]),.box b4 27 [.slice none 0 0,.slice none 0 0]]) hE15 hS15 (by kernel_rfl) (by kernel_rfl) 3 (by kernel_rfl:(sR15.at 15).op = .store 34 (.tmp 83) (.tmp 81)) rfl rfl rfl rfl hrow rfl (by kernel_rfl) (by kernel_rfl) rfl rfl rfl rfl λw16 hS16 => ?_
 refine⟨λh=>(by cases h),λX d => ?_⟩;show(Code.seq sR16 .ret).wp _ _ a15 (w16.ext X d);have hS17:=hS16.ext ⟨X,d,rfl⟩;rw[sR16_eq];refine il_ (λa' w'=>Env 85 a' [(4,.pointer (some ⟨b4,0,none⟩)),(5,.int .i64 0)]/\Sep [] w0 w' [.row 39 6 A8 1 1 [[n0,n1,n2,n3,n4,n5]],.ro z1.F z1.In,.box b6 27 [vr,.slice (some ⟨b,off,none⟩) y1.Xq.length cap],.row 66 3 (some ⟨b,off,none⟩) y1.Xq.length cap (rows.set y4.toNat [S y5.Xy,.slice A' (y5.Xf.length+1) cap',.int .i64 y5.Xl]),.row 39 6 A' (y5.Xf.length+1) cap' (rq++[[n0,n1,n2,n3,n4,n5]]),.box b4 27 [vr,.slice (some ⟨b,off,none⟩) y1.Xq.length cap]]) (λa' w' ⟨hE',hS'⟩ => ?_) (g0_ ?_)
 .refine wp_ret (out (N:=85) (rs:=[.cell 4 27,.tmp 5]) (vs:=[.agg #[vr,.slice (some ⟨b,off,none⟩) y1.Xq.length cap],.int .i64 0]) (by kernel_rfl) hE' hS' (.cons (.cell (i:=5) rfl rfl (by kernel_rfl)) (.cons (.tmp rfl) .nil)) ?_);have hMq:Mx te z0 w0 w' z1 [.row 39 6 A' (y5.Xf.length+1) cap' (rq++[[n0,n1,n2,n3,n4,n5]]),.row 66 3 (some ⟨b,off,none⟩) y1.Xq.length cap (rows.set y4.toNat [S y5.Xy,.slice A' (y5.Xf.length+1) cap',.int .i64 y5.Xl])] :=
   (hM1.of_sep hS' (l:=[.row 66 3 (some ⟨b,off,none⟩) y1.Xq.length cap (rows.set y4.toNat [S y5.Xy,.slice A' (y5.Xf.length+1) cap',.int .i64 y5.Xl]),.row 39 6 A' (y5.Xf.length+1) cap' (rq++[[n0,n1,n2,n3,n4,n5]])]) (.cons _ (.cons_cons _ (.cons _ (.cons_cons _ (.cons_cons _ (.cons _ .slnil)))))) (λr hr=>by
    simp only[List.mem_cons,List.not_mem_nil,or_false]at hr;rcases hr with rfl|rfl<;>trivial)).perm (List.Perm.swap _ _ _)
  obtain⟨hMr,hzr,hsr⟩:=hMq.freeze;obtain⟨hMs,hzs,hss⟩:=hMr.freeze;have hzB:=hzr.trans hzs;have hzA:=hz1.trans hzB;have hcapq:y5.Xf.length+1<=cap':=(Own.cap_le (hMq.sep.hold (.row 39 6 A' (y5.Xf.length+1) cap' (rq++[[n0,n1,n2,n3,n4,n5]])) (by simp)).1).1;have hcapp:y1.Xq.length<=cap:=(Own.cap_le (hMq.sep.hold (.row 66 3 (some ⟨b,off,none⟩) y1.Xq.length cap (rows.set y4.toNat [S y5.Xy,.slice A' (y5.Xf.length+1) cap',.int .i64 y5.Xl])) (by simp)).1).1;obtain⟨_,_,rfl⟩:=ik_ hr;have hql:(y5.Xf++[y9]).length=y5.Xf.length+1:=by simp
  have hsl:(y1.Xq.set y4.toNat ⟨y5.Xy,y5.Xf++[y9],y5.Xl⟩).length=y1.Xq.length:=List.length_set;refine⟨_,vr,_,hMs,rfl,RD.cons (hrr.le hzA) ?_⟩;rw[←hsl]at hcapp hss ⊢;refine .sl hss hcapp (λk x r h7 h8 => ?_) .nil
  replace h7:(y1.Xq.set y4.toNat (Xv.mk y5.Xy (y5.Xf++[y9]) y5.Xl))[k]? = some x:=h7;by_cases hk:y4.toNat=k
  .subst hk;rw[List.getElem?_set,if_pos rfl,if_pos hlt4]at h7;rw[List.getElem?_set,if_pos rfl,if_pos (by rw[hh.len];exact hlt4)]at h8;obtain rfl:=qSj h7;obtain rfl:=qSj h8;have hq:=SlF.le hsr hzs;rw[←hql]at hq hcapq ⊢;refine .str (.sl hq hcapq ?_ (.int .nil));exact(hrq.le hzA).append (λi' x' r' h9 h10=>by
    obtain rfl:i'=0:=Nat.lt_one_iff.1 (List.getElem?_eq_some_iff.1 h9).1;obtain rfl:=qSj h9;obtain rfl:=qSj h10;exact hvs.le hzB) hlq
  .rw[List.getElem?_set,if_neg hk]at h7;rw[List.getElem?_set,if_neg hk]at h8;exact(hh.other k x r (λe=>hk e.symm) h7 h8).le hzA
 .refine e9_ hE15 (by kernel_rfl) 84 (by kernel_rfl) rfl (.agg #[vr,.slice (some ⟨b,off,none⟩) y1.Xq.length cap]) (ld_box hE15 hS17 2 (by kernel_rfl:(sR16.at 0).op = .load 27 (.tmp 6)) rfl rfl (by kernel_rfl)) λa16 hE16 => ?_
  refine go_set (L':=[.row 39 6 A8 1 1 [[n0,n1,n2,n3,n4,n5]],.ro z1.F z1.In,.box b6 27 [vr,.slice (some ⟨b,off,none⟩) y1.Xq.length cap],.row 66 3 (some ⟨b,off,none⟩) y1.Xq.length cap (rows.set y4.toNat [S y5.Xy,.slice A' (y5.Xf.length+1) cap',.int .i64 y5.Xl]),.row 39 6 A' (y5.Xf.length+1) cap' (rq++[[n0,n1,n2,n3,n4,n5]]),.box b4 27 [vr,.slice (some ⟨b,off,none⟩) y1.Xq.length cap]]) hE16 hS17 (by kernel_rfl) (by kernel_rfl) 5 (by kernel_rfl:(sR16.at 1).op = .store 27 (.tmp 4) (.tmp 84)) rfl rfl rfl (by kernel_rfl) (by kernel_rfl) (mS_ hvr rfl) [vr,.slice (some ⟨b,off,none⟩) y1.Xq.length cap] (by kernel_rfl) rfl λw18 hS18 => ?_
  refine gN_ hE16 (by kernel_rfl) 5 (by kernel_rfl) rfl (.int .i64 0) (by kernel_rfl) λa17 hE17 => ?_
  exact⟨hE17.sel ⟨rfl,rfl,trivial⟩,hS18⟩
set_option maxRecDepth 100000 in
theorem send_hole(hs:Sent x0 x1 y1 m n y4 y5 y9)(hr:room 104 y5.Xf [y9]=some y10){w:World}{z:Fz}(hz:z.In w)(hg:Glo te z){v0 v1:Value}
  (hv0:RV Tryz.prog te z (λ_=>none) (.v (.agg [.dt (.sl (.st 1)) x0.Xc,.dt (.sl (.st 4)) x0.Xq])) v0) (hv1:∃ms:List Value,v1 = .agg ms.toArray/\RD te z (te.flat (.st 3)) (te.fl (.st 3) x1) ms) :
  Ret Tryz.prog 19 #[v0,v1] w (SentH z w ⟨y1.Xc,y1.Xq.set y4.toNat ⟨y5.Xy,y10,y5.Xl⟩⟩):=by
 obtain⟨vs0,rfl,hc0⟩:=hv0;obtain⟨ms,rfl,hms⟩:=hv1;have hv0:RV Tryz.prog te z (λ_=>none) (.v (.agg [.dt (.sl (.st 1)) x0.Xc,.dt (.sl (.st 4)) x0.Xq])) (.agg vs0.toArray):=⟨vs0,rfl,hc0⟩;have hr0:RD te z (te.flat (.st 5)) (te.fl (.st 5) x0) vs0:=cells_rd.2 hc0;obtain⟨r0,p0,rfl⟩:=two_list' hc0.len.symm;obtain⟨m0,m1,m2,m3,m4,m5,rfl⟩:=lC_ hms.len;refine enter Tryz.func19 sC_eq (by kernel_rfl) (by kernel_rfl) (N:=85) λa hE => ?_
 have hM0:=Mx.start (E:=te) hz hg;rw[sR0_eq,sR1_eq];refine wp_seq (g0_ ?_);refine go_box hE hM0.sep (by kernel_rfl) 2 (by kernel_rfl) rfl 27 [r0,p0] (λ_=>by kernel_rfl) λa1 w1 b2 _ hE1 hS1 => ?_
 refine go_box hE1 hS1 (by kernel_rfl) 3 (by kernel_rfl) rfl 39 [m0,m1,m2,m3,m4,m5] (λ_=>by kernel_rfl) λa2 w2 b3 _ hE2 hS2 => ?_
 refine go_box hE2 hS2 (by kernel_rfl) 4 (by kernel_rfl) rfl 27 [.slice none 0 0,.slice none 0 0] (λ_=>by kernel_rfl) λa3 w3 b4 _ hE3 hS3 => ?_
 refine gN_ hE3 (by kernel_rfl) 5 (by kernel_rfl) rfl (.int .i64 0) (by kernel_rfl) λa4 hE4 => ?_
 show(Code.seq _ _).wp _ _ a4 w3;refine wp_seq (g0_ ?_);refine e9_ hE4 (by kernel_rfl) 13 (by kernel_rfl) rfl (.agg #[r0,p0]) (ld_box hE4 hS3 2 (by kernel_rfl:(sR1.at 0).op = .load 27 (.tmp 2)) rfl rfl (by kernel_rfl)) λa5 hE5 => ?_
 have hz3:z.In w3:=(hS3.hold (.ro z.F z.In) (by simp)).1;refine st_call hE5 (by kernel_rfl) 14 (by kernel_rfl) rfl 41 #[.agg #[r0,p0]] (by kernel_rfl) (OwnH z w3 y4.toNat y1) (own_hole hs.own y4.toNat hz3 hg hv0) λa6 v14 w4 hO hE6 => ?_
 obtain⟨z2,vr,A,cap,rows,Aq,capq,rq,hMo,rfl,hrr,hh⟩:=hO;have hM1:Mx te z w w3 z [.box b4 27 [.slice none 0 0,.slice none 0 0],.box b3 39 [m0,m1,m2,m3,m4,m5],.box b2 27 [r0,p0]]:=by
  refine⟨hM0.le,hM0.gl,hM0.new,hS3.perm ?_,λr hr => ?_⟩
  .exact List.perm_append_comm (l₁ := [_,_,_]) (l₂ := [_])
  .simp only[List.mem_cons,List.not_mem_nil,or_false]at hr;rcases hr with rfl|rfl|rfl<;>trivial
 have hM2:=hM1.call hMo;refine go_box hE6 hM2.sep (by kernel_rfl) 6 (by kernel_rfl) rfl 27 [.slice none 0 0,.slice none 0 0] (λ_=>by kernel_rfl) λa7 w5 b6 _ hE7 hS5 => ?_
 have hvr:dG_ vr=true:=RD.cell hrr;refine go_set (L':=[.box b6 27 [vr,.slice A y1.Xq.length cap],.ro z2.F z2.In,.row 66 3 A y1.Xq.length cap rows,.row 39 6 Aq rq.length capq rq,.box b4 27 [.slice none 0 0,.slice none 0 0],.box b3 39 [m0,m1,m2,m3,m4,m5],.box b2 27 [r0,p0]]) hE7 hS5 (by kernel_rfl) (by kernel_rfl) 0 (by kernel_rfl:(sR1.at 3).op = .store 27 (.tmp 6) (.tmp 14)) rfl rfl rfl (by kernel_rfl) (by kernel_rfl) (mS_ hvr rfl) [vr,.slice A y1.Xq.length cap] (by kernel_rfl) rfl λw6 hS6 => ?_
 show(Code.seq _ _).wp _ _ a7 w6;have hM6:Mx te z w w6 z2 [.box b2 27 [r0,p0],.box b3 39 [m0,m1,m2,m3,m4,m5],.box b6 27 [vr,.slice A y1.Xq.length cap],.row 66 3 A y1.Xq.length cap rows,.row 39 6 Aq rq.length capq rq,.box b4 27 [.slice none 0 0,.slice none 0 0]]:=by
  refine⟨hM2.le,hM2.gl,hM2.new,hS6.perm ?_,λr hr => ?_⟩
  .refine(List.Perm.swap _ _ _).trans (List.Perm.cons _ ?_);refine(List.perm_append_comm (l₁ := [_,_,_,_]) (l₂ := [_,_])).trans ?_;exact List.Perm.swap _ _ _
  .simp only[List.mem_cons,List.not_mem_nil,or_false]at hr;rcases hr with rfl|rfl|rfl|rfl|rfl|rfl<;>trivial
 obtain⟨hM7,hz7,hc7⟩:=hM6.freezeBox;obtain⟨hM8,hz8,hc8⟩:=hM7.freezeBox;have hz08:=hMo.le.trans (hz7.trans hz8);have hb2:(z2.grow (λk=>k=b2) w6).F b2 := .inr rfl;have hR:Rel Tryz.prog te [] ⟨_,sG2 b2 b3 b4 b6,5⟩ w6 85 (sS2.L (bS (sH2 x0 x1))) (sS2.H (bS (sH2 x0 x1))) sS2.nx a7 w6 :=
  hM8.relF (H:=sH2 x0 x1) (lo:=5) (nx:=10) (hE7.sel (sl:=[(2,.pointer (some ⟨b2,0,none⟩)),(3,.pointer (some ⟨b3,0,none⟩)),(4,.pointer (some ⟨b4,0,none⟩)),(6,.pointer (some ⟨b6,0,none⟩))]) ⟨rfl,rfl,rfl,rfl,trivial⟩)
   (.cons ⟨_,rfl,rfl⟩ (.cons ⟨_,rfl,rfl⟩ (.cons ⟨_,rfl,rfl⟩ (.cons ⟨_,rfl,rfl⟩ .nil)))) (jV_ (by decide)) λid o e=>by
   rcases frH_two e with⟨rfl,rfl⟩|⟨rfl,rfl⟩
   .exact⟨.st 5,x0,rfl,_,[r0,p0],rfl,(hz8 b2 hb2).1,hr0.le hz08,λj u hu=>hz8.cell hb2 (hc7 j u hu)⟩
   .exact⟨.st 3,x1,rfl,_,[m0,m1,m2,m3,m4,m5],rfl,.inr rfl,hms.le hz08,hc8⟩
 have hlo:Fresh (sG2 b2 b3 b4 b6) (bS (sH2 x0 x1)).lo:=jV_ (Nat.le_refl 5);refine wp_seq (frag ad_ hQ_ hlo hs.ev2 hR λex s1 a8 w8 he hR => ?_);cases ex with
 | some _=>cases he
 | none =>
 refine wp_seq (frag ad_ hQ_ hlo he hR λex s2 a9 w9 he hR => ?_);cases ex with
 | some _=>cases he
 | none =>
 refine wp_seq (frag ad_ hQ_ hlo he hR λex s3 a10 w10 he hR => ?_);cases ex with
 | some _=>cases he
 | none =>
 show(Code.seq _ _).wp _ _ a10 w10
 replace he:sK2 (sH2 x0 x1) s3=some (m,n):=he;obtain⟨z10,g10,hE10,hH10,hf10,hz10,hg10⟩:=hR;unfold sK2 at he;obtain⟨k4,e4,he⟩:=bind_some he;obtain⟨k6,e6,he⟩:=bind_some he;obtain⟨i9,e9,he⟩:=bind_some he;obtain⟨i10,e10,he⟩:=bind_some he;obtain⟨cs,ec,he⟩:=bind_some he;obtain⟨ds,ed,he⟩:=bind_some he;obtain⟨hb,he⟩:=bq_ he;obtain⟨d0,c0,he⟩:=bind_some he;obtain⟨d1,c1,he⟩:=bind_some he;obtain⟨d2,c2,he⟩:=bind_some he;obtain⟨d3,c3,he⟩:=bind_some he;obtain⟨d4,c4,he⟩:=bind_some he;obtain⟨d5,c5,he⟩:=bind_some he;obtain⟨n',c6,he⟩:=bind_some he;injection qSj he with hm hn;subst hn;simp only[qAn,Bool.not_eq_true']at hb
 have hne:i9≠i10:=aZ_ hb.1.1.1;obtain⟨q0,q1,q2,q3,q4,q5,rfl⟩:=lC_ (qNb hb.1.1.2);obtain⟨q6,rfl⟩:=one_list (qNb hb.1.2);obtain rfl:=qNb hb.2.1;obtain rfl:=qNb hb.2.2;obtain rfl:=qSj (db_ c0);obtain rfl:=qSj (db_ c1);obtain rfl:=qSj (db_ c2);obtain rfl:=qSj (db_ c3);obtain rfl:=qSj (db_ c4);obtain rfl:=qSj (db_ c5);obtain rfl:=qSj (db_ c6);obtain⟨_,t4,l4,gl4,rfl⟩:=hE10.get 4 _ (b6_ e4);obtain⟨_,t6,l6,gl6,rfl⟩:=hE10.get 6 _ (b6_ e6);obtain⟨_,t9,l9,gl9,rfl⟩:=hE10.get 9 _ (b6_ e9);obtain⟨_,t10,l10,gl10,rfl⟩:=hE10.get 10 _ (b6_ e10);obtain rfl:=qSj ((hg10 3 _ rfl).symm.trans gl4);obtain rfl:=qSj ((hg10 4 _ rfl).symm.trans gl6)
 obtain⟨lk9,vs9,gk9,hvs9,rk9⟩:=ip_ hH10 (bG_ ec);obtain rfl:=qSj (gl9.symm.trans gk9);obtain⟨lk10,vs10,gk10,hvs10,rk10⟩:=ip_ hH10 (bG_ ed);obtain rfl:=qSj (gl10.symm.trans gk10);have hM10:=hM8.step hH10 hz10 [(i9,.box l9.b 39 vs9),(i10,.box l10.b 9 vs10)] (λp hp=>by
  rcases List.mem_cons.1 hp with rfl|hp
  .exact⟨_,bG_ ec,rk9⟩
  .obtain rfl:=List.mem_singleton.1 hp;exact⟨_,bG_ ed,rk10⟩) (by simp[hne])
 have hm9:RD te z10 (te.flat (.st 3)) (te.fl (.st 3) m) vs9:=by
  rw[←hm];exact cells_rd.2 hvs9
 have hn10:RD te z10 (te.flat .str) (te.fl .str n') vs10:=cells_rd.2 hvs10;obtain⟨hM11,hz11,hc11⟩:=hM10.freezeBox;obtain⟨hM12,hz12,hc12⟩:=hM11.freezeBox;have hzA:z2.Le _:=hz7.trans (hz8.trans (hz10.trans (hz11.trans hz12)));have hb9:(z10.grow (λk=>k=l9.b) w10).F l9.b := .inr rfl;have hMB:=hM12.perm (L':=[.row 39 6 Aq rq.length capq rq,.row 66 3 A y1.Xq.length cap rows,.box b6 27 [vr,.slice A y1.Xq.length cap],.box b4 27 [.slice none 0 0,.slice none 0 0]]) (by
  refine(List.Perm.cons _ (List.Perm.swap _ _ _)).trans ?_;refine(List.Perm.swap _ _ _).trans ?_;exact List.Perm.cons _ (List.Perm.swap _ _ _))
 obtain⟨hM13,hz13,hs13⟩:=hMB.freeze;obtain⟨hM14,hz14,hs14⟩:=hM13.freeze;obtain⟨hM15,hz15,hc15⟩:=hM14.freezeBox;have hzB:=hz13.trans (hz14.trans hz15);obtain⟨h40,hy5,hlt4⟩:=df_ hs.at4;have hcapq:rq.length<=capq:=(Own.cap_le (hMB.sep.hold (.row 39 6 Aq rq.length capq rq) (by simp)).1).1;have hcapp:y1.Xq.length<=cap:=(Own.cap_le (hMB.sep.hold (.row 66 3 A y1.Xq.length cap rows) (by simp)).1).1;have hy1:RD te _ (te.flat (.st 5)) (te.fl (.st 5) y1) [vr,.slice A y1.Xq.length cap] :=
  RD.cons ((hrr.le hzA).le hzB) (.sl (SlF.le hs14 hz15) hcapp (λj x r h7 h8=>by
   by_cases hj:j=y4.toNat
   .subst hj;obtain⟨h9,h10,h11⟩:=hh.hole x h7;obtain rfl:=qSj (h9.symm.trans h8);have hq:=SlF.le hs13 (hz14.trans hz15);rw[h10]at hq hcapq;exact .str (.sl hq hcapq (λj x r h7 h8=>((h11.le hzA).le hzB) j x r h7 h8) (.int .nil))
   .exact((hh.other j x r hj h7 h8).le hzA).le hzB) .nil)
 have hR:Rel Tryz.prog te [] ⟨_,sG2 b6 l9.b l10.b b4,5⟩ w10 85 (sS3.L (bS (sH3 y1 m n'))) (sS3.H (bS (sH3 y1 m n'))) sS3.nx a10 w10 :=
  hM15.relF (H:=sH3 y1 m n') (lo:=5) (nx:=10) (m:=[(6,.pointer (some ⟨b6,0,none⟩)),(9,.pointer (some ⟨l9.b,0,none⟩)),(10,.pointer (some ⟨l10.b,0,none⟩)),(4,.pointer (some ⟨b4,0,none⟩))]) (((((Env.of_er hE10).add t4).add t10).add t9).add t6)
   (.cons ⟨_,rfl,rfl⟩ (.cons ⟨_,rfl,rfl⟩ (.cons ⟨_,rfl,rfl⟩ (.cons ⟨_,rfl,rfl⟩ .nil)))) (jV_ (by decide)) λid o e=>by
   rcases frH_three e with⟨rfl,rfl⟩|⟨rfl,rfl⟩|⟨rfl,rfl⟩
   .exact⟨.st 5,y1,rfl,_,_,rfl,.inr rfl,hy1,hc15⟩
   .exact⟨.st 3,m,rfl,_,vs9,rfl,(hzB _ (hz12 _ hb9).1).1,(hm9.le (hz11.trans hz12)).le hzB,λj u hu=>hzB.cell (hz12 _ hb9).1 (hz12.cell hb9 (hc11 j u hu))⟩
   .exact⟨.str,n',rfl,_,vs10,rfl,(hzB _ (.inr rfl)).1,(hn10.le (hz11.trans hz12)).le hzB,λj u hu=>hzB.cell (.inr rfl) (hc12 j u hu)⟩
 have hlo:Fresh (sG2 b6 l9.b l10.b b4) (bS (sH3 y1 m n')).lo:=jV_ (Nat.le_refl 5);refine wp_seq (frag ad_ hQ_ hlo hs.ev3 hR λex s4 a11 w11 he hR => ?_);cases ex with
 | some _=>cases he
 | none =>
 refine wp_seq (frag ad_ hQ_ hlo he hR λex s5 a12 w12 he hR => ?_);cases ex with
 | some _=>cases he
 | none =>
 show(Code.seq _ _).wp _ _ a12 w12
 replace he:sK3 (sH3 y1 m n') s5=some y4:=he;obtain⟨z12,g12,hE12,hH12,hf12,hz12',hg12⟩:=hR;unfold sK3 at he;obtain⟨k4,e4,he⟩:=bind_some he;obtain⟨k6,e6,he⟩:=bind_some he;obtain⟨k9,e9,he⟩:=bind_some he;obtain⟨hb,he⟩:=bq_ he;simp only[qAn]at hb;obtain rfl:=qNb hb.1.1;obtain rfl:=qNb hb.1.2;obtain rfl:=qNb hb.2;obtain⟨_,t4,l4,gl4,rfl⟩:=hE12.get 4 _ (b6_ e4);obtain⟨_,t6,l6,gl6,rfl⟩:=hE12.get 6 _ (b6_ e6);obtain⟨_,t9,l9',gl9,rfl⟩:=hE12.get 9 _ (b6_ e9);obtain⟨v12,t12,r12⟩:=hE12.get 12 _ (hk_ he);obtain rfl:=qSj ((hg12 4 _ rfl).symm.trans gl4);obtain rfl:=qSj ((hg12 1 _ rfl).symm.trans gl6);obtain rfl:=qSj ((hg12 2 _ rfl).symm.trans gl9)
 obtain⟨_,ev,_⟩:=RD.int_inv r12;injection ev with ev _;subst ev;refine send_end hs hr ⟨_,b4,b6,l9.b,vr,A,cap,rows,Aq,capq,rq,vs9,(hM12.ext (Ext.of_below hH12.chg.below)).perm ?_,((((Env.of_er hE12).add t12).add t9).add t6).add t4,hrr.le hzA,⟨hh.len,λj x r hj h7 h8=>(hh.other j x r hj h7 h8).le hzA,λx hx => ?_⟩,(hz12 _ hb9).1,hm9.le (hz11.trans hz12),λj u hu=>hz12.cell hb9 (hc11 j u hu)⟩
 .exact List.Perm.refl _
 .obtain⟨h9,h10,h11⟩:=hh.hole x hx;exact⟨h9,h10,h11.le hzA⟩
end
noncomputable section
noncomputable def l2_(x0:Xj)(x1:Xw):Option (Xj×Int) :=
 (cA_ x0).bind λy1 =>
 (di_ x1).bind λy2 =>
 (bif(y2.2 != 0)then
  some ((y1,y2.2))
 else
  (f5_ x0.Xc x1).bind λy3 =>
  Option.bind (
   (bif(!y3.2.2)then
    some (x1,x1.Xa)
   else
    some (y3.1,y3.2.1))
   ) λ(o1:Xw×Str) =>
  (aD_ y1.Xq (λ(u1:Xv)=>Option.bind (fE_ u1 o1.2) λ(v1:Bool)=>some v1)).bind λy4 =>
  (bif(decide (y4<0))then
   some ((y1,51))
  else
   (ag_ y1.Xq y4).bind λy5 =>
   (bif(y5.Xl==0)then
    some ((y1,51))
   else
    (cG_ o1.1).bind λy6 =>
    (bif(!y6)then
     some ((y1,4))
    else
     (ag_ y1.Xq y4).bind λy7 =>
     (bif(decide ((y7.Xf.length:Int)>=64))then
      some ((y1,22))
     else
      none)))))
theorem sendA_ok(x0:Xj)(x1:Xw):l2_ x0 x1=fw_ Tryz.prog te eqL tSend fSend [.d (.st 5),.d (.st 3)] [(.st 5,[]),(.int .i64,[])] (.s .p (.s .p (.s .p (.s .p (.j ⟨[],[(32,true,.box 39 (.st 3)),(34,true,.box 9 .str)],[4,6,9,10],[4,8,9,11],[],41⟩ false (.s .p (.s (.dr [0,0,0,1,1] [] true [32,34]) .p)) (.s .p (.s (.s (.ot 0 (.free 0 (.free 1 (.free 2 (.spl 2 (.free 3 (.alt 4 (.free 5 (.alt 6 (.free 7 (.alt 8 (.free 9 (.alt 10 (.free 11 .nil) .nil)) .nil)) .nil)) .nil)) (.free 3 (.alt 4 (.free 5 (.alt 6 (.free 7 (.alt 8 (.free 9 (.alt 10 (.free 11 .nil) .nil)) .nil)) .nil)) .nil))))))) .p) (.s (.sq 0) .p)))))))) (x0,x1,()):=by kernel_rfl
theorem aC_{α β:Type}{x:Option α}{f:α->Option β}{a:α}{r:β}(h:x=some a)(h':f a=some r):x.bind f=some r:=by rw[h];exact h'
theorem send_cases{x0:Xj}{x1:Xw}{r:Xj×Int}(h:fg_ x0 x1=some r) :
  l2_ x0 x1=some r\/∃y1 m n y4 y5 y9 y10,Sent x0 x1 y1 m n y4 y5 y9/\room 104 y5.Xf [y9]=some y10/\r=(⟨y1.Xc,y1.Xq.set y4.toNat ⟨y5.Xy,y10,y5.Xl⟩⟩,0):=by
 unfold fg_ at h;obtain⟨y1,h1,h⟩:=bind_some h;obtain⟨y2,h2,h⟩:=bind_some h;cases c2:y2.2 != 0 with
 | true =>
  rw[c2]at h;exact .inl (aC_ h1 (aC_ h2 (by rw[c2];exact h)))
 | false =>
 rw[c2]at h;obtain⟨y3,h3,h⟩:=bind_some (show(f5_ x0.Xc x1).bind _=some r from h);obtain⟨o1,h4,h⟩:=bind_some h;obtain⟨y4,h5,h⟩:=bind_some h;cases c4:decide (y4<0)with
 | true =>
  rw[c4]at h;exact .inl (aC_ h1 (aC_ h2 (by rw[c2];exact aC_ h3 (aC_ h4 (aC_ h5 (by rw[c4];exact h))))))
 | false =>
 rw[c4]at h;obtain⟨y5,h6,h⟩:=bind_some (show(ag_ y1.Xq y4).bind _=some r from h);cases c5:y5.Xl==0 with
 | true =>
  rw[c5]at h;exact .inl (aC_ h1 (aC_ h2 (by rw[c2];exact aC_ h3 (aC_ h4 (aC_ h5 (by rw[c4];exact aC_ h6 (by rw[c5];exact h)))))))
 | false =>
 rw[c5]at h;obtain⟨y6,h7,h⟩:=bind_some (show(cG_ o1.1).bind _=some r from h);cases c6 : !y6 with
 | true =>
  rw[c6]at h;exact .inl (aC_ h1 (aC_ h2 (by rw[c2];exact aC_ h3 (aC_ h4 (aC_ h5 (by rw[c4];exact aC_ h6 (by rw[c5];exact aC_ h7 (by rw[c6];exact h))))))))
 | false =>
 rw[c6]at h;obtain⟨y7,h8,h⟩:=bind_some (show(ag_ y1.Xq y4).bind _=some r from h);obtain rfl:=qSj (h6.symm.trans h8);cases c7:decide ((y5.Xf.length:Int)>=64)with
 | true =>
  rw[c7]at h;exact .inl (aC_ h1 (aC_ h2 (by rw[c2];exact aC_ h3 (aC_ h4 (aC_ h5 (by rw[c4];exact aC_ h6 (by rw[c5];exact aC_ h7 (by rw[c6];exact aC_ h6 (by rw[c7];exact h)))))))))
 | false =>
 rw[c7]at h;obtain⟨y8,h9,h⟩:=bind_some (show(ag_ y1.Xq y4).bind _=some r from h);obtain rfl:=qSj (h6.symm.trans h9);obtain⟨y9,h10,h⟩:=bind_some h;obtain⟨y10,h11,h⟩:=bind_some h;obtain⟨y11,h12,h⟩:=bind_some h;obtain rfl:=qSj (h6.symm.trans h12);obtain rfl:=qSj h;refine .inr ⟨y1,o1.1,o1.2,y4,y5,y9,y10,⟨h1,?_,?_,h6,h10,_,h11⟩,h11,rfl⟩
 .rw[sEv2];exact aC_ h2 (by rw[c2];exact aC_ h3 h4)
 .rw[sEv3];exact aC_ h5 (by rw[c4];exact aC_ h6 (by rw[c5];exact aC_ h7 (by rw[c6];exact aC_ h6 (by rw[c7];rfl))))
def c_19:Con te:=ae_ te [.d (.st 5),.d (.st 3)] [(.st 5,[]),(.int .i64,[])] true λa=>fg_ a.1 a.2.1
theorem ok_19:OKF 19 c_19:=by
 refine⟨?_,by kernel_rfl⟩;intro R a k r hr;obtain⟨x0,x1,u⟩:=a;obtain⟨y,h1,h2⟩:=bind_some (show(fg_ x0 x1).bind _=some r from hr);refine⟨_,_,h2,?_⟩;rcases send_cases h1 with hA|⟨y1,m,n,y4,y5,y9,y10,hs,hrm,rfl⟩
 .exact evFun_ok ad_ hQ_ Tryz.func19 ((sendA_ok x0 x1).symm.trans hA)
 .intro w z g Bs svs vs hav hH hfr hv;obtain rfl:=qSj hav;cases hv with
  | cons hv0 hv =>
  cases hv with
  | cons hv1 hv =>
  cases hv
  obtain⟨vs0,rfl,hc0⟩:=hv0;obtain⟨vs1,rfl,hc1⟩:=hv1;have hr0:RD te z (te.flat (.st 5)) (te.fl (.st 5) x0) vs0:=cells_rd.2 hc0;have hr1:RD te z (te.flat (.st 3)) (te.fl (.st 3) x1) vs1:=cells_rd.2 hc1;refine Ret.mono (send_hole hs hrm hH.fz hH.gl ⟨vs0,rfl,cells_rd.1 hr0⟩ ⟨vs1,rfl,hr1⟩) ?_
  rintro v w' ⟨z',vr,vp,hM,rfl,hrd⟩;refine⟨z',g,_,hM.le,(λe=>nomatch e),Ga.Le.refl g,rfl,?_,?_⟩
  .exact⟨[.agg #[vr,vp],.int .i64 0],rfl,.cons ⟨[vr,vp],rfl,cells_rd.1 hrd⟩ (.cons (.int .nil) .nil)⟩
  .exact⟨⟨hM.sep.chg.grow,λk hk _=>hM.sep.chg.block k hk (by simp)⟩,(λ_ _ e=>nomatch e),(λ_ _ _ e=>nomatch e),(λ_ _ _ _ _ _ e=>nomatch e),hM.In,λk hk=>(hM.new k hk).imp id .inl,(λ_ _ _ e=>nomatch e),hM.gl⟩
def c_29:Con te:=ae_ te [.d (.st 5),.d (.int .i64),.d (.int .i64),.d .str] [(.st 5,[]),(.int .i64,[]),(.int .i64,[])] true λa=>iw_ a.1 a.2.1 a.2.2.1 a.2.2.2.1
theorem ok_29:OKF 29 c_29:=⟨ab_ ad_ (aa_ ok_19 (aa_ ok_63 (aa_ ok_62 (aa_ ok_42 (aa_ ok_41 ac_))))) Tryz.func29 (by kernel_rfl) (pl := .p) λ_=>by kernel_rfl,by kernel_rfl⟩
def c_43:Con te:=ae_ te [.d (.int .i64),.d (.int .i64)] [(.bool,[])] false λa=>iC_ a.1 a.2.1
theorem ok_43:OKF 43 c_43:=⟨ab_ ad_ ac_ Tryz.func43 (by kernel_rfl) (pl := .p) λ_=>by kernel_rfl,by kernel_rfl⟩
def c_16:Con te:=ae_ te [.d (.st 5),.d (.int .i64),.d (.int .i64)] [(.st 5,[some 78,some 66]),(.int .i64,[])] true λa=>mM_ a.1 a.2.1 a.2.2.1
theorem ok_16:OKF 16 c_16:=⟨ab_ ad_ (aa_ ok_43 (aa_ ok_42 (aa_ ok_41 ac_))) Tryz.func16 (by kernel_rfl) (pl := .p) λ_=>by kernel_rfl,by kernel_rfl⟩
theorem e_38(a:PA te [.d (.sl (.st 1))]):fF_ a.1=fw_ Tryz.prog te eqL (ti 71 (inlF Tryz.prog te eqL (ti 114 cW_ c8_) Tryz.f71 (.p:Pl)) (tb 70 c_70 (ti 72 eA_ c8_))) Tryz.f38 [.d (.sl (.st 1))] [(.str,[]),(.int .i64,[])] (.s .p (.s .p (.s .p (.s (.s .p (.lp ⟨[(14,.d (.int .i64))],[(5,true,.cells 110 [.sbp 5,.own 10]),(10,false,.row 5 (.int .u8) [])],[4,12,13],[],[],11⟩ ⟨[],[(5,true,.cells 110 [.sbp 5,.own 10]),(10,false,.row 5 (.int .u8) [])],[4],[],[],11⟩ true (.s .p (.s .p (.s (.s .p (.s .p (.j ⟨[],[(5,true,.cells 110 [.sbp 5,.own 23]),(23,false,.row 5 (.int .u8) [])],[4,6,12,13,14],[15],[],24⟩ false .p (.s .p (.lp ⟨[(28,.d (.int .i64))],[(5,true,.cells 110 [.sbp 5,.own 28]),(28,false,.row 5 (.int .u8) [])],[4,12,13,14,26,27],[],[],29⟩ ⟨[],[(5,true,.cells 110 [.sbp 5,.own 28]),(28,false,.row 5 (.int .u8) [])],[4,12,13,14],[],[],29⟩ false .p))))) .p))))) .p)))) a:=by kernel_rfl
def c_38:Con te:=ae_ te [.d (.sl (.st 1))] [(.str,[]),(.int .i64,[])] false λa=>fF_ a.1
theorem ok_38:OKF 38 c_38:=⟨ab_ ad_ (cj_ ⟨eh_ ad_ (cj_ ds_ ac_) Tryz.func71,by kernel_rfl⟩ (aa_ ok_70 (cj_ eO_ ac_))) Tryz.func38 (by kernel_rfl) e_38,by kernel_rfl⟩
def c_20:Con te:=ae_ te [.d (.st 5),.d (.int .i64),.d (.int .i64),.d (.int .i64)] [(.st 5,[some 78,some 66]),(.str,[]),(.bool,[]),(.int .i64,[])] true λa=>jx_ a.1 a.2.1 a.2.2.1 a.2.2.2.1
theorem ok_20:OKF 20 c_20:=⟨ab_ ad_ (aa_ ok_47 (aa_ ok_38 (aa_ ok_42 (aa_ ok_41 ac_)))) Tryz.func20 (by kernel_rfl) (pl := .s .p (.s .p (.s .p (.s .p (.s (.s .p (.s (.s .p (.s .p (.s (.dr [0,0,0,0,0,0,0,1,4,4,4] [] true [2]) .p))) .p)) (.s .p (.s .p (.s .p (.j ⟨[(17,.d (.int .i64))],[],[8,12,15,16],[2,8,9,11],[3039],3060⟩ false .p .p))))))))) λ_=>by kernel_rfl,by kernel_rfl⟩
def c_60:Con te:=ae_ te [.d (.st 4),.p .str] [(.bool,[])] false λa=>hM_ a.1 a.2.1
theorem ok_60:OKF 60 c_60:=⟨ab_ ad_ ac_ Tryz.func60 (by kernel_rfl) (pl := .p) λ_=>by kernel_rfl,by kernel_rfl⟩
def c_24:Con te:=ae_ te [.d (.st 5),.d (.int .i64),.d .str] [(.int .i64,[]),(.int .i64,[])] false λa=>cr_ a.1 a.2.1 a.2.2.1
theorem ok_24:OKF 24 c_24:=⟨ab_ ad_ (aa_ ok_60 (aa_ ok_49 (aa_ ok_42 ac_))) Tryz.func24 (by kernel_rfl) (pl := .p) λ_=>by kernel_rfl,by kernel_rfl⟩
def c_115:Con te:=ae_ te [.d (.sl (.st 3)),.f1 (.st 3) .bool] [(.int .i64,[])] false λa=>be_ a.1 a.2.1
theorem ok_115:OKF 115 c_115:=⟨ab_ ad_ ac_ Tryz.func115 (by kernel_rfl) (pl := .s .p (.s (.s .p (.lp ⟨[(8,.d (.int .i64))],[],[0,1,7],[],[],4⟩ ⟨[],[],[],[],[],4⟩ true .p)) .p)) λ_=>by kernel_rfl,by kernel_rfl⟩
def c_73:Con te:=ae_ te [.d (.sl (.st 3)),.f1 (.st 3) .bool] [(.bool,[])] false λa=>bR_ a.1 a.2.1
theorem ok_73:OKF 73 c_73:=⟨ab_ ad_ (aa_ ok_115 ac_) Tryz.func73 (by kernel_rfl) (pl := .p) λ_=>by kernel_rfl,by kernel_rfl⟩
def c_74:Con te:=ae_ te [.d (.st 3)] [(.bool,[])] false λa=>dv_ a.1
theorem ok_74:OKF 74 c_74:=⟨ab_ ad_ (aa_ ok_51 ac_) Tryz.func74 (by kernel_rfl) (pl := .p) λ_=>by kernel_rfl,by kernel_rfl⟩
def c_39:Con te:=ae_ te [.d (.st 4)] [(.bool,[])] false λa=>eb_ a.1
theorem ok_39:OKF 39 c_39:=⟨ab_ ad_ (aa_ ok_74 (aa_ ok_73 (aa_ ok_30 ac_))) Tryz.func39 (by kernel_rfl) (pl := .p) λ_=>by kernel_rfl,by kernel_rfl⟩
def c_14:Con te:=ae_ te [.d (.st 5)] [(.bool,[])] false λa=>eK_ a.1
theorem ok_14:OKF 14 c_14:=⟨ab_ ad_ (aa_ ok_39 (aa_ ok_38 ac_)) Tryz.func14 (by kernel_rfl) (pl := .s .p (.s .p (.s (.s .p (.lp ⟨[(24,.d (.int .i64))],[],[1,22,23],[0],[],5018⟩ ⟨[],[],[],[],[],5018⟩ true (.s .p (.s .p (.s (.s .p (.s (.dr [0,0,0,0,0,0,0,0,0,0,0,0,0,0,0,0,0,0,0] [] false []) .p)) .p))))) .p))) λ_=>by kernel_rfl,by kernel_rfl⟩
def c_9:Con te:=ae_ te [] [(.bool,[])] false λ_=>br_
theorem ok_9:OKF 9 c_9:=⟨ab_ ad_ (aa_ ok_14 (aa_ ok_24 (aa_ ok_20 (aa_ ok_16 (aa_ ok_29 (aa_ ok_10 ac_)))))) Tryz.func9 (by kernel_rfl) (pl := .s .p (.s .p (.s (.s (.ot 0 (.free 0 (.free 1 (.free 2 (.spl 2 (.free 3 (.alt 4 (.alt 5 (.free 6 (.alt 7 (.free 8 (.spl 8 (.free 9 (.alt 10 (.alt 11 (.free 12 (.alt 13 (.free 14 (.alt 15 .nil .nil)) .nil)) .nil) .nil)) (.free 9 (.alt 10 (.alt 11 (.free 12 (.alt 13 (.free 14 (.alt 15 .nil .nil)) .nil)) .nil) .nil)))) .nil)) .nil) .nil)) (.free 3 (.alt 4 (.alt 5 (.free 6 (.alt 7 (.free 8 (.spl 8 (.free 9 (.alt 10 (.alt 11 (.free 12 (.alt 13 (.free 14 (.alt 15 .nil .nil)) .nil)) .nil) .nil)) (.free 9 (.alt 10 (.alt 11 (.free 12 (.alt 13 (.free 14 (.alt 15 .nil .nil)) .nil)) .nil) .nil)))) .nil)) .nil) .nil))))))) .p) .p))) λ_=>by kernel_rfl,by kernel_rfl⟩
def c_68:Con te:=ae_ te [.d .str] [(.bool,[])] false λa=>h6_ a.1
theorem ok_68:OKF 68 c_68:=⟨ab_ ad_ ac_ Tryz.func68 (by kernel_rfl) (pl := .s .p (.s .p (.s (.s .p (.lp ⟨[(3,.d (.int .i64))],[],[0],[],[],4006⟩ ⟨[],[],[],[],[],4006⟩ true .p)) .p))) λ_=>by kernel_rfl,by kernel_rfl⟩
def c_35:Con te:=ae_ te [.d .str] [(.bool,[])] false λa=>el_ a.1
theorem ok_35:OKF 35 c_35:=⟨ab_ ad_ (aa_ ok_68 ac_) Tryz.func35 (by kernel_rfl) (pl := .p) λ_=>by kernel_rfl,by kernel_rfl⟩
def c_11:Con te:=ae_ te [.d (.sl .str)] [(.st 5,[]),(.int .i64,[])] true λa=>jR_ a.1
theorem ok_11:OKF 11 c_11:=⟨ab_ ad_ (aa_ ok_35 ac_) Tryz.func11 (by kernel_rfl) (pl := .s .p (.s .p (.s .p (.s (.s .p (.lp ⟨[(4,.d (.sl (.st 4))),(5,.d (.int .i64))],[],[0,2],[0],[],8⟩ ⟨[(4,.d (.sl (.st 4)))],[],[2],[0],[],8⟩ true (.s .p (.s (.s .p (.s .p (.s (.lp ⟨[(6,.d (.int .i64))],[],[0,2,4,5],[0],[],19⟩ ⟨[(6,.d (.int .i64))],[],[0,2,4,5],[0],[],19⟩ false (.s (.s (.dr [0,0,0,0,0,0,0,0,0,0,0,0,0,0,0,0] [] false []) .p) .p)) (.s (.s (.dr [0,0,0,0,0,0,0,0,0,0,0,0,0,0,0,0] [] false []) .p) .p)))) .p)))) .p)))) λ_=>by kernel_rfl,by kernel_rfl⟩
def c_36:Con te:=ae_ te [.d (.sl (.st 1)),.d (.sl (.st 1))] [(.bool,[])] false λa=>e3_ a.1 a.2.1
theorem ok_36:OKF 36 c_36:=⟨ab_ ad_ ac_ Tryz.func36 (by kernel_rfl) (pl := .s .p (.s .p (.s (.s .p (.lp ⟨[(5,.d (.int .i64))],[],[0,1],[],[],7⟩ ⟨[],[],[],[],[],7⟩ true (.s .p (.s (.s (.s (.dr [0,0,0,0,0,0,0,0,0,0,0,0,0] [] false []) .p) (.s .p (.lp ⟨[(6,.d (.int .i64))],[],[0,1,5],[],[],25⟩ ⟨[],[],[0,1,5],[],[],25⟩ true (.s .p (.s (.s (.dr [0,0,0,0,0,0,0,0,0,0,0,0,0,0,0,0,0] [] false []) .p) .p))))) .p)))) .p))) λ_=>by kernel_rfl,by kernel_rfl⟩
def c_69:Con te:=ae_ te [.d (.sl (.st 2)),.d (.sl (.st 2))] [(.bool,[])] false λa=>e4_ a.1 a.2.1
theorem ok_69:OKF 69 c_69:=⟨ab_ ad_ ac_ Tryz.func69 (by kernel_rfl) (pl := .s .p (.s .p (.s (.s .p (.lp ⟨[(5,.d (.int .i64))],[],[0,1],[],[],7⟩ ⟨[],[],[],[],[],7⟩ true (.s .p (.s (.s (.dr [0,0,0,0,0,0,0,0,0] [] false []) .p) .p)))) .p))) λ_=>by kernel_rfl,by kernel_rfl⟩
def c_37:Con te:=ae_ te [.d (.st 3),.d (.st 3)] [(.bool,[])] false λa=>iX_ a.1 a.2.1
theorem ok_37:OKF 37 c_37:=⟨ab_ ad_ (aa_ ok_69 ac_) Tryz.func37 (by kernel_rfl) (pl := .p) λ_=>by kernel_rfl,by kernel_rfl⟩
def c_12:Con te:=ae_ te [.d (.st 5),.d (.st 5)] [(.bool,[])] false λa=>iY_ a.1 a.2.1
theorem ok_12:OKF 12 c_12:=⟨ab_ ad_ (aa_ ok_37 (aa_ ok_36 ac_)) Tryz.func12 (by kernel_rfl) (pl := .s .p (.s .p (.s (.s .p (.lp ⟨[(5,.d (.int .i64))],[],[2,3],[0,2],[],8013⟩ ⟨[],[],[],[],[],8013⟩ true (.s .p (.s (.s (.pr 10) (.s .p (.s .p (.lp ⟨[(8,.d (.int .i64))],[],[2,3,5,6,7],[0,2,8028,8030],[],22044⟩ ⟨[],[],[2,3,5],[0,2],[],22044⟩ true (.s .p (.s (.s (.dr [0,0,0,0,0,0,0,0,0,0,0,0] [] false []) .p) .p)))))) .p)))) .p))) λ_=>by kernel_rfl,by kernel_rfl⟩
def c_3:Con te:=ae_ te [.d (.sl .str)] [(.bool,[])] false λa=>c2_ a.1
theorem ok_3:OKF 3 c_3:=⟨ab_ ad_ (aa_ ok_12 (aa_ ok_11 (aa_ ok_10 (aa_ ok_9 ac_)))) Tryz.func3 (by kernel_rfl) (pl := .s .p (.s .p (.s (.s .p (.lp ⟨[(14,.d (.int .i64))],[],[0,13],[],[],7⟩ ⟨[],[],[0],[],[],7⟩ true .p)) .p))) λ_=>by kernel_rfl,by kernel_rfl⟩
def c_17:Con te:=ae_ te [.d (.st 3)] [(.bool,[])] false λa=>h7_ a.1
theorem ok_17:OKF 17 c_17:=⟨ab_ ad_ ac_ Tryz.func17 (by kernel_rfl) (pl := .s .p (.s .p (.s (.s .p (.lp ⟨[(41,.d (.int .i64))],[],[1,40],[0],[],25016⟩ ⟨[],[],[],[],[],25016⟩ true .p)) .p))) λ_=>by kernel_rfl,by kernel_rfl⟩
def c_13:Con te:=ae_ te [.d (.st 5)] [(.bool,[])] false λa=>d7_ a.1
theorem ok_13:OKF 13 c_13:=⟨ab_ ad_ (aa_ ok_17 ac_) Tryz.func13 (by kernel_rfl) (pl := .s .p (.s .p (.s .p (.s (.s .p (.lp ⟨[(23,.d (.int .i64))],[],[1,3,22],[0],[],5013⟩ ⟨[],[],[1,3],[0],[],5013⟩ true (.s .p (.s .p (.s (.s .p (.s .p (.s .p (.lp ⟨[(41,.d (.int .i64))],[],[1,3,4,22,23,40],[0],[],5032⟩ ⟨[],[],[1,3,22,23],[0],[],5032⟩ true .p)))) .p))))) (.s (.s .p (.lp ⟨[(3,.d (.int .i64)),(74,.d (.int .i64))],[],[1,73],[0],[],5017⟩ ⟨[],[],[],[],[],5017⟩ true (.s .p (.s .p (.s (.s .p (.s .p (.s .p (.lp ⟨[(3,.d (.int .i64)),(102,.d (.int .i64))],[],[1,7,73,74,101],[0],[],14037⟩ ⟨[(3,.d (.int .i64))],[],[1,73,74],[0],[],14037⟩ true .p)))) .p))))) .p))))) λ_=>by kernel_rfl,by kernel_rfl⟩
def c_77:Con te:=ae_ te [.d .str] [(.int .i64,[])] false λa=>hf_ a.1
theorem ok_77:OKF 77 c_77:=⟨ab_ ad_ ac_ Tryz.func77 (by kernel_rfl) (pl := .s .p (.s .p (.s (.s .p (.lp ⟨[(3,.d (.int .i64))],[],[0],[],[],5⟩ ⟨[],[],[],[],[],5⟩ true .p)) .p))) λ_=>by kernel_rfl,by kernel_rfl⟩
def c_149:Con te:=ae_ te [.d .str] [(.bool,[])] false λa=>f6_ a.1
theorem ok_149:OKF 149 c_149:=⟨ab_ ad_ ac_ Tryz.func149 (by kernel_rfl) (pl := .p) λ_=>by kernel_rfl,by kernel_rfl⟩
def c_183:Con te:=ae_ te [.g (.st 12) [some 202],.d (.st 6)] [(.st 12,[some 202])] false λa=>aL_ a.1 a.2.1
theorem ok_183:OKF 183 c_183:=⟨ab_ ad_ ac_ Tryz.func183 (by kernel_rfl) (pl := .p) λ_=>by kernel_rfl,by kernel_rfl⟩
def c_218:Con te:=ae_ te [.d .str,.l (.st 12) [some 202],.d (.int .u8)] [(.bool,[])] false λa=>bF_ a.1 a.2.1 a.2.2.1
theorem ok_218:OKF 218 c_218:=⟨ab_ ad_ ac_ Tryz.func218 (by kernel_rfl) (pl := .p) λ_=>by kernel_rfl,by kernel_rfl⟩
theorem e_264(a:PA te [.d .str,.g (.st 12) [some 202]]):f7_ a.1 a.2.1=fw_ Tryz.prog te eqL (ti 266 (inlF Tryz.prog te eqL c8_ Tryz.f266 (.p:Pl)) (tb 183 c_183 (tb 218 c_218 c8_))) Tryz.f264 [.d .str,.g (.st 12) [some 202]] [(.st 12,[some 202])] (.s .p (.s .p (.s .p (.j ⟨[],[(1,true,.cells 210 [.own 0,.v (.int .i64),.v (.int .i64),.v .bool]),(0,true,.row 202 (.st 6) []),(12,true,.box 202 (.st 6))],[0,3,4,5],[3],[],16⟩ false .p (.s .p (.s (.lp ⟨[(6,.one (.own 17))],[(1,true,.cells 210 [.own 0,.v (.int .i64),.v (.int .i64),.v .bool]),(0,true,.row 202 (.st 6) []),(17,false,.row 5 (.int .u8) [])],[0,3,4,5],[3,12],[],18⟩ ⟨[(6,.one (.own 17))],[(1,true,.cells 210 [.own 0,.v (.int .i64),.v (.int .i64),.v .bool]),(0,true,.row 202 (.st 6) []),(17,false,.row 5 (.int .u8) [])],[0,3,4,5],[3,12],[],18⟩ true (.s .p (.s .p (.j ⟨[(7,.one (.ptr 17030)),(8,.d (.int .u8))],[(0,true,.row 202 (.st 6) []),(17030,false,.cells 210 [.own 0,.v (.int .i64),.v (.int .i64),.v .bool])],[0,3,4,5,6],[1,3,12,17],[],17031⟩ false .p (.s .p (.j ⟨[(9,.d (.int .u8))],[(0,true,.row 202 (.st 6) []),(17030,true,.cells 210 [.own 0,.v (.int .i64),.v (.int .i64),.v .bool])],[0,3,4,5,6,7,8],[1,3,12,17],[],17033⟩ true (.s .p (.s (.s .p (.s .p (.s .p (.j ⟨[(9,.d (.int .u8))],[(0,true,.row 202 (.st 6) []),(17030,true,.cells 210 [.own 0,.v (.int .i64),.v (.int .i64),.v .bool])],[0,3,4,5,6,7,8,10],[1,3,12,17],[],29054⟩ false .p .p)))) .p)) .p)))))) .p)))))) a:=by kernel_rfl
def c_264:Con te:=ae_ te [.d .str,.g (.st 12) [some 202]] [(.st 12,[some 202])] false λa=>f7_ a.1 a.2.1
theorem ok_264:OKF 264 c_264:=⟨ab_ ad_ (cj_ ⟨eh_ ad_ ac_ Tryz.func266,by kernel_rfl⟩ (aa_ ok_183 (aa_ ok_218 ac_))) Tryz.func264 (by kernel_rfl) e_264,by kernel_rfl⟩
def c_265:Con te:=ae_ te [.d (.int .u8)] [(.bool,[])] false λa=>gr_ a.1
theorem ok_265:OKF 265 c_265:=⟨ab_ ad_ ac_ Tryz.func265 (by kernel_rfl) (pl := .s .p (.s .p (.s (.s .p (.lp ⟨[(4,.d (.int .i64))],[],[0,3],[],[],3⟩ ⟨[],[],[],[],[],3⟩ true .p)) .p))) λ_=>by kernel_rfl,by kernel_rfl⟩
def ir_(rec0:Str->Xx->Option Xx):Con te:=ae_ te [.d .str,.g (.st 12) [some 202]] [(.st 12,[some 202])] false λa=>rec0 a.1 a.2.1
def cS_256(f182:Str->Xx->Option Xx):Con te:=ae_ te [.d .str,.g (.st 12) [some 202]] [(.st 12,[some 202])] false λa=>bf_ f182 a.1 a.2.1
theorem okS_256(f182:Str->Xx->Option Xx)(h182:OKF 182 (ir_ f182)):OKF 256 (cS_256 f182):=⟨ab_ (tab:=(ti 266 (inlF Tryz.prog te eqL c8_ Tryz.f266 (.p:Pl)) (tb 265 c_265 (tb 264 c_264 (tb 218 c_218 (tb 182 (ir_ f182) (tb 183 c_183 c8_))))))) ad_ (cj_ ⟨eh_ ad_ ac_ Tryz.func266,by kernel_rfl⟩ (aa_ ok_265 (aa_ ok_264 (aa_ ok_218 (aa_ h182 (aa_ ok_183 ac_)))))) Tryz.func256 (by kernel_rfl) (pl := .s .p (.s .p (.j ⟨[],[(1,true,.cells 210 [.own 10,.v (.int .i64),.v (.int .i64),.v .bool]),(10,false,.row 202 (.st 6) [])],[3,4],[3],[],11⟩ true (.s .p (.s .p (.s .p (.s .p (.s .p (.s .p (.s .p (.s .p (.s .p (.s .p (.s .p (.s .p (.j ⟨[(7,.one (.ptr 3024)),(8,.d (.int .u8))],[(3024,false,.cells 210 [.own 0,.v (.int .i64),.v (.int .i64),.v .bool]),(0,true,.row 202 (.st 6) [])],[4],[3],[],3025⟩ false .p .p))))))))))))) .p))) λ_=>by kernel_rfl,by kernel_rfl⟩
def c_219:Con te:=ae_ te [.g (.st 12) [some 202],.d (.int .i64),.d (.st 6)] [(.st 12,[some 202])] false λa=>em_ a.1 a.2.1 a.2.2.1
theorem ok_219:OKF 219 c_219:=⟨ab_ ad_ ac_ Tryz.func219 (by kernel_rfl) (pl := .s .p (.s .p (.s .p (.s .p (.s (.s .p (.lp ⟨[(7,.one (.own 26)),(8,.d (.int .i64))],[(0,true,.row 202 (.st 6) []),(26,false,.row 202 (.st 6) [])],[3,6],[1,5],[],27⟩ ⟨[(7,.one (.own 26))],[(0,true,.row 202 (.st 6) []),(26,false,.row 202 (.st 6) [])],[3,6],[1,5],[],27⟩ false (.s .p (.s (.s .p (.j ⟨[],[(38,true,.box 202 (.st 6))],[3,6,7,8,9],[0,1,5,26],[35],42⟩ false .p (.j ⟨[],[(38,true,.box 202 (.st 6))],[3,6,7,8,9],[0,1,5,26],[35],42⟩ false .p .p))) .p)))) .p))))) λ_=>by kernel_rfl,by kernel_rfl⟩
def cS_246(f182:Str->Xx->Option Xx):Con te:=ae_ te [.d .str,.g (.st 12) [some 202]] [(.st 12,[some 202])] false λa=>cU_ f182 a.1 a.2.1
theorem okS_246(f182:Str->Xx->Option Xx)(h182:OKF 182 (ir_ f182)):OKF 246 (cS_246 f182):=⟨ab_ ad_ (aa_ ok_183 (aa_ ok_219 (aa_ ok_218 (aa_ (okS_256 f182 h182) ac_)))) Tryz.func246 (by kernel_rfl) (pl := .s .p (.s .p (.s .p (.j ⟨[],[(1,true,.cells 210 [.own 16,.v (.int .i64),.v (.int .i64),.v .bool]),(16,false,.row 202 (.st 6) [])],[3,4],[3],[],17⟩ false .p .p)))) λ_=>by kernel_rfl,by kernel_rfl⟩
def cS_217(f182:Str->Xx->Option Xx):Con te:=ae_ te [.d .str,.g (.st 12) [some 202]] [(.st 12,[some 202])] false λa=>en_ f182 a.1 a.2.1
theorem okS_217(f182:Str->Xx->Option Xx)(h182:OKF 182 (ir_ f182)):OKF 217 (cS_217 f182):=⟨ab_ ad_ (aa_ (okS_246 f182 h182) ac_) Tryz.func217 (by kernel_rfl) (pl := .s .p (.s (.lp ⟨[],[(1,true,.cells 210 [.own 5,.v (.int .i64),.v (.int .i64),.v .bool]),(5,false,.row 202 (.st 6) [])],[0,3,4],[3],[],6⟩ ⟨[],[(1,true,.cells 210 [.own 5,.v (.int .i64),.v (.int .i64),.v .bool]),(5,false,.row 202 (.st 6) [])],[3,4],[3],[],6⟩ false .p) .p)) λ_=>by kernel_rfl,by kernel_rfl⟩
theorem okS_182(rec0:Str->Xx->Option Xx)(h:OKF 182 (ir_ rec0)):OKF 182 (ir_ (dF_ rec0)):=⟨ab_ ad_ (aa_ ok_183 (aa_ ok_219 (aa_ ok_218 (aa_ (okS_217 rec0 h) (aa_ h ac_))))) Tryz.func182 (by kernel_rfl) (pl := .p) λ_=>by kernel_rfl,by kernel_rfl⟩
theorem okN_182:∀n,OKF 182 (ir_ (aw_ n))
 | 0=>⟨g8_ λ_=>rfl,by kernel_rfl⟩
 | n+1=>okS_182 _ (okN_182 n)
def c_182:Con te:=ir_ (aw_ BIG)
theorem ok_182:OKF 182 c_182:=okN_182 BIG
def c_150:Con te:=ae_ te [.d .str] [(.st 7,[some 202]),(.int .i64,[]),(.int .i64,[])] false λa=>cV_ a.1
theorem ok_150:OKF 150 c_150:=⟨ab_ ad_ (aa_ ok_182 (aa_ ok_183 ac_)) Tryz.func150 (by kernel_rfl) (pl := .s .p (.s .p (.s .p (.s (.s .p (.s (.s (.dr [0,0,0,1,4,4] [] true [0]) .p) .p)) .p)))) λ_=>by kernel_rfl,by kernel_rfl⟩
def c_116:Con te:=ae_ te [.d (.st 0)] [(.bool,[])] false λa=>gs_ a.1
theorem ok_116:OKF 116 c_116:=⟨ab_ ad_ (aa_ ok_150 (aa_ ok_149 (aa_ ok_77 ac_))) Tryz.func116 (by kernel_rfl) (pl := .s .p (.s .p (.s (.s .p (.j ⟨[(17,.d .bool)],[],[1,16],[0],[],5009⟩ false .p (.s .p (.s .p (.s .p (.s .p (.s .p (.j ⟨[(49,.d .bool)],[],[1,16],[0],[],5013⟩ false .p .p)))))))) .p))) λ_=>by kernel_rfl,by kernel_rfl⟩
def c_75:Con te:=ae_ te [.d (.st 1)] [(.bool,[])] false λa=>h8_ a.1
theorem ok_75:OKF 75 c_75:=⟨ab_ ad_ (aa_ ok_116 ac_) Tryz.func75 (by kernel_rfl) (pl := .s .p (.s .p (.s .p (.s (.s .p (.lp ⟨[(4,.d (.int .i64))],[],[1,3],[0],[],3011⟩ ⟨[],[],[],[],[],3011⟩ true .p)) .p)))) λ_=>by kernel_rfl,by kernel_rfl⟩
def c_40:Con te:=ae_ te [.d (.sl (.st 1))] [(.str,[]),(.int .i64,[])] false λa=>iZ_ a.1
theorem ok_40:OKF 40 c_40:=⟨ab_ ad_ (aa_ ok_75 ac_) Tryz.func40 (by kernel_rfl) (pl := .s .p (.s .p (.s .p (.s (.s .p (.lp ⟨[(4,.d .str),(5,.d (.int .i64))],[],[0],[],[],7⟩ ⟨[(4,.d .str)],[],[],[],[],7⟩ true (.s .p (.s (.s .p (.j ⟨[(4,.d .str)],[],[0,5],[],[],17⟩ false .p (.s .p (.lp ⟨[(4,.d .str),(6,.d (.int .i64))],[],[0,5],[],[],18⟩ ⟨[(4,.d .str)],[],[0,5],[],[],18⟩ false .p)))) .p)))) .p)))) λ_=>by kernel_rfl,by kernel_rfl⟩
def c_184:Con te:=ae_ te [.d .str] [(.bool,[])] false λa=>hg_ a.1
theorem ok_184:OKF 184 c_184:=⟨ab_ ad_ ac_ Tryz.func184 (by kernel_rfl) (pl := .p) λ_=>by kernel_rfl,by kernel_rfl⟩
def c_151:Con te:=ae_ te [.d .str] [(.bool,[])] false λa=>i0_ a.1
theorem ok_151:OKF 151 c_151:=⟨ab_ ad_ (aa_ ok_184 ac_) Tryz.func151 (by kernel_rfl) (pl := .s .p (.j ⟨[(0,.d .str)],[],[],[],[],1⟩ false .p (.s (.s .p (.lp ⟨[(3,.d (.int .i64))],[],[0],[],[],2⟩ ⟨[],[],[0],[],[],2⟩ true .p)) .p))) λ_=>by kernel_rfl,by kernel_rfl⟩
def c_152:Con te:=ae_ te [.d .str] [(.bool,[])] false λa=>h9_ a.1
theorem ok_152:OKF 152 c_152:=⟨ab_ ad_ ac_ Tryz.func152 (by kernel_rfl) (pl := .s .p (.s (.s .p (.lp ⟨[(3,.d (.int .i64))],[],[0],[],[],2⟩ ⟨[],[],[],[],[],2⟩ true .p)) .p)) λ_=>by kernel_rfl,by kernel_rfl⟩
def c_117:Con te:=ae_ te [.d (.sl (.st 2)),.d (.st 2)] [(.int .i64,[])] false λa=>jS_ a.1 a.2.1
theorem ok_117:OKF 117 c_117:=⟨ab_ ad_ (aa_ ok_152 (aa_ ok_151 ac_)) Tryz.func117 (by kernel_rfl) (pl := .s .p (.s .p (.s (.s .p (.lp ⟨[(5,.d (.int .i64))],[],[0,3],[0],[],9023⟩ ⟨[],[],[],[],[],9023⟩ true (.s .p (.s (.s (.dr [0,0,0,0,0,0,0,0] [] false []) .p) .p)))) .p))) λ_=>by kernel_rfl,by kernel_rfl⟩
def c_78:Con te:=ae_ te [.d (.sl (.st 2))] [(.int .i64,[])] false λa=>f8_ a.1
theorem ok_78:OKF 78 c_78:=⟨ab_ ad_ (aa_ ok_117 ac_) Tryz.func78 (by kernel_rfl) (pl := .s .p (.s (.s .p (.lp ⟨[(3,.d (.int .i64))],[],[0],[],[],2⟩ ⟨[],[],[],[],[],2⟩ true (.s .p (.s (.s (.dr [0,0,0,0,0,0,0,0,0] [] false []) .p) .p)))) .p)) λ_=>by kernel_rfl,by kernel_rfl⟩
def c_44:Con te:=ae_ te [.d (.st 3)] [(.int .i64,[])] false λa=>ia_ a.1
theorem ok_44:OKF 44 c_44:=⟨ab_ ad_ (aa_ ok_78 (aa_ ok_77 ac_)) Tryz.func44 (by kernel_rfl) (pl := .s .p (.s .p (.s (.s .p (.lp ⟨[(4,.d (.int .i64))],[(11,true,.row 9 .str [])],[1,3],[0],[],15⟩ ⟨[],[],[1],[0],[],15⟩ true .p)) (.s .p (.s (.s .p (.lp ⟨[(7,.d (.int .i64))],[],[1],[0],[],22⟩ ⟨[],[],[1],[0],[],22⟩ true .p)) .p))))) λ_=>by kernel_rfl,by kernel_rfl⟩
def c_79:Con te:=ae_ te [.d .str] [(.str,[])] false λa=>ib_ a.1
theorem ok_79:OKF 79 c_79:=⟨ab_ ad_ ac_ Tryz.func79 (by kernel_rfl) (pl := .s .p (.s .p (.s (.s .p (.lp ⟨[(3,.d .str),(4,.d .bool),(5,.d (.int .i64))],[],[0],[],[],6⟩ ⟨[(3,.d .str),(4,.d .bool)],[],[0],[],[],6⟩ false (.s .p (.j ⟨[(3,.d .str),(4,.d .bool)],[],[0,5],[],[],10⟩ false .p .p)))) .p))) λ_=>by kernel_rfl,by kernel_rfl⟩
def c_45:Con te:=ae_ te [.d (.sl (.st 2))] [(.str,[]),(.int .i64,[])] false λa=>ic_ a.1
theorem ok_45:OKF 45 c_45:=⟨ab_ ad_ (aa_ ok_79 (aa_ ok_78 ac_)) Tryz.func45 (by kernel_rfl) (pl := .s .p (.s .p (.s .p (.s (.s .p (.lp ⟨[(5,.d .str),(6,.d (.int .i64))],[],[0],[],[],9⟩ ⟨[(5,.d .str)],[],[],[],[],9⟩ false (.s .p (.j ⟨[(5,.d .str)],[],[0,6],[],[],13⟩ false (.j ⟨[(5,.d .str)],[],[0,6],[],[],13⟩ false .p (.s .p (.s .p (.dr [0,0,0,0,0,0,0,0,0,0,0,0,0,0,0,0] [] false [])))) .p)))) .p)))) λ_=>by kernel_rfl,by kernel_rfl⟩
def c_80:Con te:=ae_ te [.d (.int .i64)] [(.bool,[])] false λa=>nR_ a.1
theorem ok_80:OKF 80 c_80:=⟨ab_ ad_ ac_ Tryz.func80 (by kernel_rfl) (pl := .p) λ_=>by kernel_rfl,by kernel_rfl⟩
def c_81:Con te:=ae_ te [.d (.int .i64),.d (.int .i64)] [(.str,[])] false λa=>hi_ a.1 a.2.1
theorem ok_81:OKF 81 c_81:=⟨ab_ ad_ ac_ Tryz.func81 (by kernel_rfl) (pl := .s .p (.s .p (.s (.lp ⟨[(0,.d (.int .i64)),(5,.d .str)],[],[1],[],[],2⟩ ⟨[(5,.d .str)],[],[],[],[],2⟩ false .p) .p))) λ_=>by kernel_rfl,by kernel_rfl⟩
def c_46:Con te:=ae_ te [.d (.int .i64),.d (.int .i64)] [(.str,[])] false λa=>i1_ a.1 a.2.1
theorem ok_46:OKF 46 c_46:=⟨ab_ ad_ (aa_ ok_81 (aa_ ok_80 ac_)) Tryz.func46 (by kernel_rfl) (pl := .p) λ_=>by kernel_rfl,by kernel_rfl⟩
def c_18:Con te:=ae_ te [.d (.st 3)] [(.str,[]),(.int .i64,[])] false λa=>id_ a.1
theorem ok_18:OKF 18 c_18:=⟨ab_ ad_ (aa_ ok_46 (aa_ ok_45 (aa_ ok_44 ac_))) Tryz.func18 (by kernel_rfl) (pl := .s .p (.s .p (.s .p (.s (.dr [0,0,0,0,0,0,0,0,0,0,0,0,0,0,0,0,0,0,0,0,0,0,0,0,0,0,0,0,0] [] false []) .p)))) λ_=>by kernel_rfl,by kernel_rfl⟩
def c_15:Con te:=ae_ te [.d (.st 5)] [(.bool,[])] false λa=>d8_ a.1
theorem ok_15:OKF 15 c_15:=⟨ab_ ad_ (aa_ ok_18 (aa_ ok_35 (aa_ ok_40 ac_))) Tryz.func15 (by kernel_rfl) (pl := .s .p (.s .p (.s (.s .p (.lp ⟨[(5,.d (.int .i64))],[],[1],[0],[],5015⟩ ⟨[],[],[],[],[],5015⟩ true (.s .p (.s (.s .p (.s (.s (.dr [0,0,0,0,0,0,0,0,0,0,0,0,0,0,0,0,0,0,0,0,0,0,0,0,0,0,0,0,0,0,0,0,0,0,0,0,0,0,0,0,0,0,0,0,0,0,0] [] false []) .p) (.s .p (.lp ⟨[(7,.d (.int .i64))],[],[1,5,6],[0,5025],[],43039⟩ ⟨[],[],[1,5],[0],[],43039⟩ true .p)))) .p)))) .p))) λ_=>by kernel_rfl,by kernel_rfl⟩
def c_4:Con te:=ae_ te [.d (.st 5)] [(.bool,[])] false λa=>cH_ a.1
theorem ok_4:OKF 4 c_4:=⟨ab_ ad_ (aa_ ok_15 (aa_ ok_14 (aa_ ok_9 (aa_ ok_13 ac_)))) Tryz.func4 (by kernel_rfl) (pl := .s .p (.s .p (.s (.dr [0,0,0,0,0,0,0,0,0] [] false []) .p))) λ_=>by kernel_rfl,by kernel_rfl⟩
def c_61:Con te:=ae_ te [.d (.st 5),.d (.int .i64)] [(.bool,[])] false λa=>eq_ a.1 a.2.1
theorem ok_61:OKF 61 c_61:=⟨ab_ ad_ ac_ Tryz.func61 (by kernel_rfl) (pl := .p) λ_=>by kernel_rfl,by kernel_rfl⟩
def c_59:Con te:=ae_ te [.d (.st 5),.d (.int .i64)] [(.st 20,[])] false λa=>bg_ a.1 a.2.1
theorem ok_59:OKF 59 c_59:=⟨ab_ ad_ ac_ Tryz.func59 (by kernel_rfl) (pl := .s .p (.s .p (.j ⟨[],[(7,true,.box 61 (.st 20))],[4,5],[2],[],11⟩ false .p .p))) λ_=>by kernel_rfl,by kernel_rfl⟩
def c_23:Con te:=ae_ te [.d (.st 5),.d (.int .i64)] [(.sl (.st 20),[some 61]),(.int .i64,[])] false λa=>dr_ a.1 a.2.1
theorem ok_23:OKF 23 c_23:=⟨ab_ ad_ (aa_ ok_59 (aa_ ok_42 ac_)) Tryz.func23 (by kernel_rfl) (pl := .s .p (.s .p (.s .p (.s .p (.s (.s .p (.lp ⟨[(6,.one (.own 16)),(18,.d (.int .i64))],[(16,false,.row 61 (.st 20) [])],[2,17],[0],[],17⟩ ⟨[(6,.one (.own 16))],[(16,false,.row 61 (.st 20) [])],[],[],[],17⟩ false (.s .p (.s .p (.j ⟨[(6,.one (.own 18))],[(18,false,.row 61 (.st 20) [])],[2,17,18],[0],[],19⟩ false .p .p))))) .p))))) λ_=>by kernel_rfl,by kernel_rfl⟩
def c_7:Con te:=ae_ te [.d (.st 5)] [(.bool,[])] false λa=>cI_ a.1
theorem ok_7:OKF 7 c_7:=⟨ab_ ad_ (aa_ ok_24 (aa_ ok_23 (aa_ ok_9 (aa_ ok_15 (aa_ ok_13 ac_))))) Tryz.func7 (by kernel_rfl) (pl := .s .p (.s .p (.s .p (.s .p (.s (.s .p (.lp ⟨[(35,.d (.int .i64))],[(4008,true,.row 61 (.st 20) [])],[1,3,34],[0],[],12021⟩ ⟨[],[],[],[],[],12021⟩ true (.s .p (.s .p (.s (.s .p (.s (.dr [0,0,0,0,0,0,0,0,0,0,0,0] [] false []) (.s (.ot 0 (.free 0 (.free 1 (.free 2 (.spl 2 (.free 3 (.free 4 (.free 5 (.alt 6 (.free 7 (.free 8 (.alt 9 (.free 10 (.alt 11 .nil .nil)) .nil))) .nil)))) (.free 3 (.free 4 (.free 5 (.alt 6 (.free 7 (.free 8 (.alt 9 (.free 10 (.alt 11 .nil .nil)) .nil))) .nil))))))))) .p))) .p))))) .p))))) λ_=>by kernel_rfl,by kernel_rfl⟩
def c_25:Con te:=ae_ te [.d (.st 5),.d (.int .i64),.d .str] [(.int .i64,[]),(.int .i64,[])] false λa=>i2_ a.1 a.2.1 a.2.2.1
theorem ok_25:OKF 25 c_25:=⟨ab_ ad_ (aa_ ok_61 ac_) Tryz.func25 (by kernel_rfl) (pl := .s .p (.s .p (.s .p (.s .p (.s (.s .p (.lp ⟨[(8,.d (.int .i64))],[],[2,3],[0],[],18⟩ ⟨[],[],[],[],[],18⟩ true .p)) .p))))) λ_=>by kernel_rfl,by kernel_rfl⟩
def c_26:Con te:=ae_ te [.d (.st 5),.d (.int .i64)] [(.st 20,[]),(.int .i64,[])] false λa=>fh_ a.1 a.2.1
theorem ok_26:OKF 26 c_26:=⟨ab_ ad_ (aa_ ok_59 (aa_ ok_42 ac_)) Tryz.func26 (by kernel_rfl) (pl := .p) λ_=>by kernel_rfl,by kernel_rfl⟩
def c_27:Con te:=ae_ te [.d (.st 5),.d (.int .i64)] [(.st 20,[]),(.int .i64,[])] false λa=>dV_ a.1 a.2.1
theorem ok_27:OKF 27 c_27:=⟨ab_ ad_ (aa_ ok_61 ac_) Tryz.func27 (by kernel_rfl) (pl := .s .p (.s .p (.s .p (.j ⟨[],[(12,true,.box 61 (.st 20))],[4,6],[2],[],16⟩ false .p .p)))) λ_=>by kernel_rfl,by kernel_rfl⟩
def c_28:Con te:=ae_ te [.d (.st 5),.d (.int .i64)] [(.sl (.st 20),[some 61]),(.int .i64,[])] false λa=>i3_ a.1 a.2.1
theorem ok_28:OKF 28 c_28:=⟨ab_ ad_ (aa_ ok_27 (aa_ ok_61 ac_)) Tryz.func28 (by kernel_rfl) (pl := .s .p (.s .p (.s .p (.s .p (.s (.s .p (.lp ⟨[(6,.one (.own 12)),(7,.d (.int .i64))],[(12,false,.row 61 (.st 20) [])],[2],[0],[],13⟩ ⟨[(6,.one (.own 12))],[(12,false,.row 61 (.st 20) [])],[],[],[],13⟩ false .p)) .p))))) λ_=>by kernel_rfl,by kernel_rfl⟩
def c_8:Con te:=ae_ te [.d (.st 5),.d (.int .i64),.d .str] [(.bool,[])] false λa=>cJ_ a.1 a.2.1 a.2.2.1
theorem ok_8:OKF 8 c_8:=⟨ab_ ad_ (aa_ ok_28 (aa_ ok_23 (aa_ ok_27 (aa_ ok_26 (aa_ ok_25 (aa_ ok_24 (aa_ ok_9 (aa_ ok_15 (aa_ ok_13 ac_))))))))) Tryz.func8 (by kernel_rfl) (pl := .s .p (.s .p (.s .p (.s .p (.s .p (.s .p (.s .p (.s .p (.s .p (.s (.s .p (.lp ⟨[(79,.d (.int .i64))],[(8050,true,.row 61 (.st 20) []),(8059,true,.row 61 (.st 20) [])],[7,8,9,10,11,12,13,14,15,16,17,18,78],[8032,8043],[],8074⟩ ⟨[],[],[7,8,9,10,11,12,13,14,16,18],[8032,8043],[],8074⟩ true (.s .p (.s .p (.s (.s .p (.s (.dr [0,0,0,0,0,0,0,0,0] [] false []) .p)) .p))))) .p)))))))))) λ_=>by kernel_rfl,by kernel_rfl⟩
end
end Go.Proofs.YtfbcbakhdkppoaaGreatDoor
namespace Go
namespace Rt
theorem bb_{n:Int}(h:I64 n):w64 n=n:=by
 unfold w64;rw[IntKind.wrap_i64];omega
theorem wi64_eq{n:Int}(h:I64 n):IntKind.i64.wrap n=n:=bb_ h
theorem aq_{α β:Type}{x:Option α}{a:α}{f:α->Option β}{r:Option β}(h:x=some a)(hr:f a=r):x.bind f=r:=by subst h;exact hr
theorem cond_t{α:Type}{c:Bool}{A B r:α}(hc:c=true)(h:A=r):(bif c then A else B)=r:=by subst hc;exact h
theorem cond_f{α:Type}{c:Bool}{A B r:α}(hc:c=false)(h:B=r):(bif c then A else B)=r:=by subst hc;exact h
theorem loopF_run{σ β:Type}{body:σ->Option (Step σ β)}(I:Nat->σ->β->Prop)
  (h0:∀s b,I 0 s b->body s=some (.done b))
  (h:∀k s b,I (k+1) s b->body s=some (.done b)\/∃s',body s=some (.next s')/\I k s' b):∀{k n:Nat} {s:σ} {b:β},I k s b->k<n->af_ body n s=some b
 | 0,n+1,s,b,hI,_=>by simp only[af_,h0 s b hI]
 | k+1,n+1,s,b,hI,hk=>by
  simp only[af_];rcases h k s b hI with hd|⟨s',hn,hI'⟩
  .rw[hd]
  .rw[hn];exact loopF_run I h0 h hI' (by omega)
theorem gK_{σ β:Type}{body:σ->Option (Step σ β)}(n:Nat)(hn:n<BIG)(J:Nat->σ->β->Prop)(h0:∀s b,J n s b->body s=some (.done b))
  (h:∀i s b,i<n->J i s b->body s=some (.done b)\/∃s',body s=some (.next s')/\J (i+1) s' b) {s:σ} {b:β} (hJ:J 0 s b):af_ body BIG s=some b:=by
 refine loopF_run (λk s b=>k<=n/\J (n-k) s b) (λs b hI=>h0 s b (by simpa using hI.2)) (λk s b hI => ?_) (k:=n) ⟨Nat.le_refl _,by simpa using hJ⟩ hn;obtain⟨hk,hI⟩:=hI;rcases h _ s b (by omega) hI with hd|⟨s',hs,hI'⟩
 .exact .inl hd
 .exact .inr ⟨s',hs,by omega,by rwa [show n-(k+1)+1=n-k by omega]at hI'⟩
theorem bB_{σ β:Type}{body:σ->Option (Step σ β)}(T:Nat->σ)(n:Nat)(hn:n<BIG){b:β}(hs:∀i,i<n->body (T i)=some (.next (T (i+1))))(hd:body (T n)=some (.done b)):af_ body BIG (T 0)=some b:=by
 refine gK_ (J:=λi s b'=>s=T i/\b'=b) n hn (λs b' hJ => ?_) (λi s b' hi hJ => ?_) ⟨rfl,rfl⟩
 .obtain⟨rfl,rfl⟩:=hJ;exact hd
 .obtain⟨rfl,rfl⟩:=hJ;exact .inr ⟨_,hs i hi,rfl,rfl⟩
theorem hR_{α β:Type}{body:Int->Option (Step Int (Out Unit β))}(xs:List α)(p:α->Bool)(r:β)(hn:xs.length<BIG)
  (hb:∀i (h:i<xs.length),body (i:Int)=if p xs[i]then some (.next ((i+1:Nat):Int))else some (.done (.ret r)))
  (he:body (xs.length:Int)=some (.done (.fall ()))):af_ body BIG 0=some (if xs.all p then .fall ()else .ret r):=by
 refine gK_ (J:=λi s b=>s=(i:Int)/\b=if(xs.drop i).all p then .fall ()else .ret r) xs.length hn (λs b hJ => ?_) (λi s b hi hJ => ?_) (by simp)
 .obtain⟨rfl,rfl⟩:=hJ;rw[he];simp
 .obtain⟨rfl,rfl⟩:=hJ;rw[hb i hi,List.drop_eq_getElem_cons hi,List.all_cons];cases hp:p xs[i]with
  | true=>exact .inr ⟨_,rfl,rfl,by simp⟩
  | false=>exact .inl (by simp)
theorem op_{α:Type}(xs:List α)(i:Nat):ag_ xs (i:Int)=xs[i]? := by
 unfold ag_;rw[if_pos (by omega)];simp
theorem al_{α:Type}{xs:List α}{i:Nat}(h:i<xs.length):ag_ xs (i:Int)=some xs[i]:=by
 rw[op_,List.getElem?_eq_getElem h]
theorem cs_{s:Str}{i:Nat}(h:i<s.length):an_ s (i:Int)=some (s[i].toNat:Int):=by
 unfold an_;rw[al_ h];rfl
theorem byteI_nat(s:Str)(i:Nat):an_ s (i:Int)=s[i]?.map λb=>(b.toNat:Int):=by
 unfold an_;rw[op_]
theorem bj_{a b:Str}(h:a.length+b.length<=9223372036854775807):cat a b=some (a++b):=by
 unfold cat;rw[if_pos h]
theorem bv_{α:Type}{bytes:Nat}{xs ys:List α}(h1:xs.length+ys.length<=9223372036854775807)(h2:(xs.length+ys.length)*bytes<=140737488355328):room bytes xs ys=some (xs++ys):=by
 unfold room;rw[if_pos ⟨h1,h2⟩]
theorem cQ_{α:Type}{xs:List α}{lo hi:Int}(h0:0<=lo)(h1:lo<=hi)(h2:hi<=xs.length):aX_ xs lo hi=some ((xs.take hi.toNat).drop lo.toNat):=by
 unfold aX_;rw[if_pos ⟨h0,h1,h2⟩]
theorem makeI_eq{α:Type}{bytes:Nat}{z:α}{n:Int}(h0:0<=n)(h1:n<=9223372036854775807)(h2:bytes*n<=281474976710656):fq_ bytes z n=some (List.replicate n.toNat z):=by
 unfold fq_;rw[if_pos ⟨h0,h1,h2⟩]
theorem str_beq{a b:Str}:(a==b)=decide (a=b):=by
 rw[Bool.eq_iff_iff];simp
end Rt
end Go
namespace Go.Proofs.YtfbcbakhdkppoaaGreatDoor
open Go.Rt Go.RowKit
theorem b7_{σ β:Type}{body:σ->Option (Step σ β)}{s s':σ}{n:Nat}{r:Option β}(h:body s=some (.next s'))(hr:af_ body n s'=r):af_ body (n+1) s=r:=by
 simp only[af_,h];exact hr
theorem bo_{σ β:Type}{body:σ->Option (Step σ β)}{s:σ}{n:Nat}{b:β}(h:body s=some (.done b)):af_ body (n+1) s=some b:=by
 simp only[af_,h]
def aP_{α β:Type}(g:Nat->α->Option β):Nat->List α->Option β
 | _,[]=>none
 | i,x::l=>match g i x with
  | some r=>some r
  | none=>aP_ g (i+1) l
def outO{β:Type}:Option β->Out Unit β|some r => .ret r|none => .fall ()
theorem aY_{i n:Nat}(h:i<n):decide ((i:Int)<(n:Int))=true:=by simpa using h
theorem aV_(n:Nat):decide ((n:Int)<(n:Int))=false:=by simp
theorem ai_{i:Nat}(h:i<9223372036854775807):w64 ((i:Int)+1)=((i+1:Nat):Int):=by
 rw[bb_ ⟨by omega,by omega⟩];rfl
theorem w_pred{i:Nat}(h0:0<i)(h:i<9223372036854775807):w64 ((i:Int)-1)=((i-1:Nat):Int):=by
 rw[bb_ ⟨by omega,by omega⟩];omega
def ec_{β:Type}(o:Option β)(i:Nat):Step Int (Out Unit β):=match o with|some r => .done (.ret r)|none => .next ((i+1:Nat):Int)
theorem bC_{α β:Type}{body:Int->Option (Step Int (Out Unit β))}(xs:List α)(g:Nat->α->Option β)(hn:xs.length<BIG)
  (hb:∀i (h:i<xs.length),body (i:Int)=some (ec_ (g i xs[i]) i))
  (he:body (xs.length:Int)=some (.done (.fall ()))):af_ body BIG 0=some (outO (aP_ g 0 xs)):=by
 refine gK_ (J:=λi s b=>s=(i:Int)/\b=outO (aP_ g i (xs.drop i))) xs.length hn (λs b hJ => ?_) (λi s b hi hJ => ?_) (by simp)
 .obtain⟨rfl,rfl⟩:=hJ;rw[he];simp[aP_,outO]
 .obtain⟨rfl,rfl⟩:=hJ;rw[hb i hi,List.drop_eq_getElem_cons hi];simp only[aP_];cases hg:g i xs[i]with
  | some r=>exact .inl rfl
  | none=>exact .inr ⟨_,rfl,rfl,rfl⟩
theorem cc_{β:Type}{L:Option (Out Unit β)}{k:Out Unit β->Option β}{o:Option β}{x:β}(h:L=some (outO o))(h1:∀r,k (.ret r)=some r)(h2:k (.fall ())=some x):Option.bind L k=some (o.getD x):=by
 subst h;cases o with
 | some r=>exact h1 r
 | none=>exact h2
theorem scan_find{α β:Type}(p:α->Bool)(f:α->β):∀(k:Nat) (l:List α),aP_ (λ_ x=>if p x then some (f x)else none) k l=(l.find? p).map f
 | _,[]=>rfl
 | k,x::l=>by
  simp only[aP_,List.find?_cons];cases p x with
  | true=>rfl
  | false=>exact scan_find p f (k+1) l
theorem scan_idx{α:Type}(p:α->Bool):∀(k:Nat) (l:List α),aP_ (λi x=>if p x then some ((i:Nat):Int)else none) k l=(l.findIdx? p).map λi=>((k+i:Nat):Int)
 | _,[]=>rfl
 | k,x::l=>by
  simp only[aP_,List.findIdx?_cons];cases p x with
  | true=>rfl
  | false =>
   simp only[Bool.false_eq_true,if_false];rw[scan_idx p (k+1) l];cases l.findIdx? p with
   | none=>rfl
   | some i=>simp only[Option.map_some];congr 2;omega
theorem scan_none{α β:Type}{g:Nat->α->Option β}:∀{k:Nat} {l:List α},aP_ g k l=none↔∀i x,l[i]? = some x->g (k+i) x=none
 | _,[]=>⟨λ_ i x h=>by simp at h,λ_=>rfl⟩
 | k,x::l=>by
  simp only[aP_];constructor
  .intro h;split at h
   .cases h
   .rename_i h0;intro i y hy;cases i with
    | zero=>simp at hy;subst hy;exact h0
    | succ i=>have:=(scan_none (k:=k+1)).1 h i y (by simpa using hy);rwa [show k+1+i=k+(i+1)by omega]at this
  .intro h;have h0:=h 0 x rfl;rw[Nat.add_zero]at h0;rw[h0];exact scan_none.2 λi y hy=>by rw[show k+1+i=k+(i+1)by omega];exact h (i+1) y (by simpa using hy)
theorem fk_{α β:Type}{g:Nat->α->Option β}{r:β}:∀{k:Nat} {l:List α},aP_ g k l=some r->∃i x,l[i]? = some x/\g (k+i) x=some r/\∀j y,j<i->l[j]? = some y->g (k+j) y=none
 | _,[],h=>by cases h
 | k,x::l,h=>by
  simp only[aP_]at h;split at h
  .rename_i r' h0;obtain rfl:=qSj h;exact⟨0,x,rfl,h0,λj y hj=>by omega⟩
  .rename_i h0;obtain⟨i,y,h1,h2,h3⟩:=fk_ h;refine⟨i+1,y,by simpa using h1,by rw[show k+(i+1)=k+1+i by omega];exact h2,λj q hj hq => ?_⟩;cases j with
   | zero=>simp at hq;subst hq;exact h0
   | succ j=>rw[show k+(j+1)=k+1+j by omega];exact h3 j q (by omega) (by simpa using hq)
def at_{α:Type}(p:α->Bool)(l:List α):Int:=match l.findIdx? p with|some i=>(i:Int)|none => -1
theorem nw_{α:Type}(p:α->Bool)(l:List α):(aP_ (λi x=>if p x then some ((i:Nat):Int)else none) 0 l).getD (-1)=at_ p l:=by
 rw[scan_idx];unfold at_;cases l.findIdx? p<;>simp
theorem at_find{α:Type}(p:α->Bool)(l:List α):(l.find? p=none/\at_ p l = -1)\/∃(i:Nat) (x:α),l.find? p=some x/\at_ p l=(i:Int)/\l[i]? = some x/\p x=true/\∀j y,j<i->l[j]? = some y->p y=false:=by
 unfold at_;cases h:l.findIdx? p with
 | none =>
  refine .inl ⟨?_,rfl⟩;rw[List.find?_eq_none];intro x hx;rw[List.findIdx?_eq_none_iff]at h;simpa using h x hx
 | some i =>
  obtain⟨hlt,hp,hall⟩:=List.findIdx?_eq_some_iff_getElem.1 h;refine .inr ⟨i,l[i],?_,rfl,List.getElem?_eq_getElem hlt,hp,λj y hj hy => ?_⟩
  .rw[List.find?_eq_some_iff_getElem];exact⟨hp,i,hlt,rfl,λj hj=>by simpa using hall j hj⟩
  .have:=hall j hj;rw[List.getElem?_eq_getElem (by omega)]at hy;obtain rfl:=qSj hy;simpa using this
theorem at_neg{α:Type}(p:α->Bool)(l:List α):decide (at_ p l<0)=(l.find? p).isNone:=by
 rcases at_find p l with⟨h1,h2⟩|⟨i,x,h1,h2,_⟩
 .rw[h1,h2];rfl
 .rw[h1,h2];simp
theorem clone_any{α:Type}{n:Nat}{xs:List α}(h:xs.length*n<=140737488355328)(h63:xs.length<=9223372036854775807):room n ([]:List α) xs=some xs :=
 bv_ (by simpa using h63) (by simpa using h)
theorem az_{n:Nat}(h:n<=9223372036854775807):n<BIG:=by unfold BIG;omega
theorem hasPre(s p:Str):bm_ s p=some (s.take p.length==p):=by
 unfold bm_;by_cases h:p.length<=s.length
 .rw[show decide ((s.length:Int)>=(p.length:Int))=true by simpa using h];simp only[cond_true];rw[cQ_ (Int.le_refl 0) (by omega) (by omega)];simp
 .rw[show decide ((s.length:Int)>=(p.length:Int))=false by simpa using h];simp only[cond_false,qBs];have:(s.take p.length==p)=false:=by
   rw[str_beq];refine decide_eq_false λe => ?_
   have:=congrArg List.length e;rw[List.length_take]at this;omega
  rw[this]
theorem trimPre(s p:Str):strings_TrimPrefix s p=some (if s.take p.length==p then s.drop p.length else s):=by
 unfold strings_TrimPrefix cl_;rw[hasPre];simp only[qBs];cases hc:s.take p.length==p with
 | true =>
  have hle:p.length<=s.length:=by
   rw[str_beq]at hc;have:=congrArg List.length (of_decide_eq_true hc);rw[List.length_take]at this;omega
  rw[cond_true,cQ_ (by omega) (by omega) (Int.le_refl _)];simp
 | false=>simp
theorem idxB_range(s:Str)(c:UInt8):dm_ s c = -1\/(0<=dm_ s c/\dm_ s c<s.length):=by
 induction s with
 | nil=>exact .inl rfl
 | cons b l ih =>
  simp only[dm_];split
  .exact .inr ⟨Int.le_refl 0,by simp only[qLc];omega⟩
  .split
   .exact .inl rfl
   .rename_i h1 h2;rcases ih with ih|ih
    .exact absurd (by rw[ih];rfl) h2
    .exact .inr ⟨by omega,by simp only[qLc];omega⟩
theorem idxB_iff(s:Str)(c:UInt8):0<=dm_ s c↔s.contains c=true:=by
 induction s with
 | nil=>exact⟨λh=>absurd (show(0:Int) <= -1 from h) (by decide),λh=>by cases h⟩
 | cons b l ih =>
  have e:dm_ (b::l) c=if b==c then 0 else if dm_ l c == -1 then -1 else dm_ l c+1:=rfl
  rw[e,List.contains_cons];by_cases hb:b=c
  .subst hb;simp
  .have h1:(b==c)=false:=beq_eq_false_iff_ne.2 hb;have h2:(c==b)=false:=beq_eq_false_iff_ne.2 λe=>hb e.symm
   rw[h1,h2,Bool.false_or,←ih];rcases idxB_range l c with h|⟨h,_⟩
   .rw[h];simp
   .have h3:(dm_ l c == -1)=false:=beq_eq_false_iff_ne.2 (by omega);rw[h3];simp only[Bool.false_eq_true,if_false];omega
theorem idxB_ge(s:Str)(c:UInt8):decide (dm_ s c>=0)=s.contains c:=by
 cases h:s.contains c with
 | true=>exact decide_eq_true ((idxB_iff s c).2 h)
 | false=>exact decide_eq_false λh2=>by rw[(idxB_iff s c).1 h2]at h;cases h
theorem nU_(s:Str)(c:UInt8):strings_Contains s [c]=some (s.contains c):=by
 unfold strings_Contains strings_Index stringslite_Index;simp only[qBs];rw[idxB_ge]
def ax_(p:Str)(s:Str):Nat:=(s.takeWhile λb => !(p.contains b)).length
theorem untilN_le(p s:Str):ax_ p s<=s.length:=by
 unfold ax_;exact List.Sublist.length_le (List.takeWhile_sublist _)
theorem pB_(p:Str):∀(k:Nat) (s:Str),(aP_ (λi b=>if p.contains b then some (((i:Nat):Int))else none) k s).getD ((k+s.length:Nat):Int)=((k+ax_ p s:Nat):Int)
 | k,[]=>by simp[aP_,ax_]
 | k,b::s=>by
  simp only[aP_,ax_,List.takeWhile_cons];cases h:p.contains b with
  | true=>simp
  | false =>
   have ih:=pB_ p (k+1) s;simp only[Bool.not_false,if_true,Bool.false_eq_true,if_false,qLc];rw[show k+(s.length+1)=k+1+s.length by omega,ih];unfold ax_
   congr 1
   omega
theorem toNat_u8(b:UInt8):((b.toNat:Int)).toNat.toUInt8=b:=by simp
theorem until_eq{s p:Str}(hs:s.length<=9223372036854775807):ey_ s p=some ((ax_ p s:Nat):Int):=by
 unfold ey_;have h:=bC_ (body:=gk_ s p) s (λi b=>if p.contains b then some (((i:Nat):Int))else none) (az_ hs) (λi hi=>by
  unfold gk_;rw[aY_ hi,cond_true,cs_ hi];simp only[qBs];unfold strings_IndexByte stringslite_IndexByte;simp only[qBs];rw[toNat_u8,idxB_ge];cases hc:p.contains s[i]with
  | true=>rfl
  | false =>
   simp only[cond_false,Bool.false_eq_true,if_false,ec_];rw[ai_ (by omega)]) (by
  unfold gk_;rw[aV_];rfl)
 refine(cc_ (x:=((s.length:Nat):Int)) h (λr=>rfl) rfl).trans ?_;have:=pB_ p 0 s;rw[Nat.zero_add,Nat.zero_add]at this;rw[this]
def okN(n:Nat):Bool:=(decide (97<=n)&&decide (n<=122))||(decide (48<=n)&&decide (n<=57))||n==45||n==95
def lowN(n:Nat):Bool:=decide (97<=n)&&decide (n<=122)
def trimB(s:Str):Str:=if s.take 1==[33]then s.drop 1 else s
def gv_(s:Str):Bool:=(trimB s).length>=1&&((trimB s).length<=32&&(lowN ((trimB s).headD 0).toNat&&(trimB s).all λb=>okN b.toNat))
theorem okN_int(n:Nat):((((decide ((n:Int)<97)||decide ((n:Int)>122))&&(decide ((n:Int)<48)||decide ((n:Int)>57)))&&((n:Int) != 45))&&((n:Int) != 95)) = !(okN n):=by
 unfold okN;rw[Bool.eq_iff_iff];simp only[qAn,Bool.or_eq_true,qDe,bne_iff_ne,ne_eq,Bool.not_eq_true',Bool.or_eq_false_iff,Bool.and_eq_false_iff,decide_eq_false_iff_not,beq_eq_false_iff_ne];omega
theorem isName_eq{s:Str}(hs:s.length<=9223372036854775807):h5_ s=some (gv_ s):=by
 unfold h5_;have h0:strings_TrimPrefix s [33]=some (trimB s):=trimPre s [33];rw[h0];simp only[qBs];have htl:(trimB s).length<=s.length:=by
  unfold trimB;split
  .rw[List.length_drop];omega
  .exact Nat.le_refl _
 unfold gv_;cases ht:trimB s with
 | nil=>rfl
 | cons b t =>
  rw[ht]at htl;by_cases h32:(b::t).length<=32
  .have e1:decide (((b::t).length:Int)>32)=false:=decide_eq_false (by omega);have e2:((b::t:Str)==[])=false:=rfl;rw[e1,e2];have hb0:an_ (b::t) 0=some (b.toNat:Int):=cs_ (s:=b::t) (i:=0) (by simp);simp only[Bool.or_false,cond_false,hb0,qBs];have e3:decide ((b::t).length>=1)=true:=by simp
   rw[e3,decide_eq_true h32];simp only[Bool.true_and,List.headD_cons];by_cases hl:lowN b.toNat=true
   .have hl':=hl;unfold lowN at hl';simp only[qAn,qDe]at hl';rw[decide_eq_false (show ¬(b.toNat:Int)<97 by omega)];simp only[cond_false];rw[decide_eq_false (show ¬(b.toNat:Int)>122 by omega)];simp only[qBs,cond_false,hl,Bool.true_and];have h:=hR_ (body:=fB_ (b::t)) (b::t) (λb=>okN b.toNat) false (az_ (by omega)) (λi hi=>by
     unfold fB_;rw[aY_ hi,cond_true,cs_ hi];simp only[qBs];rw[okN_int];cases okN (b::t)[i].toNat with
     | true=>simp only[Bool.not_true,cond_false,if_true];rw[ai_ (by omega)]
     | false=>rfl) (by
     unfold fB_;rw[aV_];rfl)
    refine aq_ h ?_;cases(b::t).all λb=>okN b.toNat<;>rfl
   .have hl2:lowN b.toNat=false:=by simpa using hl
    rw[hl2];have:¬(97<=b.toNat/\b.toNat<=122):=λ⟨h1,h2⟩=>by
     unfold lowN at hl2;rw[decide_eq_true h1,decide_eq_true h2]at hl2;cases hl2
    by_cases h97:(b.toNat:Int)<97
    .rw[decide_eq_true h97];rfl
    .rw[decide_eq_false h97];simp only[cond_false];rw[decide_eq_true (show(b.toNat:Int)>122 by omega)];rfl
  .have e1:decide (((b::t).length:Int)>32)=true:=decide_eq_true (by omega);rw[e1,decide_eq_false h32];simp
theorem secret_eq(s:Str):hg_ s=some (s.take 1==[33]):=by
 unfold hg_;cases s with
 | nil=>rfl
 | cons b t =>
  rw[decide_eq_true (show((b::t).length:Int)>0 by simp only[qLc];omega),cond_true,show an_ (b::t) 0=some (b.toNat:Int)from cs_ (s:=b::t) (i:=0) (by simp)];simp only[qBs,List.take_succ_cons,List.take_zero]
  congr 1
  rw[Bool.eq_iff_iff,beq_iff_eq,beq_iff_eq];constructor
  .intro h;have:b=33:=UInt8.toNat_inj.1 (by show b.toNat=33;omega);rw[this]
  .intro h;injection h with h _;rw[h];rfl
theorem okR_int(n i:Nat):(Option.bind (bif decide ((n:Int)>=97)then Option.bind (some (n:Int)) λy=>some (decide (y<=122))else some false) λ(y17:Bool) =>
  Option.bind (bif(!y17)then
   Option.bind (bif((i:Int)==0)then some true else
    Option.bind (some (n:Int)) λy18 =>
    Option.bind (bif(decide (y18>=48))then
     Option.bind (some (n:Int)) λy19 =>
     some (decide (y19<=57))
      else some false) λ(y20:Bool) =>
    Option.bind (bif y20 then some true else
     Option.bind (some (n:Int)) λy21 =>
     some (y21==45)
     ) λ(y22:Bool) =>
    Option.bind (bif y22 then some true else
     Option.bind (some (n:Int)) λy23 =>
     some (y23==95)
     ) λ(y24:Bool) =>
    some (!y24)
    ) λ(y25:Bool) =>
   some y25
    else some false) λ(y26:Bool)=>some y26)=some (!(lowN n||(decide (i≠0)&&okN n))):=by
 unfold lowN okN;have c97:decide ((n:Int)>=97)=decide (97<=n):=decide_eq_decide.2 (by omega);have c122:decide ((n:Int)<=122)=decide (n<=122):=decide_eq_decide.2 (by omega);have c48:decide ((n:Int)>=48)=decide (48<=n):=decide_eq_decide.2 (by omega);have c57:decide ((n:Int)<=57)=decide (n<=57):=decide_eq_decide.2 (by omega);have c45:((n:Int)==45)=(n==45):=by rw[Bool.eq_iff_iff,beq_iff_eq,beq_iff_eq];omega
 have c95:((n:Int)==95)=(n==95):=by rw[Bool.eq_iff_iff,beq_iff_eq,beq_iff_eq];omega
 have c0:((i:Int)==0)=decide (i=0):=by rw[Bool.eq_iff_iff,beq_iff_eq,qDe];omega
 have cn:decide (i≠0) = !(decide (i=0)):=by simp
 simp only[qBs,c97,c122,c48,c57,c45,c95,c0,cn];cases decide (97<=n)<;>cases decide (n<=122)<;>cases decide (48<=n)<;>cases decide (n<=57)<;>cases n==45<;>cases n==95<;>cases decide (i=0)<;>rfl
theorem low_ok{n:Nat}(h:lowN n=true):okN n=true:=by
 unfold lowN at h;unfold okN;rw[h];rfl
def gName(i:Nat)(b:UInt8):Option Bool:=if !(lowN b.toNat||(decide (i≠0)&&okN b.toNat))then some false else none
theorem scan_name:∀(t:Str) (k:Nat),0<k->aP_ gName k t=if t.all λb=>okN b.toNat then none else some false
 | [],_,_=>rfl
 | b::t,k,hk=>by
  have hg:gName k b=if okN b.toNat then none else some false:=by
   unfold gName;rw[decide_eq_true (show k≠0 by omega),Bool.true_and];cases ho:okN b.toNat with
   | true=>simp
   | false =>
    cases hl:lowN b.toNat with
    | true=>rw[low_ok hl]at ho;cases ho
    | false=>rfl
  simp only[aP_,hg,List.all_cons];by_cases ho:okN b.toNat=true
  .simp only[ho,if_true,Bool.true_and];exact scan_name t (k+1) (by omega)
  .have ho':okN b.toNat=false:=by simpa using ho
   simp[ho']
theorem bind2_last{α γ:Type}{A:Option α}{B:α->Option Bool}{f:Bool->Option γ}{r:Bool}(h:(Option.bind A λy=>Option.bind (B y) λz=>some z)=some r):(Option.bind A λy=>Option.bind (B y) f)=f r:=by
 cases A with
 | none=>cases h
 | some a =>
  simp only[qBs]at h ⊢;cases hb:B a with
  | none=>rw[hb]at h;cases h
  | some b =>
   rw[hb]at h;simp only[qBs]at h ⊢;rw[qSj h]
theorem refName_eq{s:Str}(hs:s.length<=9223372036854775807):i0_ s=some (gv_ s):=by
 unfold i0_;rw[secret_eq];have h0:(Option.bind (some (s.take 1==[33])) λy1=>(bif y1 then(aX_ s 1 (s.length:Int)).bind λy2=>some y2 else some s))=some (trimB s):=by
  simp only[qBs];unfold trimB;cases hc:s.take 1==[33]with
  | true =>
   have hle:1<=s.length:=by
    cases s with
    | nil=>cases hc
    | cons b t=>simp
   rw[cond_true,cQ_ (by omega) (by omega) (Int.le_refl _)];simp
  | false=>rfl
 refine aq_ h0 ?_;have htl:(trimB s).length<=s.length:=by
  unfold trimB;split
  .rw[List.length_drop];omega
  .exact Nat.le_refl _
 have h:=bC_ (body:=gu_ (trimB s)) (trimB s) gName (az_ (by omega)) (λi hi=>by
  unfold gu_;rw[aY_ hi,cond_true,cs_ hi];simp only[qBs];refine(bind2_last (okR_int (trimB s)[i].toNat i)).trans ?_;unfold gName;cases(lowN (trimB s)[i].toNat||(decide (i≠0)&&okN (trimB s)[i].toNat))with
  | true =>
   simp only[Bool.not_true,cond_false,Bool.false_eq_true,if_false,ec_];rw[ai_ (by omega)]
  | false=>rfl) (by
  unfold gu_;rw[aV_];rfl)
 refine(cc_ (x:=(decide (((trimB s).length:Int)>=1)&&decide (((trimB s).length:Int)<=32))) h (λr=>rfl) rfl).trans ?_
 congr 1
 unfold gv_;cases ht:trimB s with
 | nil=>rfl
 | cons b t =>
  have e1:decide (((b::t).length:Int)>=1)=decide ((b::t).length>=1):=decide_eq_decide.2 (by omega);have e2:decide (((b::t).length:Int)<=32)=decide ((b::t).length<=32):=decide_eq_decide.2 (by omega);rw[e1,e2];have g0:gName 0 b=if lowN b.toNat then none else some false:=by
   unfold gName;cases lowN b.toNat<;>rfl
  simp only[aP_,g0,List.headD_cons,List.all_cons];by_cases hl:lowN b.toNat=true
  .rw[scan_name t (0+1) (by omega)];simp only[hl,low_ok hl,if_true,Bool.true_and];cases t.all λb=>okN b.toNat<;>simp
  .have hl':lowN b.toNat=false:=by simpa using hl
   simp[hl']
theorem refPlain_eq{s:Str}(hs:s.length<=9223372036854775807):h9_ s=some (decide (ax_ [0,10,13] s=s.length)):=by
 unfold h9_;have h:=bC_ (body:=fN_ s) s (λ_ b=>if([0,10,13]:Str).contains b then some false else none) (az_ hs) (λi hi=>by
  unfold fN_;rw[aY_ hi,cond_true,cs_ hi];simp only[qBs];have hc:([0,10,13]:Str).contains s[i]=(((s[i].toNat:Int)==0)||(((s[i].toNat:Int)==10)||((s[i].toNat:Int)==13))):=by
   have key:∀k:UInt8,(s[i]==k)=((s[i].toNat:Int)==(k.toNat:Int)):=λk=>by
    rw[Bool.eq_iff_iff,beq_iff_eq,beq_iff_eq];exact⟨λe=>by rw[e],λe=>UInt8.toNat_inj.1 (by omega)⟩
   simp only[List.contains_cons,List.contains_nil,Bool.or_false];rw[key 0,key 10,key 13];rfl
  rw[hc];cases((s[i].toNat:Int)==0)with
  | true=>rfl
  | false =>
   cases((s[i].toNat:Int)==10)with
   | true=>rfl
   | false =>
    cases((s[i].toNat:Int)==13)with
    | true=>rfl
    | false =>
     simp only[cond_false,qBs,Bool.or_false,Bool.false_eq_true,if_false,ec_];rw[ai_ (by omega)]) (by
  unfold fN_;rw[aV_];rfl)
 refine(cc_ (x:=true) h (λr=>rfl) rfl).trans ?_
 congr 1
 have:∀(k:Nat) (t:Str),(aP_ (λ_ b=>if([0,10,13]:Str).contains b then some false else none) k t).getD true=decide (ax_ [0,10,13] t=t.length):=by
  intro k t
  induction t generalizing k with
  | nil=>rfl
  | cons b t ih =>
   simp only[aP_,ax_,List.takeWhile_cons];cases hb:([0,10,13]:Str).contains b with
   | true=>simp
   | false =>
    simp only[Bool.false_eq_true,if_false,Bool.not_false,if_true,qLc];rw[ih (k+1)];unfold ax_;exact decide_eq_decide.2 (by omega)
 exact this 0 s
def dW_(l:List Xk)(a:Xk):Int:=if l.length>=32 then 22 else if !(gv_ a.Xy)then 6 else if a.Xo && !(a.Xp==[])then 2 else if ax_ [0,10,13] a.Xp<a.Xp.length then 2 else if a.Xp.length>1024 then 4 else if l.any λb=>b.Xy==a.Xy then 7 else 0
theorem indexFunc_eq(l:List Xk)(p:Xk->Bool)(hl:l.length<=9223372036854775807):aT_ l (λa=>some (p a))=some (at_ p l):=by
 unfold aT_;have h:=bC_ (body:=bt_ l (λa=>some (p a))) l (λi x=>if p x then some ((i:Nat):Int)else none) (az_ hl) (λi hi=>by
  unfold bt_;rw[aY_ hi,cond_true,al_ hi];simp only[qBs];cases p l[i]with
  | true=>rfl
  | false =>
   simp only[cond_false,Bool.false_eq_true,if_false,ec_];rw[ai_ (by omega)]) (by
  unfold bt_;rw[aV_];rfl)
 refine(cc_ (x:=(-1:Int)) h (λr=>rfl) rfl).trans ?_;rw[nw_]
theorem at_any{α:Type}(p:α->Bool)(l:List α):decide (at_ p l>=0)=l.any p:=by
 have:=at_neg p l;have h2:decide (at_ p l>=0) = !(decide (at_ p l<0)):=by
  by_cases h:at_ p l<0
  .rw[decide_eq_true h,decide_eq_false (by omega)];rfl
  .rw[decide_eq_false h,decide_eq_true (by omega)];rfl
 rw[h2,this];cases hf:l.find? p with
 | none =>
  rw[List.find?_eq_none]at hf
  symm;simp only[Option.isNone_none,Bool.not_true,List.any_eq_false];exact hf
 | some x =>
  symm;simp only[Option.isNone_some,Bool.not_false,List.any_eq_true];exact⟨x,List.mem_of_find?_eq_some hf,List.find?_some hf⟩
theorem jW_(l:List Xk)(p:Xk->Bool)(hl:l.length<=9223372036854775807):ba_ l (λa=>some (p a))=some (l.any p):=by
 unfold ba_;rw[indexFunc_eq l p hl];simp only[qBs];rw[at_any]
theorem check_eq{l:List Xk}{a:Xk}(hl:l.length<=9223372036854775807)(hn:a.Xy.length<=9223372036854775807)(hv:a.Xp.length<=9223372036854775807):g9_ l a=some (dW_ l a):=by
 unfold g9_ dW_;by_cases h32:l.length>=32
 .rw[decide_eq_true (show(l.length:Int)>=32 by omega),if_pos h32];rfl
 .rw [decide_eq_false (show ¬(l.length:Int)>=32 by omega),if_neg h32,cond_false,isName_eq hn];simp only[qBs];cases gv_ a.Xy with
  | false=>rfl
  | true =>
   simp only[Bool.not_true,cond_false,Bool.false_eq_true,if_false];cases a.Xo && !(a.Xp==[])with
   | true=>rfl
   | false =>
    simp only[cond_false,Bool.false_eq_true,if_false];rw[until_eq hv];simp only[qBs];by_cases hu:ax_ [0,10,13] a.Xp<a.Xp.length
    .rw[decide_eq_true (show((ax_ [0,10,13] a.Xp:Nat):Int)<(a.Xp.length:Int)by omega),if_pos hu];rfl
    .rw[decide_eq_false (show ¬((ax_ [0,10,13] a.Xp:Nat):Int)<(a.Xp.length:Int)by omega),if_neg hu,cond_false];by_cases h1:a.Xp.length>1024
     .rw[decide_eq_true (show(a.Xp.length:Int)>1024 by omega),if_pos h1];rfl
     .rw[decide_eq_false (show ¬(a.Xp.length:Int)>1024 by omega),if_neg h1,cond_false];have:(λ(u1:Xk)=>Option.bind (jw_ u1 a) λ(v1:Bool)=>some v1)=λb=>some (b.Xy==a.Xy):=rfl
      rw[this,jW_ l _ hl];simp only[qBs];cases l.any λb=>b.Xy==a.Xy<;>rfl
theorem refOne_eq {l:List Xk} {a:Xk} (hl:l.length<=9223372036854775807) (hn:a.Xy.length<=9223372036854775807) (hv:a.Xp.length<=9223372036854775807):jS_ l a=some (dW_ l a):=by
 unfold jS_ dW_;by_cases h32:l.length>=32
 .rw[decide_eq_true (show(l.length:Int)>=32 by omega),if_pos h32];rfl
 .rw [decide_eq_false (show ¬(l.length:Int)>=32 by omega),if_neg h32,cond_false,refName_eq hn];simp only[qBs];cases gv_ a.Xy with
  | false=>rfl
  | true =>
   simp only[Bool.not_true,cond_false,Bool.false_eq_true,if_false];cases a.Xo && !(a.Xp==[])with
   | true=>rfl
   | false =>
    simp only[cond_false,Bool.false_eq_true,if_false];rw[refPlain_eq hv];simp only[qBs];have hle:=untilN_le [0,10,13] a.Xp;by_cases hu:ax_ [0,10,13] a.Xp<a.Xp.length
    .rw[decide_eq_false (show ¬ax_ [0,10,13] a.Xp=a.Xp.length by omega),if_pos hu];rfl
    .rw [decide_eq_true (show ax_ [0,10,13] a.Xp=a.Xp.length by omega),if_neg hu];simp only[Bool.not_true,cond_false];by_cases h1:a.Xp.length>1024
     .rw[decide_eq_true (show(a.Xp.length:Int)>1024 by omega),if_pos h1];rfl
     .rw[decide_eq_false (show ¬(a.Xp.length:Int)>1024 by omega),if_neg h1,cond_false];have h:=hR_ (body:=hh_ l a) l (λb => !(b.Xy==a.Xy)) (7:Int) (az_ hl) (λi hi=>by
       unfold hh_;rw[aY_ hi,cond_true,al_ hi];simp only[qBs];cases l[i].Xy==a.Xy with
       | true=>rfl
       | false =>
        simp only[cond_false,Bool.not_false,if_true];rw[ai_ (by omega)]) (by
       unfold hh_;rw[aV_];rfl)
      refine aq_ h ?_;have hany:(l.any λb=>b.Xy==a.Xy) = !(l.all λb => !(b.Xy==a.Xy)):=by
       rw[List.all_eq_not_any_not];simp
      rw[hany];cases l.all λb => !(b.Xy==a.Xy)<;>rfl
theorem pC_{α β γ:Type}{body:Int×γ->Option (Step (Int×γ) (Out Unit β))}(c:γ)(xs:List α)(g:Nat->α->Option β)(hn:xs.length<BIG)
  (hb:∀i (h:i<xs.length),body ((i:Int),c)=some (match g i xs[i]with|some r => .done (.ret r)|none => .next (((i+1:Nat):Int),c)))
  (he:body ((xs.length:Int),c)=some (.done (.fall ()))):af_ body BIG (0,c)=some (outO (aP_ g 0 xs)):=by
 refine gK_ (J:=λi s b=>s=((i:Int),c)/\b=outO (aP_ g i (xs.drop i))) xs.length hn (λs b hJ => ?_) (λi s b hi hJ => ?_) (by simp)
 .obtain⟨rfl,rfl⟩:=hJ;rw[he];simp[aP_,outO]
 .obtain⟨rfl,rfl⟩:=hJ;rw[hb i hi,List.drop_eq_getElem_cons hi];simp only[aP_];cases hg:g i xs[i]with
  | some r=>exact .inl rfl
  | none=>exact .inr ⟨_,rfl,rfl,rfl⟩
structure AttrL(l:List Xk):Prop where
 len:l.length<=9223372036854775807
 nm:∀a∈l,a.Xy.length<=9223372036854775807
 vl:∀a∈l,a.Xp.length<=9223372036854775807
def ga_(l:List Xk)(i:Nat)(x:Xk):Option Int:=if dW_ (l.take i) x=0 then none else some (dW_ (l.take i) x)
def bw_(l:List Xk):Int:=(aP_ (ga_ l) 0 l).getD 0
theorem mV_{l:List Xk}(h:AttrL l):ha_ l=some (bw_ l):=by
 unfold ha_;have hs:=bC_ (body:=gl_ l) l (ga_ l) (az_ h.len) (λi hi=>by
  unfold gl_;have hm:=List.getElem_mem hi;have hl:=h.len;rw[aY_ hi,cond_true,al_ hi,cQ_ (Int.le_refl 0) (by omega) (by omega)];simp only[qBs,Int.toNat_natCast,Int.toNat_zero,List.drop_zero];rw[check_eq (by rw[List.length_take];omega) (h.nm _ hm) (h.vl _ hm)];simp only[qBs];unfold ga_;by_cases h0:dW_ (l.take i) l[i]=0
  .rw[if_pos h0,h0];simp only[bne_self_eq_false,cond_false,ec_];rw[ai_ (by omega)]
  .rw[if_neg h0,show(dW_ (l.take i) l[i] != 0)=true from bne_iff_ne.2 h0];rfl) (by
  unfold gl_;rw[aV_];rfl)
 exact cc_ (x:=(0:Int)) hs (λr=>rfl) rfl
theorem nV_{l:List Xk}(h:AttrL l):f8_ l=some (bw_ l):=by
 unfold f8_;have hs:=bC_ (body:=fO_ l) l (ga_ l) (az_ h.len) (λi hi=>by
  unfold fO_;have hm:=List.getElem_mem hi;have hl:=h.len;rw[aY_ hi,cond_true,al_ hi,cQ_ (Int.le_refl 0) (by omega) (by omega)];simp only[qBs,Int.toNat_natCast,Int.toNat_zero,List.drop_zero];rw[refOne_eq (by rw[List.length_take];omega) (h.nm _ hm) (h.vl _ hm)];simp only[qBs];unfold ga_;by_cases h0:dW_ (l.take i) l[i]=0
  .rw[if_pos h0,h0];simp only[bne_self_eq_false,cond_false,ec_];rw[ai_ (by omega)]
  .rw[if_neg h0,show(dW_ (l.take i) l[i] != 0)=true from bne_iff_ne.2 h0];rfl) (by
  unfold fO_;rw[aV_];rfl)
 exact cc_ (x:=(0:Int)) hs (λr=>rfl) rfl
def e7_(s:Str):Int:=if s.length>1024 then 4 else if s.contains 10 then 2 else 0
theorem pD_(s:Str):hf_ s=some (e7_ s):=by
 unfold hf_ e7_;by_cases h:s.length>1024
 .rw[decide_eq_true (show(s.length:Int)>1024 by omega),if_pos h];rfl
 .rw[decide_eq_false (show ¬(s.length:Int)>1024 by omega),if_neg h,cond_false];have hl:=hR_ (body:=gq_ s) s (λb => !(b==10)) (2:Int) (az_ (by omega)) (λi hi=>by
   unfold gq_;rw[aY_ hi,cond_true,cs_ hi];simp only[qBs];have hc:((s[i].toNat:Int)==10)=(s[i]==10):=by
    rw[Bool.eq_iff_iff,beq_iff_eq,beq_iff_eq];exact⟨λe=>UInt8.toNat_inj.1 (show s[i].toNat=10 by omega),λe=>by rw[e];rfl⟩
   rw[hc];cases s[i]==10 with
   | true=>rfl
   | false =>
    simp only[cond_false,Bool.not_false,if_true];rw[ai_ (by omega)]) (by
   unfold gq_;rw[aV_];rfl)
  refine aq_ hl ?_;have:s.contains 10 = !(s.all λb => !(b==10)):=by
   rw[List.contains_eq_any_beq,List.all_eq_not_any_not];simp only[Bool.not_not]
   congr 1
   funext b
   rw[Bool.eq_iff_iff,beq_iff_eq,beq_iff_eq];exact eq_comm
  rw[this];cases s.all λb => !(b==10)<;>rfl
def ie_(_:Nat)(s:Str):Option Int:=if e7_ s=0 then none else some (e7_ s)
def ct_(m:Xw):Int:=(aP_ ie_ 0 [m.Xu,m.Xa,m.Yz,m.Xd]).getD (if bw_ m.Xn=0 then(if m.Xn.any (·.Xo)then 2 else if m.Xt.length>65536 then 4 else 0)else bw_ m.Xn)
theorem rw_{m:Xw}(h:AttrL m.Xn):d6_ m=some (ct_ m):=by
 unfold d6_;have hs:=pC_ (body:=fC_ m) [m.Xu,m.Xa,m.Yz,m.Xd] [m.Xu,m.Xa,m.Yz,m.Xd] ie_ (by unfold BIG;simp) (λi hi=>by
  unfold fC_;rw[aY_ hi,cond_true,al_ hi];simp only[qBs];generalize([m.Xu,m.Xa,m.Yz,m.Xd]:List Str)[i]=s;unfold ie_ e7_;by_cases h1:s.length>1024
  .rw[decide_eq_true (show(s.length:Int)>1024 by omega),if_pos h1];rfl
  .rw[decide_eq_false (show ¬(s.length:Int)>1024 by omega),if_neg h1,cond_false,nU_];simp only[qBs];cases s.contains 10 with
   | true=>rfl
   | false =>
    simp only[cond_false,Bool.false_eq_true,if_false,if_true];have hi':i<4:=hi;rw[ai_ (by omega)]) (by
  unfold fC_;rw[aV_];rfl)
 unfold ct_;cases hsc:aP_ ie_ 0 [m.Xu,m.Xa,m.Yz,m.Xd]with
 | some r =>
  rw[hsc]at hs;exact aq_ hs rfl
 | none =>
  rw[hsc]at hs;refine aq_ hs ?_;simp only[outO];rw[mV_ h];simp only[qBs,Option.getD_none];by_cases h0:bw_ m.Xn=0
  .rw[if_pos h0,h0];simp only[bne_self_eq_false,cond_false];unfold gm_;have:(λ(u1:Xk)=>Option.bind (hb_ u1) λ(v1:Bool)=>some v1)=λb=>some b.Xo:=rfl
   rw[this,jW_ _ _ h.len];simp only[qBs];cases m.Xn.any (·.Xo)with
   | true=>rfl
   | false =>
    simp only[cond_false,Bool.false_eq_true,if_false];by_cases h1:m.Xt.length>65536
    .rw[decide_eq_true (show(m.Xt.length:Int)>65536 by omega),if_pos h1];rfl
    .rw[decide_eq_false (show ¬(m.Xt.length:Int)>65536 by omega),if_neg h1];rfl
  .rw[if_neg h0,show(bw_ m.Xn != 0)=true from bne_iff_ne.2 h0];rfl
theorem oq_{m:Xw}(h:AttrL m.Xn):ia_ m=some (ct_ m):=by
 unfold ia_;have hs:=pC_ (body:=fP_) [m.Xu,m.Xa,m.Yz,m.Xd] [m.Xu,m.Xa,m.Yz,m.Xd] ie_ (by unfold BIG;simp) (λi hi=>by
  unfold fP_;rw[aY_ hi,cond_true,al_ hi];simp only[qBs];generalize([m.Xu,m.Xa,m.Yz,m.Xd]:List Str)[i]=s;rw[pD_];simp only[qBs];unfold ie_;by_cases h0:e7_ s=0
  .rw[if_pos h0,h0];simp only[bne_self_eq_false,cond_false];have hi':i<4:=hi;rw[ai_ (by omega)]
  .rw[if_neg h0,show(e7_ s != 0)=true from bne_iff_ne.2 h0];rfl) (by
  unfold fP_;rw[aV_];rfl)
 unfold ct_;cases hsc:aP_ ie_ 0 [m.Xu,m.Xa,m.Yz,m.Xd]with
 | some r =>
  rw[hsc]at hs;exact aq_ hs rfl
 | none =>
  rw[hsc]at hs;refine aq_ hs ?_;simp only[outO];rw[nV_ h];simp only[qBs,Option.getD_none];by_cases h0:bw_ m.Xn=0
  .rw[if_pos h0,h0];simp only[bne_self_eq_false,cond_false];have hq:=hR_ (body:=fQ_ m) m.Xn (λa => !a.Xo) (2:Int) (az_ h.len) (λi hi=>by
    unfold fQ_;have hl:=h.len;rw[aY_ hi,cond_true,al_ hi];simp only[qBs];cases m.Xn[i].Xo with
    | true=>rfl
    | false =>
     simp only[cond_false,Bool.not_false,if_true];rw[ai_ (by omega)]) (by
    unfold fQ_;rw[aV_];rfl)
   refine aq_ hq ?_;have hany:(m.Xn.any (·.Xo)) = !(m.Xn.all λa => !a.Xo):=by
    rw[List.all_eq_not_any_not];simp
   rw[hany];cases m.Xn.all λa => !a.Xo with
   | false=>rfl
   | true =>
    simp only[Bool.not_true,Bool.false_eq_true,if_false,if_true];by_cases h1:m.Xt.length>65536
    .rw[decide_eq_true (show(m.Xt.length:Int)>65536 by omega),if_pos h1];rfl
    .rw[decide_eq_false (show ¬(m.Xt.length:Int)>65536 by omega),if_neg h1];rfl
  .rw[if_neg h0,show(bw_ m.Xn != 0)=true from bne_iff_ne.2 h0];rfl
def dbl(s:Str):Str:=s.flatMap λb=>if b==39 then[39,39]else[b]
theorem nx_(a b:Str):dbl (a++b)=dbl a++dbl b:=by unfold dbl;rw[List.flatMap_append]
theorem mW_{s:Str}(h:s.contains 39=false):dbl s=s:=by
 induction s with
 | nil=>rfl
 | cons b t ih =>
  rw[List.contains_cons,Bool.or_eq_false_iff]at h;unfold dbl at ih ⊢;rw[List.flatMap_cons,ih h.2];have:(b==39)=false:=by
   rw[beq_eq_false_iff_ne];intro e;rw[e]at h;simp at h
  rw[this];rfl
theorem jd_(s:Str):(dbl s).length<=2*s.length:=by
 induction s with
 | nil=>simp[dbl]
 | cons b t ih =>
  unfold dbl at ih ⊢;rw[List.flatMap_cons,qLa,qLc];by_cases hb:(b==39)=true
  .rw[if_pos hb];simp only[qLc,List.length_nil];omega
  .rw[if_neg hb];simp only[qLc,List.length_nil];omega
theorem kf_{c:UInt8}{s:Str}(h:s.contains c=true):s=s.take (ax_ [c] s)++c::s.drop (ax_ [c] s+1)/\(s.take (ax_ [c] s)).contains c=false/\dm_ s c=((ax_ [c] s:Nat):Int)/\ax_ [c] s<s.length:=by
 induction s with
 | nil=>cases h
 | cons b t ih =>
  by_cases hb:b=c
  .subst hb;have hu:ax_ [b] (b::t)=0:=by
    unfold ax_;rw[List.takeWhile_cons];simp
   rw[hu];refine⟨rfl,rfl,?_,by simp⟩;simp[dm_]
  .have h1:(b==c)=false:=beq_eq_false_iff_ne.2 hb;have h2:(c==b)=false:=beq_eq_false_iff_ne.2 λe=>hb e.symm
   rw[List.contains_cons,h2,Bool.false_or]at h;obtain⟨i1,i2,i3,i4⟩:=ih h;have hu:ax_ [c] (b::t)=ax_ [c] t+1:=by
    unfold ax_;rw[List.takeWhile_cons];simp[hb]
   rw[hu];refine⟨?_,?_,?_,by simp only[qLc];omega⟩
   .rw[List.take_succ_cons,List.drop_succ_cons,List.cons_append,←i1]
   .rw[List.take_succ_cons,List.contains_cons,h2,i2];rfl
   .have e:dm_ (b::t) c=if b==c then 0 else if dm_ t c == -1 then -1 else dm_ t c+1:=rfl
    rw[e,h1,i3,show(((ax_ [c] t:Nat):Int) == -1)=false from beq_eq_false_iff_ne.2 (by omega)];simp only[Bool.false_eq_true,if_false];omega
theorem mX_{c:UInt8}{s:Str}(h:0<s.count c):s.contains c=true:=by
 rw[List.contains_iff_mem];exact List.count_pos_iff.1 h
theorem pE_{c:UInt8}{s:Str}(h:s.count c=0):s.contains c=false:=by
 cases hc:s.contains c with
 | false=>rfl
 | true =>
  rw[List.contains_iff_mem]at hc;have:=List.count_pos_iff.2 hc;omega
theorem count_none{c:UInt8}{s:Str}(h:s.contains c=false):s.count c=0:=by
 rcases Nat.eq_zero_or_pos (s.count c)with h0|h0
 .exact h0
 .rw[mX_ h0]at h;cases h
theorem gb_(s:Str):bytesS (aG_ s)=s:=by
 unfold bytesS aG_;rw[List.map_map]
 conv=>rhs;rw[←List.map_id s]
 apply List.map_congr_left;intro b _;simp
theorem gL_(a b:Str):aG_ (a++b)=aG_ a++aG_ b:=List.map_append
theorem ay_(s:Str):(aG_ s).length=s.length:=List.length_map _
def bY_(s:Str):Nat->Nat | 0=>0|i+1=>bY_ s i+ax_ [39] (s.drop (bY_ s i))+1
theorem posQ_ok{s:Str}:∀(i:Nat),i<=s.count 39->bY_ s i<=s.length/\(s.drop (bY_ s i)).count 39=s.count 39-i
 | 0,_=>⟨Nat.zero_le _,rfl⟩
 | i+1,hi=>by
  obtain⟨h1,h2⟩:=posQ_ok (s:=s) i (by omega);have hc:(s.drop (bY_ s i)).contains 39=true:=mX_ (by omega);obtain⟨k1,k2,_,k4⟩:=kf_ hc;rw[List.length_drop]at k4;simp only[bY_];refine⟨by omega,?_⟩;have e1:s.drop (bY_ s i+ax_ [39] (s.drop (bY_ s i))+1)=(s.drop (bY_ s i)).drop (ax_ [39] (s.drop (bY_ s i))+1):=by
   rw[List.drop_drop];congr 1
  rw[e1];have h3:=congrArg (List.count 39) k1;rw[List.count_append,count_none k2,List.count_cons_self,h2]at h3;omega
theorem take_next{t:Str}{u:Nat}{c:UInt8}(k1:t=t.take u++c::t.drop (u+1))(hu:u<t.length):t.take (u+1)=t.take u++[c]:=by
 have hl:(t.take u).length=u:=by rw[List.length_take];omega
 have h:=congrArg (List.take (u+1)) k1;rw[List.take_append,hl,List.take_of_length_le (by omega:(t.take u).length<=u+1),show u+1-u=1 by omega]at h;rw[h];simp
theorem dbl_step{s:Str}{p:Nat}(_:p<=s.length)(hc:(s.drop p).contains 39=true):dbl (s.take (p+ax_ [39] (s.drop p)+1))=dbl (s.take p)++((s.drop p).take (ax_ [39] (s.drop p))++[39,39]):=by
 obtain⟨k1,k2,_,k4⟩:=kf_ hc;have e1:s.take (p+ax_ [39] (s.drop p)+1)=s.take p++(s.drop p).take (ax_ [39] (s.drop p)+1):=by
  rw[Nat.add_assoc,List.take_add]
 have e2:=take_next k1 k4;rw[e1,e2,nx_,nx_,mW_ k2];rfl
theorem rx_{s:Str}(hs:s.length<=1000000000):strings_ReplaceAll s [39] [39,39]=some (dbl s):=by
 have hcl:s.count 39<=s.length:=List.count_le_length;unfold strings_ReplaceAll strings_Replace;have e0:((([39]:Str)==[39,39])||((-1:Int)==0))=false:=rfl;rw[e0,cond_false];have ec:strings_Count s [39]=some ((s.count 39:Nat):Int):=rfl;rw[ec];simp only[qBs];rcases Nat.eq_zero_or_pos (s.count 39)with h0|h0
 .rw[h0,mW_ (pE_ h0)];rfl
 .rw[show(((s.count 39:Nat):Int)==0)=false from beq_eq_false_iff_ne.2 (by omega)];simp only[cond_false,show decide ((-1:Int)<0)=true from rfl,Bool.true_or,cond_true,qBs,qLc,List.length_nil];have eg:growB ([]:List Int) (w64 ((s.length:Int)+w64 (((s.count 39:Nat):Int)*w64 (((0+1+1:Nat):Int)-((0+1:Nat):Int)))))=some []:=by
   rw[bb_ (n:=((0+1+1:Nat):Int)-((0+1:Nat):Int)) ⟨by omega,by omega⟩,bb_ (n:=((s.count 39:Nat):Int)*_) ⟨by omega,by omega⟩,bb_ ⟨by omega,by omega⟩];unfold growB;rw[decide_eq_true (by omega),decide_eq_true (by omega)];rfl
  rw[eg];simp only[qBs];rw[show decide (((0+1:Nat):Int)>0)=true from rfl,cond_true];have hl:=bB_ (body:=cF_ ((s.count 39:Nat):Int) s [39] [39,39]) (λi=>((bY_ s i:Int),(i:Int),aG_ (dbl (s.take (bY_ s i))))) (s.count 39) (az_ (by omega)) (λi hi=>by
   obtain⟨h1,h2⟩:=posQ_ok (s:=s) i (by omega);have hc:(s.drop (bY_ s i)).contains 39=true:=mX_ (by omega);obtain⟨k1,k2,k3,k4⟩:=kf_ hc;have hd:=dbl_step h1 hc;have hdl:=jd_ (s.take (bY_ s i));rw[List.length_take]at hdl;rw[List.length_drop]at k4;unfold cF_;simp only[];rw[aY_ hi,cond_true,cQ_ (by omega) (by omega) (Int.le_refl _)];simp only[qBs,Int.toNat_natCast,List.take_length];unfold strings_Index stringslite_Index;simp only[qBs];rw[k3,bb_ (n:=(bY_ s i:Int)+_) ⟨by omega,by omega⟩,cQ_ (by omega) (by omega) (by omega)];simp only[qBs];rw[show((bY_ s i:Int)+((ax_ [39] (s.drop (bY_ s i)):Nat):Int)).toNat=bY_ s i+ax_ [39] (s.drop (bY_ s i))by omega,Int.toNat_natCast]
   have e3:(s.take (bY_ s i+ax_ [39] (s.drop (bY_ s i)))).drop (bY_ s i)=(s.drop (bY_ s i)).take (ax_ [39] (s.drop (bY_ s i))):=by
    rw[List.drop_take];congr 1;omega
   rw[e3];have hul:((s.drop (bY_ s i)).take (ax_ [39] (s.drop (bY_ s i)))).length<=s.length:=by rw[List.length_take,List.length_drop];omega
   rw[bv_ (by rw[ay_,ay_];omega) (by rw[ay_,ay_];omega)];simp only[qBs];rw[bv_ (by rw[qLa,ay_,ay_,ay_];simp only[qLc,List.length_nil];omega) (by rw[qLa,ay_,ay_,ay_];simp only[qLc,List.length_nil];omega)];simp only[qBs];have e4:bY_ s (i+1)=bY_ s i+ax_ [39] (s.drop (bY_ s i))+1:=rfl;rw[ai_ (by omega),e4,hd,gL_,gL_,List.append_assoc];rw[bb_ (n:=_+(([39]:Str).length:Int)) ⟨by simp only[qLc,List.length_nil];omega,by simp only[qLc,List.length_nil];omega⟩];rfl) (by
   unfold cF_;simp only[];rw[aV_];rfl)
  have hl':af_ (cF_ ((s.count 39:Nat):Int) s [39] [39,39]) BIG (0,0,[])=some ((bY_ s (s.count 39):Int),aG_ (dbl (s.take (bY_ s (s.count 39))))):=hl;rw[hl'];simp only[qBs];obtain⟨h1,h2⟩:=posQ_ok (s:=s) (s.count 39) (Nat.le_refl _);have hc:(s.drop (bY_ s (s.count 39))).contains 39=false:=pE_ (by omega);have hdl:=jd_ (s.take (bY_ s (s.count 39)));rw[List.length_take]at hdl;rw[cQ_ (by omega) (by omega) (Int.le_refl _)];simp only[qBs,Int.toNat_natCast,List.take_length];rw[bv_ (by rw[ay_,ay_,List.length_drop];omega) (by rw[ay_,ay_,List.length_drop];omega)];simp only[qBs];rw[←gL_,gb_]
  congr 1
  conv=>rhs;rw[←List.take_append_drop (bY_ s (s.count 39)) s,nx_,mW_ hc]
def is_(s:Str):Str:=if s≠[]/\ax_ [32,9,39] s=s.length then s else 39::(dbl s++[39])
theorem quote_eq{s:Str}(hs:s.length<=1000000000):iV_ s=some (is_ s):=by
 unfold iV_ is_;rw[until_eq (by omega),rx_ hs];have hdl:=jd_ s;by_cases h0:s=[]
 .subst h0;rfl
 .rw[show(s==[])=false from beq_eq_false_iff_ne.2 h0];simp only[Bool.not_false,cond_true,qBs];by_cases hu:ax_ [32,9,39] s=s.length
  .rw[hu,if_pos ⟨h0,rfl⟩];simp
  .rw[if_neg λh=>hu h.2,show(((ax_ [32,9,39] s:Nat):Int)==(s.length:Int))=false from beq_eq_false_iff_ne.2 (by omega),cond_false,bj_ (by simp only[qLc,List.length_nil];omega)];simp only[qBs];rw[bj_ (by simp only[qLa,qLc,List.length_nil];omega)];simp
theorem until_all(p s:Str):(ax_ p s=s.length)↔(s.any λb=>p.contains b)=false:=by
 induction s with
 | nil=>simp[ax_]
 | cons b t ih =>
  unfold ax_ at ih ⊢;rw[List.takeWhile_cons,List.any_cons];cases hb:p.contains b with
  | true=>simp
  | false =>
   simp only[Bool.not_false,if_true,qLc,Bool.false_or];rw[←ih];omega
theorem bO_(b k:UInt8):((b.toNat:Int)==(k.toNat:Int))=(b==k):=by
 rw[Bool.eq_iff_iff,beq_iff_eq,beq_iff_eq];exact⟨λe=>UInt8.toNat_inj.1 (by omega),λe=>by rw[e]⟩
def oddB(b:UInt8):Bool:=(b==32)||((b==9)||(b==39))
theorem odd_in(b:UInt8):([32,9,39]:Str).contains b=oddB b:=by
 simp only[oddB,List.contains_cons,List.contains_nil,Bool.or_false]
theorem bD_{α:Type}{l:List α}{i:Nat}(h:i<l.length):l.take (i+1)=l.take i++[l[i]]:=by
 rw[List.take_succ_eq_append_getElem h]
theorem refQuote_eq{s:Str}(hs:s.length<=1000000000):ib_ s=some (is_ s):=by
 unfold ib_;have hl:=bB_ (body:=eo_ s) (λi=>(dbl (s.take i),((s==[])||(s.take i).any oddB),(i:Int))) s.length (az_ (by omega)) (λi hi=>by
  have hdl:=jd_ (s.take i);rw[List.length_take]at hdl;unfold eo_;simp only[];rw[aY_ hi,cond_true,cs_ hi,ai_ (by omega),cQ_ (by omega) (by omega) (by omega)];simp only[qBs,Int.toNat_natCast];have e1:(s.take (i+1)).drop i=[s[i]]:=by
   rw[bD_ hi,List.drop_append,List.length_take,show i-min i s.length=0 by omega,List.drop_eq_nil_of_le (by rw[List.length_take];omega)];rfl
  rw[e1,bj_ (by simp only[qLc,List.length_nil];omega)];have k1:((s[i].toNat:Int)==32)=(s[i]==32):=bO_ s[i] 32;have k2:((s[i].toNat:Int)==9)=(s[i]==9):=bO_ s[i] 9;have k3:((s[i].toNat:Int)==39)=(s[i]==39):=bO_ s[i] 39;rw[k1,k2,k3,bD_ hi,nx_,List.any_append];have k4:dbl [s[i]]=if s[i]==39 then[39,39]else[s[i]]:=by unfold dbl;simp
  rw[k4];have k5:([s[i]].any oddB)=oddB s[i]:=by simp
  rw[k5,←Bool.or_assoc];generalize((s==[])||(s.take i).any oddB)=od;unfold oddB;by_cases h39:s[i]=39
  .rw[h39];simp only[beq_self_eq_true,qBs,cond_true,if_true];rw[bj_ (by simp only[qLa,qLc,List.length_nil];omega)];cases od<;>simp
  .rw[show(s[i]==39)=false from beq_eq_false_iff_ne.2 h39];cases od<;>cases(s[i]==32)<;>cases(s[i]==9)<;>rfl) (by
  unfold eo_;simp only[];rw[aV_];rfl)
 have hl':af_ (eo_ s) BIG ([],(s==[]),0)=some (dbl s,((s==[])||s.any oddB)):=by
  have h0:(s==[]||(s.take 0).any oddB)=(s==[]):=by simp
  simp only[List.take_length]at hl;rw[h0]at hl;exact hl
 refine aq_ hl' ?_;have hdl:=jd_ s;unfold is_;have hu:=until_all [32,9,39] s;have ho:(s.any λb=>([32,9,39]:Str).contains b)=s.any oddB:=by congr 1;funext b;exact odd_in b
 rw[ho]at hu;by_cases h0:s=[]
 .subst h0;rfl
 .rw[show(s==[])=false from beq_eq_false_iff_ne.2 h0];cases hc:s.any oddB with
  | false =>
   rw[if_pos ⟨h0,hu.2 hc⟩];rfl
  | true =>
   rw[if_neg λh=>by rw[hu.1 h.2]at hc;cases hc];simp only[Bool.or_true,cond_true];rw[bj_ (by simp only[qLc,List.length_nil];omega)];simp only[qBs];rw[bj_ (by simp only[qLa,qLc,List.length_nil];omega)];simp
def b8_(sep:Str):List Str->Str | []=>[] | [x]=>x|x::y::l=>x++(sep++b8_ sep (y::l))
theorem jX_(sep x:Str):∀(l:List Str),l≠[]->b8_ sep (l++[x])=b8_ sep l++(sep++x)
 | [],h=>absurd rfl h
 | [y],_=>rfl
 | y::z::l,_=>by
  have ih:=jX_ sep x (z::l) (by simp);simp only[List.cons_append,b8_]at ih ⊢;rw[ih];simp[List.append_assoc]
theorem jB_(sep:Str):∀(l:List Str),(b8_ sep l).length=l.flatten.length+sep.length*(l.length-1)
 | []=>rfl
 | [x]=>by simp[b8_]
 | x::y::l=>by
  have ih:=jB_ sep (y::l);simp only[b8_,qLa,List.flatten_cons,qLc]at ih ⊢;rw[ih];have:sep.length*(l.length+1+1-1)=sep.length+sep.length*(l.length+1-1):=by
   rw[show l.length+1+1-1=(l.length+1-1)+1 by omega,Nat.mul_succ];omega
  rw[this];omega
theorem mY_{l:List Str}{i:Nat}(h:i<l.length):(l.take (i+1)).flatten.length=(l.take i).flatten.length+l[i].length:=by
 rw[bD_ h,List.flatten_append,qLa];simp
theorem fl_(l:List Str)(i:Nat):(l.take i).flatten.length<=l.flatten.length:=by
 have h:(l.take i++l.drop i).flatten.length=l.flatten.length:=by rw[List.take_append_drop]
 rw[List.flatten_append,qLa]at h;omega
theorem Join_eq{xs:List Str}{sep:Str}(hsep:0<sep.length)(hb:(b8_ sep xs).length<=1000000000)(hn:xs.length<=1000000)(hsb:sep.length<=1000):strings_Join xs sep=some (b8_ sep xs):=by
 have hjl:=jB_ sep xs;unfold strings_Join;rcases Nat.lt_or_ge xs.length 2 with h2|h2
 .match xs,h2 with
  | [],_=>rfl
  | [x],_=>rfl
 .rw[show((xs.length:Int)==0)=false from beq_eq_false_iff_ne.2 (by omega),cond_false,show((xs.length:Int)==1)=false from beq_eq_false_iff_ne.2 (by omega),cond_false,decide_eq_true (show(sep.length:Int)>0 by omega),cond_true];rw[bb_ (n:=(xs.length:Int)-1) ⟨by omega,by omega⟩];have hq:(9223372036854775807:Int).tdiv ((xs.length:Int)-1)>=1000000000000:=by
   rw[Int.tdiv_eq_ediv_of_nonneg (by omega)];exact Int.le_ediv_of_mul_le (by omega) (by omega)
  have hq2:(9223372036854775807:Int).tdiv ((xs.length:Int)-1)<=9223372036854775807:=by
   rw[Int.tdiv_eq_ediv_of_nonneg (by omega)];exact Int.ediv_le_self _ (by omega)
  have eq:quoI .i64 9223372036854775807 ((xs.length:Int)-1)=some ((9223372036854775807:Int).tdiv ((xs.length:Int)-1)):=by
   unfold quoI;rw[if_neg (by omega),wi64_eq ⟨by omega,by omega⟩]
  rw[eq];simp only[qBs];rw[decide_eq_false (show ¬(sep.length:Int)>=(9223372036854775807:Int).tdiv ((xs.length:Int)-1)by omega),cond_false];simp only[qBs];have hm:(sep.length:Int)*((xs.length:Int)-1)=((sep.length*(xs.length-1):Nat):Int):=by
   rw[Int.natCast_mul];congr 1;omega
  have ebase:w64 (0+w64 ((sep.length:Int)*((xs.length:Int)-1)))=((sep.length*(xs.length-1):Nat):Int):=by
   rw[hm,bb_ (n:=((sep.length*(xs.length-1):Nat):Int)) ⟨by omega,by omega⟩,Int.zero_add,bb_ ⟨by omega,by omega⟩]
  rw[ebase];have hl1:=bB_ (body:=dO_ xs) (λi=>(((sep.length*(xs.length-1)+(xs.take i).flatten.length:Nat):Int),(i:Int))) xs.length (az_ (by omega)) (λi hi=>by
   have f1:=mY_ hi;have f2:=fl_ xs i;have f3:=fl_ xs (i+1);unfold dO_;simp only[];rw[aY_ hi,cond_true,al_ hi];simp only[qBs];rw[bb_ (n:=9223372036854775807-_) ⟨by omega,by omega⟩,decide_eq_false (by omega),cond_false];simp only[qBs];rw[bb_ (n:=_+(xs[i].length:Int)) ⟨by omega,by omega⟩,ai_ (by omega),f1]
   congr 4
   omega) (by
   unfold dO_;simp only[];rw[aV_];rfl)
  have hl1':af_ (dO_ xs) BIG (((sep.length*(xs.length-1):Nat):Int),0)=some (((sep.length*(xs.length-1)+xs.flatten.length:Nat):Int)):=by
   simp only[List.take_length]at hl1;exact hl1
  rw[hl1'];simp only[qBs];have eg:growB ([]:List Int) ((sep.length*(xs.length-1)+xs.flatten.length:Nat):Int)=some []:=by
   unfold growB;rw[decide_eq_true (by omega),decide_eq_true (by omega)];rfl
  rw[eg];simp only[qBs];have h0:ag_ xs 0=some xs[0]:=al_ (xs:=xs) (i:=0) (by omega);have hle0:xs[0].length<=xs.flatten.length:=by
   have:=mY_ (l:=xs) (i:=0) (by omega);have:=fl_ xs (0+1);omega
  rw[h0];simp only[qBs];rw[bv_ (by rw[ay_];simp only[List.length_nil];omega) (by rw[ay_];simp only[List.length_nil];omega)];simp only[qBs,List.nil_append];rw[cQ_ (by omega) (by omega) (Int.le_refl _)];simp only[qBs,Int.toNat_natCast,List.take_length];have hdl:(xs.drop (1:Int).toNat).length=xs.length-1:=by rw[List.length_drop];rfl
  have hl2:=bB_ (body:=dP_ (xs.drop (1:Int).toNat) sep) (λi=>((i:Int),aG_ (b8_ sep (xs.take (i+1))))) (xs.length-1) (az_ (by omega)) (λi hi=>by
   have hi1:i+1<xs.length:=by omega
   have hlt:i<(xs.drop (1:Int).toNat).length:=by omega
   have f1:=mY_ hi1;have f2:=fl_ xs (i+1);have f3:=fl_ xs (i+1+1);have j1:=jB_ sep (xs.take (i+1));have hne:xs.take (i+1)≠[]:=λe=>by
    have:=congrArg List.length e;rw[List.length_take,List.length_nil]at this;omega
   have js:=jX_ sep xs[i+1] (xs.take (i+1)) hne;rw[←bD_ hi1]at js;have hml:sep.length*((xs.take (i+1)).length-1)<=sep.length*(xs.length-1):=Nat.mul_le_mul_left _ (by rw[List.length_take];omega);unfold dP_;simp only[];rw[aY_ hlt,cond_true,al_ hlt];simp only[qBs];rw[bv_ (by rw[ay_,ay_];omega) (by rw[ay_,ay_];omega)];simp only[qBs];have e5:(xs.drop (1:Int).toNat)[i]=xs[i+1]:=by
    rw[List.getElem_drop]
    congr 1
    show 1+i=i+1;omega
   rw[e5,bv_ (by rw[qLa,ay_,ay_,ay_];omega) (by rw[qLa,ay_,ay_,ay_];omega)];simp only[qBs];rw[ai_ (by omega),js,gL_,gL_,List.append_assoc]) (by
   unfold dP_;simp only[];rw[hdl,aV_];rfl)
  have hl2':af_ (dP_ (xs.drop (1:Int).toNat) sep) BIG (0,aG_ xs[0])=some (aG_ (b8_ sep (xs.take (xs.length-1+1)))):=by
   have e6:b8_ sep (xs.take (0+1))=xs[0]:=by
    rw[bD_ (show 0<xs.length by omega)];rfl
   simp only[e6]at hl2;exact hl2
  rw[hl2'];simp only[qBs];rw[gb_,show xs.length-1+1=xs.length by omega,List.take_length]
def eB_(a:Xk):Str:=if a.Xo then a.Xy++[63]else a.Xy++(61::is_ a.Xp)
def kN_(l:List Xk):Str:=b8_ [32] (l.map eB_)
theorem lE_(s:Str):(is_ s).length<=2*s.length+2:=by
 unfold is_;have:=jd_ s;split
 .omega
 .simp only[qLc,qLa,List.length_nil];omega
theorem gc_{l:List Xk}{a:Xk}(h:dW_ l a=0):l.length<32/\gv_ a.Xy=true/\(a.Xo=true->a.Xp=[])/\ax_ [0,10,13] a.Xp=a.Xp.length/\a.Xp.length<=1024/\(l.any λb=>b.Xy==a.Xy)=false:=by
 unfold dW_ at h;split at h
 .cases h
 .rename_i h1;split at h
  .cases h
  .rename_i h2;split at h
   .cases h
   .rename_i h3;split at h
    .cases h
    .rename_i h4;split at h
     .cases h
     .rename_i h5;split at h
      .cases h
      .rename_i h6;have:=untilN_le [0,10,13] a.Xp;refine⟨by omega,by simpa using h2,λhq => ?_,by omega,by omega,by simpa using h6⟩;rw[hq]at h3;simpa using h3
theorem ry_{l:List Xk}:bw_ l=0↔∀i (h:i<l.length),dW_ (l.take i) l[i]=0:=by
 unfold bw_;constructor
 .intro h i hi;cases hs:aP_ (ga_ l) 0 l with
  | none =>
   have:=scan_none.1 hs i l[i] (List.getElem?_eq_getElem hi);rw[Nat.zero_add]at this;unfold ga_ at this;split at this
   .rename_i h0;exact h0
   .cases this
  | some r =>
   rw[hs]at h;obtain⟨j,x,h1,h2,_⟩:=fk_ hs;unfold ga_ at h2;split at h2
   .cases h2
   .rename_i h0;have e:=qSj h2;rw[Option.getD_some]at h;omega
 .intro h;have:aP_ (ga_ l) 0 l=none:=scan_none.2 λi x hx=>by
   obtain⟨hi,rfl⟩:=List.getElem?_eq_some_iff.1 hx;unfold ga_;rw[Nat.zero_add,if_pos (h i hi)]
  rw[this];rfl
theorem mZ_{s:Str}(h:gv_ s=true):s.length<=33:=by
 unfold gv_ at h;simp only[qAn,qDe]at h;have h2:=h.2.1;unfold trimB at h2;split at h2
 .rw[List.length_drop]at h2;omega
 .omega
structure AttrOK(l:List Xk):Prop where
 len:l.length<=32
 nm:∀a∈l,gv_ a.Xy=true
 qv:∀a∈l,a.Xo=true->a.Xp=[]
 pl:∀a∈l,ax_ [0,10,13] a.Xp=a.Xp.length
 vl:∀a∈l,a.Xp.length<=1024
theorem jY_{l:List Xk}(h:bw_ l=0):AttrOK l:=by
 rw[ry_]at h;have key:∀a∈l,∃m,dW_ m a=0:=λa ha=>by
  obtain⟨i,hi,rfl⟩:=List.getElem_of_mem ha;exact⟨_,h i hi⟩
 refine⟨?_,λa ha => ?_,λa ha => ?_,λa ha => ?_,λa ha => ?_⟩
 .rcases Nat.lt_or_ge 32 l.length with h1|h1
  .have:=(gc_ (h 32 h1)).1;rw[List.length_take]at this;omega
  .exact h1
 .obtain⟨m,hm⟩:=key a ha;exact(gc_ hm).2.1
 .obtain⟨m,hm⟩:=key a ha;exact(gc_ hm).2.2.1
 .obtain⟨m,hm⟩:=key a ha;exact(gc_ hm).2.2.2.1
 .obtain⟨m,hm⟩:=key a ha;exact(gc_ hm).2.2.2.2.1
theorem wordA_len{a:Xk}(h1:gv_ a.Xy=true)(h2:a.Xp.length<=1024):(eB_ a).length<=2100:=by
 have h3:=mZ_ h1;have h4:=lE_ a.Xp;unfold eB_;split
 .simp only[qLa,qLc,List.length_nil];omega
 .simp only[qLa,qLc];omega
theorem m0_:∀{l:List Xk},(∀a∈l,(eB_ a).length<=2100)->(b8_ [32] (l.map eB_)).length<=2101*l.length
 | [],_=>by simp[b8_]
 | [a],h=>by
  have:=h a (by simp);simp only[List.map_cons,List.map_nil,b8_,qLc,List.length_nil];omega
 | a::b::l,h=>by
  have h1:=h a (by simp);have ih:=m0_ (l:=b::l) λx hx=>h x (List.mem_cons_of_mem _ hx)
  simp only[List.map_cons,b8_,qLa,qLc,List.length_nil]at ih ⊢;omega
theorem AttrOK.word{l:List Xk}(h:AttrOK l):∀a∈l,(eB_ a).length<=2100:=λa ha=>wordA_len (h.nm a ha) (h.vl a ha)
theorem AttrOK.take{l:List Xk}(h:AttrOK l)(i:Nat):AttrOK (l.take i):=by
 have hm:∀a∈l.take i,a∈l:=λa ha=>List.mem_of_mem_take ha
 exact⟨by rw[List.length_take];have:=h.len;omega,λa ha=>h.nm a (hm a ha),λa ha=>h.qv a (hm a ha),λa ha=>h.pl a (hm a ha),λa ha=>h.vl a (hm a ha)⟩
theorem lF_{l:List Xk}(h:AttrOK l):(kN_ l).length<=67232:=by
 have h1:=m0_ h.word;have h2:=h.len;unfold kN_;omega
theorem attrPrint_eq{l:List Xk}(h:AttrL l):iW_ l=some (if bw_ l=0 then(kN_ l,0)else([],bw_ l)):=by
 unfold iW_;rw[mV_ h];simp only[qBs];by_cases h0:bw_ l=0
 .have hk:=jY_ h0;have hlen:=hk.len;rw[if_pos h0,h0];simp only[bne_self_eq_false,cond_false];rw[makeI_eq (by omega) (by omega) (by omega)];simp only[qBs];have hl:=bB_ (body:=eI_ l) (λi=>((i:Int),(l.take i).map eB_)) l.length (az_ (by omega)) (λi hi=>by
   have hm:=List.getElem_mem hi;have hnl:=mZ_ (hk.nm _ hm);have hvl:=hk.vl _ hm;have hql:=lE_ l[i].Xp;unfold eI_;simp only[];rw[aY_ hi,cond_true,al_ hi];simp only[qBs];rw[bD_ hi,List.map_append,List.map_cons,List.map_nil];have hwd:eB_ l[i]=if l[i].Xo then l[i].Xy++[63]else l[i].Xy++(61::is_ l[i].Xp):=rfl
   rw[hwd];cases l[i].Xo with
   | true =>
    rw[cond_true,bj_ (by simp only[qLc,List.length_nil];omega)];simp only[qBs];rw[bv_ (by rw[List.length_map,List.length_take];simp only[qLc,List.length_nil];omega) (by rw[List.length_map,List.length_take];simp only[qLc,List.length_nil];omega),ai_ (by omega)];rfl
   | false =>
    rw[cond_false,bj_ (by simp only[qLc,List.length_nil];omega)];simp only[qBs];rw[quote_eq (by omega)];simp only[qBs];rw[bj_ (by simp only[qLa,qLc,List.length_nil];omega)];simp only[qBs];rw[bv_ (by rw[List.length_map,List.length_take];simp only[qLc,List.length_nil];omega) (by rw[List.length_map,List.length_take];simp only[qLc,List.length_nil];omega),ai_ (by omega)];simp) (by
   unfold eI_;simp only[];rw[aV_];rfl)
  have hl':af_ (eI_ l) BIG (0,[])=some (l.map eB_):=by
   simp only[List.take_length]at hl;exact hl
  rw[hl'];simp only[qBs];have hpl:=lF_ hk;rw[Join_eq (by simp) (by unfold kN_ at hpl;omega) (by rw[List.length_map];omega) (by simp)];rfl
 .rw[if_neg h0,show(bw_ l != 0)=true from bne_iff_ne.2 h0];rfl
theorem refPrint_eq{l:List Xk}(h:AttrL l):ic_ l=some (if bw_ l=0 then(kN_ l,0)else([],bw_ l)):=by
 unfold ic_;rw[nV_ h];simp only[qBs];by_cases h0:bw_ l=0
 .have hk:=jY_ h0;have hlen:=hk.len;rw[if_pos h0,h0];simp only[bne_self_eq_false,cond_false];have hl:=bB_ (body:=ep_ l) (λi=>(b8_ [32] ((l.take i).map eB_),(i:Int))) l.length (az_ (by omega)) (λi hi=>by
   have hm:=List.getElem_mem hi;have hnl:=mZ_ (hk.nm _ hm);have hvl:=hk.vl _ hm;have hql:=lE_ l[i].Xp;have hj:=m0_ (l:=l.take i) (hk.take i).word;rw[List.length_take]at hj;have hsep:∃o3,(bif decide ((i:Int)>0)then(cat (b8_ [32] ((l.take i).map eB_)) [32]).bind λy13=>some y13 else some (b8_ [32] ((l.take i).map eB_)))=some o3/\o3.length<=70000/\∀w,b8_ [32] ((l.take i).map eB_++[w])=o3++w:=by
    cases i with
    | zero=>exact⟨[],rfl,by simp,λw=>rfl⟩
    | succ i =>
     rw[decide_eq_true (show((i+1:Nat):Int)>0 by omega),cond_true,bj_ (by simp only[qLc,List.length_nil];omega)];refine⟨_,rfl,by simp only[qLa,qLc,List.length_nil];omega,λw => ?_⟩;rw[jX_ _ _ _ (λe=>by
      have:=congrArg List.length e;rw[List.length_map,List.length_take,List.length_nil]at this;omega),List.append_assoc]
   obtain⟨o3,ho,hol,hw⟩:=hsep;unfold ep_;simp only[];rw[aY_ hi,cond_true,al_ hi,ho];simp only[qBs];rw[bD_ hi,List.map_append,List.map_cons,List.map_nil,hw];unfold eB_;cases l[i].Xo with
   | true =>
    rw[cond_true,bj_ (by omega)];simp only[qBs];rw[bj_ (by simp only[qLa,qLc,List.length_nil];omega),ai_ (by omega)];simp
   | false =>
    rw[cond_false,bj_ (by omega)];simp only[qBs];rw[bj_ (by simp only[qLa,qLc,List.length_nil];omega)];simp only[qBs];rw[refQuote_eq (by omega)];simp only[qBs];rw[bj_ (by simp only[qLa,qLc,List.length_nil];omega),ai_ (by omega)];simp) (by
   unfold ep_;simp only[];rw[aV_];rfl)
  have hl':af_ (ep_ l) BIG ([],0)=some (b8_ [32] (l.map eB_)):=by
   simp only[List.take_length]at hl;exact hl
  rw[hl'];rfl
 .rw[if_neg h0,show(bw_ l != 0)=true from bne_iff_ne.2 h0];rfl
theorem pF_{σ β:Type}{body:σ->Option (Step σ β)}{b:β}:∀{n m:Nat} {s:σ},af_ body n s=some b->n<=m->af_ body m s=some b
 | 0,_,_,h,_=>by cases h
 | n+1,0,_,_,hm=>by omega
 | n+1,m+1,s,h,hm=>by
  simp only[af_]at h ⊢;cases hb:body s with
  | none=>rw[hb]at h;cases h
  | some x =>
   rw[hb]at h;cases x with
   | done b'=>exact h
   | next s'=>exact pF_ (n:=n) (m:=m) (s:=s') h (by omega)
theorem text_eq{n:Int}(h0:0<=n)(h1:n<=9223372036854775807):ls_ n 10=some (digF 20 n.toNat):=by
 unfold ls_;exact aq_ (a:=true) rfl (cond_f rfl (aq_ (by unfold c0_;rw[if_pos ⟨rfl,h0,h1⟩]) rfl))
theorem pG_(u:Nat)(s:Str)(hu:u<=9223372036854775807)(hs:s.length<=1000)(hc:(decide (-(u:Int)<0)||(s==[]))=true):cO_ 10 (-(u:Int),s)=some (.next (-((u/10:Nat):Int),UInt8.ofNat (48+u%10)::s)):=by
 unfold cO_;have hd:u%10<10:=Nat.mod_lt _ (by omega);have e1:remI (-(u:Int)) 10=some (-((u%10:Nat):Int)):=by
  unfold remI;rw[if_neg (by decide),Int.neg_tmod,Int.tmod_eq_emod_of_nonneg (by omega)];rfl
 have e2:quoI .i64 (-(u:Int)) 10=some (-((u/10:Nat):Int)):=by
  unfold quoI;rw[if_neg (by decide),Int.neg_tdiv,Int.tdiv_eq_ediv_of_nonneg (by omega),wi64_eq ⟨by omega,by omega⟩];rfl
 refine cond_t hc (aq_ e1 (aq_ (a:=[UInt8.ofNat (48+u%10)]) ?_ (aq_ (a:=UInt8.ofNat (48+u%10)::s) ?_ (aq_ e2 rfl))))
 .generalize u%10=d at hd;have h:d=0\/d=1\/d=2\/d=3\/d=4\/d=5\/d=6\/d=7\/d=8\/d=9:=by omega
  rcases h with rfl|rfl|rfl|rfl|rfl|rfl|rfl|rfl|rfl|rfl<;>rfl
 .rw[bj_ (by simp;omega)];rfl
theorem m1_(f u:Nat):digF (f+1) u=if u<10 then[UInt8.ofNat (48+u)]else digF f (u/10)++[UInt8.ofNat (48+u%10)]:=rfl
theorem nW_:∀(f u:Nat) (s:Str),u<10^f->u<=9223372036854775807->s≠[]->s.length+f<=1000->af_ (cO_ 10) (f+1) (-(u:Int),s)=some ((if u=0 then[]else digF f u)++s)
 | 0,u,s,h,_,hs,_=>by
  have:u=0:=by simpa using h
  subst this;refine bo_ ?_;unfold cO_;refine cond_f ?_ rfl;cases s with
  | nil=>exact absurd rfl hs
  | cons a l=>rfl
 | f+1,u,s,h,hu,hs,hl=>by
  by_cases h0:u=0
  .subst h0;rw[if_pos rfl];refine bo_ ?_;unfold cO_;refine cond_f ?_ rfl;cases s with
   | nil=>exact absurd rfl hs
   | cons a l=>rfl
  .rw[if_neg h0];have hc:(decide (-(u:Int)<0)||(s==[]))=true:=by
    have:decide (-(u:Int)<0)=true:=by simp;omega
    rw[this];rfl
   refine b7_ (pG_ u s hu (by omega) hc) ((nW_ f (u/10) (UInt8.ofNat (48+u%10)::s) (by rw[Nat.pow_succ]at h;omega) (by omega) (by simp) (by simp;omega)).trans ?_);rw[m1_ f u];by_cases h1:u<10
   .rw[if_pos h1,if_pos (by omega),Nat.mod_eq_of_lt h1];rfl
   .rw[if_neg h1,if_neg (by omega)];simp
theorem ref_text_eq{n:Int}(h0:0<=n)(h1:n<=9223372036854775807):i1_ n 10=some (digF 20 n.toNat):=by
 obtain⟨u,rfl⟩:∃u:Nat,n=(u:Int):=⟨n.toNat,by omega⟩;rw[Int.toNat_natCast];unfold i1_ hi_;refine aq_ (a:=true) rfl (cond_f rfl (cond_f (by simp) ?_));rw[bb_ ⟨by omega,by omega⟩,Int.zero_sub];have hstep:=pG_ u [] (by omega) (by simp) (by simp);have hrest:=nW_ 19 (u/10) [UInt8.ofNat (48+u%10)] (by omega) (by omega) (by simp) (by simp);have h:=pF_ (b7_ hstep hrest) (show 19+1+1<=BIG by decide);refine aq_ (aq_ h rfl) (congrArg some ?_);rw[show digF 20 u=_ from m1_ 19 u];by_cases h2:u<10
 .rw[if_pos h2,if_pos (by omega),Nat.mod_eq_of_lt h2];rfl
 .rw[if_neg h2,if_neg (by omega)]
theorem or_:∀(f u:Nat),(digF f u).length<=f
 | 0,_=>Nat.le_refl _
 | f+1,u=>by
  rw[m1_];split
  .simp
  .have:=or_ f (u/10);rw[qLa];simp only[qLc,List.length_nil];omega
def fm_(m:Xw):Str:=b8_ [10] [m.Xu,m.Xa,m.Yz,m.Xd,kN_ m.Xn,digF 20 m.Xt.length,m.Xt]
theorem kg_{m:Xw}(h:ct_ m=0):(∀s∈[m.Xu,m.Xa,m.Yz,m.Xd],s.length<=1024/\s.contains 10=false)/\bw_ m.Xn=0/\m.Xn.any (·.Xo)=false/\m.Xt.length<=65536:=by
 unfold ct_ at h;cases hs:aP_ ie_ 0 [m.Xu,m.Xa,m.Yz,m.Xd]with
 | some r =>
  rw[hs,Option.getD_some]at h;obtain⟨i,x,h1,h2,_⟩:=fk_ hs;unfold ie_ at h2;split at h2
  .cases h2
  .rename_i h0;have:=qSj h2;omega
 | none =>
  rw[hs,Option.getD_none]at h;have key:=scan_none.1 hs;refine⟨λs hm => ?_,?_⟩
  .obtain⟨i,hi⟩:=List.mem_iff_getElem?.1 hm;have h3:=key i s hi;unfold ie_ at h3;split at h3
   .rename_i h4;unfold e7_ at h4;split at h4
    .cases h4
    .split at h4
     .cases h4
     .rename_i h5 h6;exact⟨by omega,by simpa using h6⟩
   .cases h3
  .split at h
   .rename_i h0;refine⟨h0,?_⟩;split at h
    .cases h
    .rename_i h1;split at h
     .cases h
     .rename_i h2;exact⟨by simpa using h1,by omega⟩
   .rename_i h0;exact absurd h h0
theorem printM_len{m:Xw}(h:ct_ m=0):(fm_ m).length<=150000:=by
 obtain⟨h1,h2,_,h4⟩:=kg_ h;have a1:=(h1 m.Xu (by simp)).1;have a2:=(h1 m.Xa (by simp)).1;have a3:=(h1 m.Yz (by simp)).1;have a4:=(h1 m.Xd (by simp)).1;have a5:=lF_ (jY_ h2);have a6:=or_ 20 m.Xt.length;unfold fm_;rw[jB_];simp only[List.flatten_cons,List.flatten_nil,qLa,qLc,List.length_nil];omega
theorem rz_{m:Xw}(h:AttrL m.Xn):di_ m=some (if ct_ m=0 then(fm_ m,0)else([],ct_ m)):=by
 unfold di_;rw[rw_ h];simp only[qBs];by_cases h0:ct_ m=0
 .have h1:=kg_ h0;rw[if_pos h0,h0];simp only[bne_self_eq_false,cond_false];rw[attrPrint_eq h,if_pos h1.2.1];simp only[qBs,bne_self_eq_false,cond_false];rw[text_eq (by omega) (by have:=h1.2.2.2;omega)];simp only[qBs,Int.toNat_natCast];have hl:=printM_len h0;unfold fm_ at hl;rw[Join_eq (by simp) (by omega) (by simp) (by simp)];rfl
 .rw[if_neg h0,show(ct_ m != 0)=true from bne_iff_ne.2 h0];rfl
theorem os_{m:Xw}(h:AttrL m.Xn):id_ m=some (if ct_ m=0 then(fm_ m,0)else([],ct_ m)):=by
 unfold id_;rw[oq_ h];simp only[qBs];by_cases h0:ct_ m=0
 .have h1:=kg_ h0;rw[if_pos h0,h0];simp only[bne_self_eq_false,cond_false];rw[refPrint_eq h,if_pos h1.2.1];have a1:=(h1.1 m.Xu (by simp)).1;have a2:=(h1.1 m.Xa (by simp)).1;have a3:=(h1.1 m.Yz (by simp)).1;have a4:=(h1.1 m.Xd (by simp)).1;have a5:=lF_ (jY_ h1.2.1);have a6:=or_ 20 m.Xt.length;have a7:=h1.2.2.2;have ht:=ref_text_eq (n:=(m.Xt.length:Int)) (by omega) (by omega);rw[Int.toNat_natCast]at ht;rw[ht];simp only[qBs]
  repeat (rw[bj_ (by simp only[qLa,qLc,List.length_nil];omega)];simp only[qBs])
  unfold fm_;simp[b8_]
 .rw[if_neg h0,show(ct_ m != 0)=true from bne_iff_ne.2 h0];rfl
theorem qu_{l:List Xk}(hl:l.length<=9223372036854775807):e4_ l l=some true:=by
 unfold e4_;rw[show((l.length:Int) != (l.length:Int))=false from bne_self_eq_false _,cond_false];have hs:=bC_ (body:=dS_ l l) l (λ_ _=>(none:Option Bool)) (az_ hl) (λi hi=>by
  unfold dS_;rw[aY_ hi,cond_true,al_ hi];simp only[qBs];rw[decide_eq_true trivial,Bool.not_true,cond_false,ai_ (by omega)];rfl) (by
  unfold dS_;rw[aV_];rfl)
 have hn:aP_ (λ_ _=>(none:Option Bool)) 0 l=none:=scan_none.2 λ_ _ _=>rfl
 rw[hn]at hs;exact aq_ hs rfl
theorem same_refl{m:Xw}(hl:m.Xn.length<=9223372036854775807):iX_ m m=some true:=by
 unfold iX_;rw[beq_self_eq_true,beq_self_eq_true,beq_self_eq_true,beq_self_eq_true,beq_self_eq_true];simp only[Bool.and_self,cond_true];rw[qu_ hl];rfl
inductive CR|err (p:Nat)|ok (b:UInt8) (q:Nat)
inductive PR2|err (p:Nat)|ok (a b:UInt8) (q:Nat)
inductive SR|err (p:Nat)|ok (set:Str) (q:Nat)
def escB(d:UInt8):UInt8:=if d=110 then 10 else if d=116 then 9 else d
def escS(s:Str)(i:Nat):CR:=match s[i+1]? with|none => .err (i+1)|some d => .ok (escB d) (i+2)
def chS(s:Str)(i:Nat):CR:=match s[i]? with|none => .err i|some c=>if c=93\/c=45 then .err i else if c=92 then escS s i else .ok c (i+1)
def eC_(s:Str)(i:Nat):PR2:=match chS s i with
 | .err e => .err e
 | .ok a p=>if s[p]? = some 45 then(match chS s (p+1)with
   | .err e => .err e
   | .ok b q=>if b.toNat<a.toNat then .err (q-1)else .ok a b q)
  else .ok a a p
inductive Cx(s:Str):Nat->Str->SR->Prop
 | done {i set} (h0:set≠[]) (h:s[i]? = some 93):Cx s i set (.ok set (i+1))
 | err {i set e} (h0:¬(set≠[]/\s[i]? = some 93)) (h:eC_ s i = .err e):Cx s i set (.err e)
 | next {i set a b q r} (h0:¬(set≠[]/\s[i]? = some 93)) (h:eC_ s i = .ok a b q) (t:Cx s q (set++[a,b]) r):Cx s i set r
theorem av_{s:Str}{i:Nat}{c:UInt8}(h:s[i]? = some c):i<s.length:=by
 rcases Nat.lt_or_ge i s.length with h1|h1
 .exact h1
 .rw[List.getElem?_eq_none h1]at h;cases h
theorem escS_len{s:Str}{i:Nat}{b:UInt8}{q:Nat}(h:escS s i = .ok b q):i<q/\q<=s.length:=by
 unfold escS at h;split at h
 .cases h
 .rename_i d hd;have:=av_ hd;injection h with _ h;omega
theorem escS_err{s:Str}{i e:Nat}(hi:i<s.length)(h:escS s i = .err e):e<=s.length:=by
 unfold escS at h;split at h
 .injection h;omega
 .cases h
theorem gX_{s:Str}{i:Nat}{b:UInt8}{q:Nat}(h:chS s i = .ok b q):i<q/\q<=s.length:=by
 unfold chS at h;split at h
 .cases h
 .rename_i c hc;have:=av_ hc;split at h
  .cases h
  .split at h
   .exact escS_len h
   .injection h with _ h;omega
theorem chS_err{s:Str}{i e:Nat}(hi:i<=s.length)(h:chS s i = .err e):e<=s.length:=by
 unfold chS at h;split at h
 .injection h;omega
 .rename_i c hc;have:=av_ hc;split at h
  .injection h;omega
  .split at h
   .exact escS_err (by omega) h
   .cases h
theorem jZ_{s:Str}{i:Nat}{a b:UInt8}{q:Nat}(h:eC_ s i = .ok a b q):i<q/\q<=s.length:=by
 unfold eC_ at h;split at h
 .cases h
 .rename_i a p h1;have:=gX_ h1;split at h
  .split at h
   .cases h
   .rename_i b q h2;have:=gX_ h2;split at h
    .cases h
    .injection h with _ _ h;omega
  .injection h with _ _ h;omega
theorem pairS_err{s:Str}{i e:Nat}(hi:i<=s.length)(h:eC_ s i = .err e):e<=s.length:=by
 unfold eC_ at h;split at h
 .rename_i h1;injection h with h;have:=chS_err hi h1;omega
 .rename_i a p h1;have:=gX_ h1;split at h
  .rename_i h45;have:=av_ h45;split at h
   .rename_i h2;injection h with h;have:=chS_err (by omega) h2;omega
   .rename_i b q h2;have:=gX_ h2;split at h
    .injection h;omega
    .cases h
  .cases h
theorem Cx.ex{s:Str}:∀(k i:Nat) (set:Str),s.length-i<=k->i<=s.length->∃r,Cx s i set r:=by
 intro k
 induction k with
 | zero =>
  intro i set hk hi;have hn:s[i]? = none:=List.getElem?_eq_none (by omega);refine⟨_,.err (e:=i) (λh=>by rw[hn]at h;cases h.2) ?_⟩;unfold eC_ chS;rw[hn]
 | succ k ih =>
  intro i set hk hi;by_cases h0:set≠[]/\s[i]? = some 93
  .exact⟨_,.done h0.1 h0.2⟩
  .cases hp:eC_ s i with
   | err e=>exact⟨_,.err h0 hp⟩
   | ok a b q =>
    have:=jZ_ hp;obtain⟨r,hr⟩:=ih q (set++[a,b]) (by omega) (by omega);exact⟨r,.next h0 hp hr⟩
theorem Cx.len{s:Str}{i:Nat}{set:Str}{r:SR}(h:Cx s i set r):(∀e,r = .err e->i<=s.length->e<=s.length)/\∀x q,r = .ok x q->i<q/\q<=s.length/\x.length+2*(s.length-q)<=set.length+2*(s.length-i):=by
 induction h with
 | done h0 h =>
  refine⟨λe he=>(by cases he),λx q he => ?_⟩;injection he with h1 h2;subst h1;subst h2;have:=av_ h;omega
 | err h0 h =>
  refine⟨λe' he hi => ?_,λx q he=>(by cases he)⟩;injection he with he;have:=pairS_err hi h;omega
 | next h0 h t ih =>
  have hq:=jZ_ h;refine⟨λe he hi=>ih.1 e he (by omega),λx q' he => ?_⟩;obtain⟨k1,k2,k5⟩:=ih.2 x q' he;simp only[qLa,qLc,List.length_nil]at k5;omega
def ps(s:Str)(i g:Nat)(C:List Xz)(bad:Int):regex_parser:=regex_parser.mk s (i:Int) (g:Int) C bad
theorem bL_{s:Str}{i g:Nat}{C:List Xz}{bad:Int}{c:UInt8}(h:s[i]? = some c):bi_ (ps s i g C bad)=some ((c.toNat:Int),true,ps s i g C bad):=by
 have hi:=av_ h;unfold bi_ ps;simp only[];rw[decide_eq_false (by omega),cond_false,cs_ hi];simp only[qBs];rw[List.getElem?_eq_getElem hi]at h;rw[qSj h]
theorem j0_{s:Str}{i g:Nat}{C:List Xz}{bad:Int}(h:s[i]? = none):bi_ (ps s i g C bad)=some (0,false,ps s i g C bad):=by
 unfold bi_ ps;simp only[];rw[decide_eq_true (by have:=List.getElem?_eq_none_iff.1 h;omega)];rfl
theorem hS_{s:Str}{i g:Nat}{C:List Xz}{bad:Int}(hs:s.length<=1000){c:UInt8}{k:Int}(hk:k=(c.toNat:Int)):aE_ (ps s i g C bad) k=some (if s[i]? = some c then(true,ps s (i+1) g C bad)else(false,ps s i g C bad)):=by
 subst hk;unfold aE_;cases h:s[i]? with
 | none =>
  rw[j0_ h];simp
 | some d =>
  have hi:=av_ h;rw[bL_ h];simp only[qBs,Bool.not_true,Bool.false_or];by_cases hd:d=c
  .subst hd;rw[bne_self_eq_false,cond_false,if_pos rfl];unfold ps;simp only[];rw[ai_ (by omega)]
  .rw[show((d.toNat:Int) != (c.toNat:Int))=true from bne_iff_ne.2 λe=>hd (UInt8.toNat_inj.1 (by omega)),cond_true,if_neg λe=>hd (qSj e)]
theorem pH_{s:Str}{i g:Nat}{C:List Xz}{bad:Int}(hs:s.length<=1000)(hi:i<s.length):cq_ (ps s i g C bad)=some (match escS s i with
  | .err e=>(0,false,ps s e g C (e:Int))
  | .ok b q=>((b.toNat:Int),true,ps s q g C bad)):=by
 unfold cq_ escS;have e1:regex_parser.mk (ps s i g C bad).s_ (w64 ((ps s i g C bad).at_+1)) (ps s i g C bad).groups_ (ps s i g C bad).code_ (ps s i g C bad).bad_=ps s (i+1) g C bad:=by
  unfold ps;simp only[];rw[ai_ (by omega)]
 rw[e1];cases h:s[i+1]? with
 | none =>
  rw[j0_ h];rfl
 | some d =>
  have hlt:=av_ h;rw[bL_ h];simp only[qBs,Bool.not_true,cond_false];have k1:((d.toNat:Int)==110)=(d==110):=bO_ d 110;have k2:((d.toNat:Int)==116)=(d==116):=bO_ d 116;have e2:regex_parser.mk (ps s (i+1) g C bad).s_ (w64 ((ps s (i+1) g C bad).at_+1)) (ps s (i+1) g C bad).groups_ (ps s (i+1) g C bad).code_ (ps s (i+1) g C bad).bad_=ps s (i+2) g C bad:=by
   unfold ps;simp only[];rw[ai_ (by omega)]
  rw[k1,k2,e2];unfold escB;by_cases h1:d=110
  .subst h1;rfl
  .rw[beq_eq_false_iff_ne.2 h1,if_neg h1,cond_false];by_cases h2:d=116
   .subst h2;rfl
   .rw[beq_eq_false_iff_ne.2 h2,if_neg h2,cond_false]
theorem ny_{s:Str}{i g:Nat}{C:List Xz}{bad:Int}(hs:s.length<=1000):b1_ (ps s i g C bad)=some (match chS s i with
  | .err e=>(0,false,ps s e g C (e:Int))
  | .ok b q=>((b.toNat:Int),true,ps s q g C bad)):=by
 unfold b1_ chS;cases h:s[i]? with
 | none =>
  rw[j0_ h];rfl
 | some d =>
  have hlt:=av_ h;rw[bL_ h];simp only[qBs,Bool.not_true,Bool.false_or];have k1:((d.toNat:Int)==93)=(d==93):=bO_ d 93;have k2:((d.toNat:Int)==45)=(d==45):=bO_ d 45;have k3:((d.toNat:Int)==92)=(d==92):=bO_ d 92;rw[k1,k2,k3];by_cases h1:d=93\/d=45
  .rw[if_pos h1,show((d==93)||(d==45))=true by rcases h1 with rfl|rfl<;>rfl];rfl
  .rw[if_neg h1,show((d==93)||(d==45))=false by
    rw[Bool.or_eq_false_iff,beq_eq_false_iff_ne,beq_eq_false_iff_ne];exact⟨λe=>h1 (.inl e),λe=>h1 (.inr e)⟩,cond_false]
   by_cases h2:d=92
   .subst h2;rw[if_pos rfl,beq_self_eq_true,cond_true,pH_ hs hlt];cases escS s i<;>rfl
   .rw[if_neg h2,beq_eq_false_iff_ne.2 h2,cond_false];unfold ps;simp only[];rw[ai_ (by omega)]
def setI(set:Str)(n:Bool):Xz:=Xz.mk 3 0 set n 0 0
theorem pI_{s:Str}{i g:Nat}{C:List Xz}{bad:Int}(hs:s.length<=1000){set:Str}{n fst:Bool}(hset:set.length<=100000)(hf:fst=true\/s[i]? ≠ some 93):cg_ (fst,s,(i:Int),(g:Int),bad,C,setI set n)=some (match eC_ s i with
  | .err e => .done (.ret (false,ps s e g C (e:Int)))
  | .ok a b q => .next (false,s,(q:Int),(g:Int),bad,C,setI (set++[a,b]) n)):=by
 have e0:regex_parser.mk s (i:Int) (g:Int) C bad=ps s i g C bad:=rfl;have key:∀(a b:UInt8),(cat set (bytesS [(a.toNat:Int),(b.toNat:Int)]))=some (set++[a,b]):=λa b=>by
  have:bytesS [(a.toNat:Int),(b.toNat:Int)]=[a,b]:=gb_ [a,b];rw[this,bj_ (by simp only[qLc,List.length_nil];omega)]
 unfold cg_;simp only[];rw[e0];unfold eC_;cases fst with
 | true =>
  rw[cond_true,ny_ hs];simp only[qBs];cases h1:chS s i with
  | err e=>rfl
  | ok a p =>
   simp only[Bool.not_true,cond_false];rw[hS_ hs (c:=45) (k:=45) rfl];by_cases h2:s[p]? = some 45
   .rw[if_pos h2,if_pos h2];simp only[qBs,cond_true];rw[ny_ hs];simp only[qBs];cases h3:chS s (p+1)with
    | err e=>rfl
    | ok b q =>
     have hq:=gX_ h3;simp only[Bool.not_true,cond_false];by_cases h4:b.toNat<a.toNat
     .rw[if_pos h4,decide_eq_true (by omega),cond_true];unfold aQ_ ps;simp only[qBs];rw[bb_ ⟨by omega,by omega⟩,show(q:Int)-1=((q-1:Nat):Int)by omega]
     .rw[if_neg h4,decide_eq_false (by omega),cond_false];simp only[qBs];unfold setI ps;simp only[];rw[key];rfl
   .rw[if_neg h2,if_neg h2];simp only[qBs,cond_false];unfold setI ps;simp only[];rw[key];rfl
 | false =>
  have h93:s[i]? ≠ some 93:=hf.resolve_left (by decide);rw[cond_false,hS_ hs (c:=93) (k:=93) rfl,if_neg h93];simp only[qBs,Bool.not_false,cond_true];rw[ny_ hs];simp only[qBs];cases h1:chS s i with
  | err e=>rfl
  | ok a p =>
   simp only[Bool.not_true,cond_false];rw[hS_ hs (c:=45) (k:=45) rfl];by_cases h2:s[p]? = some 45
   .rw[if_pos h2,if_pos h2];simp only[qBs,cond_true];rw[ny_ hs];simp only[qBs];cases h3:chS s (p+1)with
    | err e=>rfl
    | ok b q =>
     have hq:=gX_ h3;simp only[Bool.not_true,cond_false];by_cases h4:b.toNat<a.toNat
     .rw[if_pos h4,decide_eq_true (by omega),cond_true];unfold aQ_ ps;simp only[qBs];rw[bb_ ⟨by omega,by omega⟩,show(q:Int)-1=((q-1:Nat):Int)by omega]
     .rw[if_neg h4,decide_eq_false (by omega),cond_false];simp only[qBs];unfold setI ps;simp only[];rw[key];rfl
   .rw[if_neg h2,if_neg h2];simp only[qBs,cond_false];unfold setI ps;simp only[];rw[key];rfl
def clsO(s:Str)(g:Nat)(C:List Xz)(bad:Int)(n:Bool):SR->Out (Str×Int×Int×Int×(List Xz)×Xz) (Bool×regex_parser) | .err e => .ret (false,ps s e g C (e:Int)) | .ok x q => .fall (s,(q:Int),(g:Int),bad,C,setI x n)
def clsP(s:Str)(g:Nat)(C:List Xz)(bad:Int)(n:Bool):SR->Bool×regex_parser | .err e=>(false,ps s e g C (e:Int)) | .ok x q=>(true,ps s q g (C++[setI x n]) bad)
theorem class_go{s:Str}(hs:s.length<=1000){g:Nat}{C:List Xz}{bad:Int}{n:Bool}{i:Nat}{set:Str}{r:SR}(h:Cx s i set r):∀(f:Nat),s.length-i<f->set.length+2*(s.length-i)<=5000 ->
  af_ cg_ f (decide (set=[]),s,(i:Int),(g:Int),bad,C,setI set n)=some (clsO s g C bad n r):=by
 induction h with
 | @done i set h0 h =>
  intro f hf hl;obtain⟨f,rfl⟩:∃k,f=k+1:=⟨f-1,by omega⟩;refine bo_ ?_;unfold cg_;have e0:regex_parser.mk s (i:Int) (g:Int) C bad=ps s i g C bad:=rfl;simp only[];rw[decide_eq_false h0,cond_false,e0,hS_ hs (c:=93) (k:=93) rfl,if_pos h];rfl
 | @err i set e h0 h =>
  intro f hf hl;obtain⟨f,rfl⟩:∃k,f=k+1:=⟨f-1,by omega⟩;refine bo_ ?_;rw[pI_ hs (by omega) (by
   by_cases hz:set=[]
   .left;exact decide_eq_true hz
   .right;exact λe=>h0 ⟨hz,e⟩),h]
  rfl
 | @next i set a b q r h0 h t ih =>
  intro f hf hl;obtain⟨f,rfl⟩:∃k,f=k+1:=⟨f-1,by omega⟩;have hq:=jZ_ h;have hst:=pI_ (s:=s) (i:=i) (g:=g) (C:=C) (bad:=bad) hs (set:=set) (n:=n) (fst:=decide (set=[])) (by omega) (by
   by_cases hz:set=[]
   .left;exact decide_eq_true hz
   .right;exact λe=>h0 ⟨hz,e⟩)
  rw[h]at hst;have:=ih f (by omega) (by simp only[qLa,qLc,List.length_nil];omega);rw[decide_eq_false (by simp)]at this;exact b7_ hst this
def clsI(s:Str)(i:Nat):Nat:=if s[i]? = some 94 then i+1 else i
def clsN(s:Str)(i:Nat):Bool:=decide (s[i]? = some 94)
theorem class_eq{s:Str}(hs:s.length<=1000){g:Nat}{C:List Xz}{bad:Int}{i:Nat}{r:SR}(hC:C.length<=100000)(h:Cx s (clsI s i) [] r):dN_ (ps s i g C bad)=some (clsP s g C bad (clsN s i) r):=by
 have hgo:=class_go hs (g:=g) (C:=C) (bad:=bad) (n:=clsN s i) h BIG (by unfold BIG;omega) (by simp only[List.length_nil];omega);rw[decide_eq_true rfl]at hgo;unfold dN_;rw[hS_ hs (c:=94) (k:=94) rfl];have e0:(if s[i]? = some 94 then(true,ps s (i+1) g C bad)else(false,ps s i g C bad))=(clsN s i,ps s (clsI s i) g C bad):=by
  unfold clsN clsI;by_cases h:s[i]? = some 94
  .rw[if_pos h,if_pos h,decide_eq_true h]
  .rw[if_neg h,if_neg h,decide_eq_false h]
 rw[e0];simp only[qBs];refine aq_ hgo ?_;cases r with
 | err e=>rfl
 | ok x q =>
  unfold clsO;simp only[];unfold ap_;simp only[];rw[bv_ (by simp only[qLc,List.length_nil];omega) (by simp only[qLc,List.length_nil];omega)];rfl
inductive Re where
 | emp|chr (b:UInt8)|any|bol|eol|set (x:Str) (n:Bool)
 | seq (a b:Re)|alt (a b:Re)|grp (k:Nat) (a:Re)|star (a:Re)|plus (a:Re)|opt (a:Re)
def iC(b:UInt8):Xz:=Xz.mk 1 (b.toNat:Int) [] false 0 0
def iOne(k:Int):Xz:=Xz.mk k 0 [] false 0 0
def bx_(x y:Nat):Xz:=Xz.mk 6 0 [] false (x:Int) (y:Int)
def cB_(x:Nat):Xz:=Xz.mk 7 0 [] false (x:Int) 0
def aM_(x:Nat):Xz:=Xz.mk 8 0 [] false (x:Int) 0
def Re.len:Re->Nat | .emp=>0 | .chr _=>1 | .any=>1 | .bol=>1 | .eol=>1 | .set _ _=>1 | .seq a b=>a.len+b.len | .alt a b=>a.len+b.len+2 | .grp _ a=>a.len+2 | .star a=>a.len+2 | .plus a=>a.len+1 | .opt a=>a.len+1
def Re.code:Re->Nat->List Xz | .emp,_=>[] | .chr b,_=>[iC b] | .any,_=>[iOne 2] | .bol,_=>[iOne 4] | .eol,_=>[iOne 5] | .set x n,_=>[setI x n] | .seq a b,n=>a.code n++b.code (n+a.len) | .alt a b,n=>bx_ (n+1) (n+a.len+2)::(a.code (n+1)++cB_ (n+a.len+b.len+2)::b.code (n+a.len+2)) | .grp k a,n=>aM_ (2*k)::(a.code (n+1)++[aM_ (2*k+1)]) | .star a,n=>bx_ (n+1) (n+a.len+2)::(a.code (n+1)++[cB_ n]) | .plus a,n=>a.code n++[bx_ n (n+a.len+1)] | .opt a,n=>bx_ (n+1) (n+a.len+1)::a.code (n+1)
theorem aA_:∀(a:Re) (n:Nat),(a.code n).length=a.len
 | .emp,_=>rfl
 | .chr _,_=>rfl
 | .any,_=>rfl
 | .bol,_=>rfl
 | .eol,_=>rfl
 | .set _ _,_=>rfl
 | .seq a b,n=>by simp only[Re.code,Re.len,qLa,aA_ a,aA_ b]
 | .alt a b,n=>by simp only[Re.code,Re.len,qLa,qLc,aA_ a,aA_ b];omega
 | .grp k a,n=>by simp only[Re.code,Re.len,qLa,qLc,List.length_nil,aA_ a]
 | .star a,n=>by simp only[Re.code,Re.len,qLa,qLc,List.length_nil,aA_ a]
 | .plus a,n=>by simp only[Re.code,Re.len,qLa,qLc,List.length_nil,aA_ a]
 | .opt a,n=>by simp only[Re.code,Re.len,qLc,aA_ a]
def bump(x:Xz):Xz:=bif x.Op_==6 then Xz.mk x.Op_ x.C_ x.Yx x.Yj (x.X_+1) (x.Y_+1)else bif x.Op_==7 then Xz.mk x.Op_ x.C_ x.Yx x.Yj (x.X_+1) x.Y_ else x
theorem i5_(x y:Nat):bump (bx_ x y)=bx_ (x+1) (y+1):=rfl
theorem bump_jump(x:Nat):bump (cB_ x)=cB_ (x+1):=rfl
theorem bump_save(x:Nat):bump (aM_ x)=aM_ x:=rfl
theorem dj_:∀(a:Re) (n:Nat),(a.code n).map bump=a.code (n+1)
 | .emp,_=>rfl
 | .chr _,_=>rfl
 | .any,_=>rfl
 | .bol,_=>rfl
 | .eol,_=>rfl
 | .set _ _,_=>rfl
 | .seq a b,n=>by
  simp only[Re.code,List.map_append,dj_ a,dj_ b];rw[show n+a.len+1=n+1+a.len by omega]
 | .alt a b,n=>by
  simp only[Re.code,List.map_append,List.map_cons,dj_ a,dj_ b,i5_,bump_jump];rw[show n+a.len+2+1=n+1+a.len+2 by omega,show n+a.len+b.len+2+1=n+1+a.len+b.len+2 by omega]
 | .grp k a,n=>by simp only[Re.code,List.map_append,List.map_cons,List.map_nil,dj_ a,bump_save]
 | .star a,n=>by
  simp only[Re.code,List.map_append,List.map_cons,List.map_nil,dj_ a,i5_,bump_jump];rw[show n+a.len+2+1=n+1+a.len+2 by omega]
 | .plus a,n=>by
  simp only[Re.code,List.map_append,List.map_cons,List.map_nil,dj_ a,i5_];rw[show n+a.len+1+1=n+1+a.len+1 by omega]
 | .opt a,n=>by
  simp only[Re.code,List.map_cons,dj_ a,i5_];rw[show n+a.len+1+1=n+1+a.len+1 by omega]
def LowI(x:Xz):Prop:=0<=x.X_/\x.X_<=1000000/\0<=x.Y_/\x.Y_<=1000000
def Re.grps(m:Nat):Re->Prop | .seq a b=>a.grps m/\b.grps m | .alt a b=>a.grps m/\b.grps m | .grp k a=>k<=m/\a.grps m | .star a=>a.grps m | .plus a=>a.grps m | .opt a=>a.grps m|_=>True
theorem d9_:∀(a:Re) (n:Nat),n+a.len<=100000->a.grps 100->∀x∈a.code n,LowI x
 | .emp,_,_,_,x,h=>by cases h
 | .chr _,_,_,_,x,h=>by rw[List.mem_singleton.1 h];unfold LowI iC;simp only[];omega
 | .any,_,_,_,x,h=>by rw[List.mem_singleton.1 h];unfold LowI iOne;simp only[];omega
 | .bol,_,_,_,x,h=>by rw[List.mem_singleton.1 h];unfold LowI iOne;simp only[];omega
 | .eol,_,_,_,x,h=>by rw[List.mem_singleton.1 h];unfold LowI iOne;simp only[];omega
 | .set _ _,_,_,_,x,h=>by rw[List.mem_singleton.1 h];unfold LowI setI;simp only[];omega
 | .seq a b,n,hn,hg,x,h=>by
  simp only[Re.len]at hn;rcases List.mem_append.1 h with h|h
  .exact d9_ a n (by omega) hg.1 x h
  .exact d9_ b _ (by omega) hg.2 x h
 | .alt a b,n,hn,hg,x,h=>by
  simp only[Re.len]at hn;rcases List.mem_cons.1 h with rfl|h
  .unfold LowI bx_;simp only[];omega
  .rcases List.mem_append.1 h with h|h
   .exact d9_ a _ (by omega) hg.1 x h
   .rcases List.mem_cons.1 h with rfl|h
    .unfold LowI cB_;simp only[];omega
    .exact d9_ b _ (by omega) hg.2 x h
 | .grp k a,n,hn,hg,x,h=>by
  simp only[Re.len]at hn;have hk:=hg.1;rcases List.mem_cons.1 h with rfl|h
  .unfold LowI aM_;simp only[];omega
  .rcases List.mem_append.1 h with h|h
   .exact d9_ a _ (by omega) hg.2 x h
   .rw[List.mem_singleton.1 h];unfold LowI aM_;simp only[];omega
 | .star a,n,hn,hg,x,h=>by
  simp only[Re.len]at hn;rcases List.mem_cons.1 h with rfl|h
  .unfold LowI bx_;simp only[];omega
  .rcases List.mem_append.1 h with h|h
   .exact d9_ a _ (by omega) hg x h
   .rw[List.mem_singleton.1 h];unfold LowI cB_;simp only[];omega
 | .plus a,n,hn,hg,x,h=>by
  simp only[Re.len]at hn;rcases List.mem_append.1 h with h|h
  .exact d9_ a _ (by omega) hg x h
  .rw[List.mem_singleton.1 h];unfold LowI bx_;simp only[];omega
 | .opt a,n,hn,hg,x,h=>by
  simp only[Re.len]at hn;rcases List.mem_cons.1 h with rfl|h
  .unfold LowI bx_;simp only[];omega
  .exact d9_ a _ (by omega) hg x h
theorem cX_{α:Type}{A B:List α}{x:α}{k:Int}(h:k=(A.length:Int)):ag_ (A++x::B) k=some x:=by
 subst h;rw[op_];simp
theorem eU_{α:Type}{A B:List α}{x y:α}{k:Nat}(h:k=A.length):(A++x::B).set k y=A++y::B:=by
 subst h;simp
theorem w64_up{x:Int}(h0:0<=x)(h:x<=1000000):w64 (x+1)=x+1:=bb_ ⟨by omega,by omega⟩
theorem insert_go:∀(D A:List Xz) (f:Nat),D.length<f->A.length+D.length<=100000->(∀x∈D,LowI x)->af_ b4_ f ((A.length:Int),A++D)=some (A++D.map bump)
 | [],A,f+1,_,_,_=>by
  refine bo_ ?_;unfold b4_;simp only[List.append_nil,List.map_nil];rw[decide_eq_false (by omega),cond_false]
 | x::D,A,f+1,hf,hl,hx=>by
  simp only[qLc]at hf hl;have hlow:=hx x List.mem_cons_self;have hstep:b4_ ((A.length:Int),A++x::D)=some (.next (((A++[bump x]).length:Int),(A++[bump x])++D)):=by
   unfold b4_;simp only[];rw[decide_eq_true (by simp only[qLa,qLc];omega),cond_true,cX_ rfl];simp only[qBs];rw[show(A.length:Int).toNat=A.length from rfl];simp only[eU_ rfl,cX_ rfl,qBs];rw[w64_up hlow.1 hlow.2.1,w64_up hlow.2.2.1 hlow.2.2.2,ai_ (by omega)];have e:∀y:Xz,A++y::D=(A++[y])++D:=λy=>by simp
   have e2:(A++[bump x]).length=A.length+1:=by simp
   rw[e2];unfold bump;cases h6:(x.Op_==6)with
   | true=>simp only[cond_true,qBs];rw[e]
   | false =>
    cases h7:(x.Op_==7)with
    | true=>simp only[cond_true,cond_false,qBs];rw[e]
    | false=>simp only[cond_false,qBs];rw[e]
  have:=insert_go D (A++[bump x]) f (by omega) (by simp only[qLa,qLc,List.length_nil];omega) (λy hy=>hx y (List.mem_cons_of_mem _ hy));refine b7_ hstep ?_;rw[this];simp
theorem pK_:∀(D A acc:List Xz) (f:Nat),D.length<f->A.length+D.length<=100000->acc.length+D.length<=200000->(∀x∈D,LowI x)->af_ dT_ f ((A.length:Int),A++D,acc)=some (A++D,acc++D.map bump)
 | [],A,acc,f+1,_,_,_,_=>by
  refine bo_ ?_;unfold dT_;simp only[List.append_nil,List.map_nil];rw[decide_eq_false (by omega),cond_false]
 | x::D,A,acc,f+1,hf,hl,hc,hx=>by
  simp only[qLc]at hf hl hc;have hlow:=hx x List.mem_cons_self;have hstep:dT_ ((A.length:Int),A++x::D,acc)=some (.next (((A++[x]).length:Int),(A++[x])++D,acc++[bump x])):=by
   unfold dT_;simp only[];rw[decide_eq_true (by simp only[qLa,qLc];omega),cond_true,cX_ rfl];simp only[qBs];rw[ai_ (by omega),w64_up hlow.1 hlow.2.1];have e:A++x::D=(A++[x])++D:=by simp
   have e2:(A++[x]).length=A.length+1:=by simp
   have er:∀y:Xz,room 56 acc [y]=some (acc++[y]):=λy=>bv_ (by simp only[qLc,List.length_nil];omega) (by simp only[qLc,List.length_nil];omega)
   rw[e2,←e];unfold bump;cases h6:(x.Op_==6)with
   | true=>simp only[Bool.true_or,cond_true,qBs,h6];rw[w64_up hlow.2.2.1 hlow.2.2.2,er];rfl
   | false =>
    cases h7:(x.Op_==7)with
    | true=>simp only[Bool.false_or,cond_true,cond_false,qBs,h6];rw[er];rfl
    | false=>simp only[Bool.false_or,cond_false,qBs,h6];rw[er];rfl
  have:=pK_ D (A++[x]) (acc++[bump x]) f (by omega) (by simp only[qLa,qLc,List.length_nil];omega) (by simp only[qLa,qLc,List.length_nil];omega) (λy hy=>hx y (List.mem_cons_of_mem _ hy));refine b7_ hstep ?_;rw[this];simp
theorem m3_{s:Str}{i g:Nat}{C:List Xz}{bad:Int}{a:Re}{x:Xz}{k:Int}(hk:k=(C.length:Int))(hl:C.length+a.len<=50000)(hg:a.grps 100):b2_ (ps s i g (C++a.code C.length) bad) k x=some (ps s i g (C++x::a.code (C.length+1)) bad):=by
 subst hk;have hlow:=d9_ a C.length (by omega) hg;have h:=insert_go (a.code C.length) C BIG (by rw[aA_];unfold BIG;omega) (by rw[aA_];omega) hlow;unfold b2_;refine aq_ h ?_;rw[dj_];have e:(insN (α:=Xz) 56) (C++a.code (C.length+1)) (C.length:Int) [x]=some (C++x::a.code (C.length+1)):=by
  unfold insN;simp only[List.length_nil];rw[if_pos ⟨by omega,by rw[qLa];omega,by rw[qLa,aA_];omega⟩];simp
 rw[e];rfl
theorem lG_{i g:Int}{C:List Xz}{bad:Bool}{a:Re}{x:Xz}{k:Int}(hk:k=(C.length:Int))(hl:C.length+a.len<=50000)(hg:a.grps 100):em_ (Xx.mk (C++a.code C.length) i g bad) k x=some (Xx.mk (C++x::a.code (C.length+1)) i g bad):=by
 subst hk;have hlow:=d9_ a C.length (by omega) hg;have h:=pK_ (a.code C.length) C (C++[x]) BIG (by rw[aA_];unfold BIG;omega) (by rw[aA_];omega) (by rw[aA_];simp only[qLa,qLc,List.length_nil];omega) hlow;unfold em_;simp only[];rw[cQ_ (by omega) (by omega) (by rw[qLa];omega)];simp only[qBs];have e1:(C++a.code C.length).take (C.length:Int).toNat=C:=by simp
 rw[e1,bv_ (by simp only[List.length_nil];omega) (by simp only[List.length_nil];omega)];simp only[qBs,List.nil_append];rw[bv_ (by simp only[qLc,List.length_nil];omega) (by simp only[qLc,List.length_nil];omega)];simp only[qBs];rw[h,dj_];simp
inductive PX where
 | err (e:Nat)|ok (a:Re) (q g:Nat)
inductive PK where
 | rx|br|pc|at
def PX.pre(a:Re):PX->PX | .err e => .err e | .ok b q g => .ok (.seq a b) q g
def post(s:Str)(a:Re)(q g:Nat):PX:=if s[q]? = some 42 then .ok (.star a) (q+1) g else if s[q]? = some 43 then .ok (.plus a) (q+1) g else if s[q]? = some 63 then .ok (.opt a) (q+1) g else .ok a q g
def clsR(g:Nat)(n:Bool):SR->PX | .err e => .err e | .ok x q => .ok (.set x n) q g
def escR(g:Nat):CR->PX | .err e => .err e | .ok b q => .ok (.chr b) q g
def spec(c:UInt8):Bool:=c==40||c==41||c==124||c==42||c==43||c==63||c==46||c==94||c==36||c==91||c==92
inductive RP(s:Str):PK->Nat->Nat->Nat->PX->Prop
 | stop {d i g} (h:s[i]? = none\/s[i]? = some 124\/(s[i]? = some 41/\0<d)):RP s .br d i g (.ok .emp i g)
 | par {i g} (h:s[i]? = some 41):RP s .br 0 i g (.err i)
 | bad {d i g c e} (h:s[i]? = some c) (h1:c≠124) (h2:c≠41) (hp:RP s .pc d i g (.err e)):RP s .br d i g (.err e)
 | next {d i g c a q g1 r} (h:s[i]? = some c) (h1:c≠124) (h2:c≠41) (hp:RP s .pc d i g (.ok a q g1)) (ht:RP s .br d q g1 r):RP s .br d i g (r.pre a)
 | pcbad {d i g e} (h:RP s .at d i g (.err e)):RP s .pc d i g (.err e)
 | pcok {d i g a q g1} (h:RP s .at d i g (.ok a q g1)):RP s .pc d i g (post s a q g1)
 | many {d i g} (h:s[i]? = some 40) (hg:9<=g):RP s .at d i g (.err i)
 | inner {d i g e} (h:s[i]? = some 40) (hg:g<9) (hr:RP s .rx (d+1) (i+1) (g+1) (.err e)):RP s .at d i g (.err e)
 | unc {d i g a q g1} (h:s[i]? = some 40) (hg:g<9) (hr:RP s .rx (d+1) (i+1) (g+1) (.ok a q g1)) (hc:s[q]? ≠ some 41):RP s .at d i g (.err q)
 | grp {d i g a q g1} (h:s[i]? = some 40) (hg:g<9) (hr:RP s .rx (d+1) (i+1) (g+1) (.ok a q g1)) (hc:s[q]? = some 41):RP s .at d i g (.ok (.grp (g+1) a) (q+1) g1)
 | sym {d i g c} (h:s[i]? = some c) (hc:c=42\/c=43\/c=63):RP s .at d i g (.err i)
 | any {d i g} (h:s[i]? = some 46):RP s .at d i g (.ok .any (i+1) g)
 | bol {d i g} (h:s[i]? = some 94):RP s .at d i g (.ok .bol (i+1) g)
 | eol {d i g} (h:s[i]? = some 36):RP s .at d i g (.ok .eol (i+1) g)
 | cls {d i g r} (h:s[i]? = some 91) (hc:Cx s (clsI s (i+1)) [] r):RP s .at d i g (clsR g (clsN s (i+1)) r)
 | esc {d i g} (h:s[i]? = some 92):RP s .at d i g (escR g (escS s i))
 | chr {d i g c} (h:s[i]? = some c) (hc:spec c=false):RP s .at d i g (.ok (.chr c) (i+1) g)
 | rxbad {d i g e} (h:RP s .br d i g (.err e)):RP s .rx d i g (.err e)
 | rxone {d i g a q g1} (h:RP s .br d i g (.ok a q g1)) (hq:s[q]? ≠ some 124):RP s .rx d i g (.ok a q g1)
 | rxerr {d i g a q g1 e} (h:RP s .br d i g (.ok a q g1)) (hq:s[q]? = some 124) (ht:RP s .rx d (q+1) g1 (.err e)):RP s .rx d i g (.err e)
 | rxalt {d i g a q g1 b q2 g2} (h:RP s .br d i g (.ok a q g1)) (hq:s[q]? = some 124) (ht:RP s .rx d (q+1) g1 (.ok b q2 g2)):RP s .rx d i g (.ok (.alt a b) q2 g2)
def PK.inc:PK->Nat | .rx=>0 | .br=>0 | .pc=>1 | .at=>1
def GoodP(s:Str)(k:PK)(i g:Nat):PX->Prop | .err _=>True | .ok a q g1=>i<=s.length->g<=9->i+k.inc<=q/\q<=s.length/\a.len<=2*(q-i)/\g<=g1/\g1<=9/\a.grps 100
theorem clsI_le(s:Str)(i:Nat)(h:i<=s.length):i<=clsI s i/\clsI s i<=s.length:=by
 unfold clsI;split
 .rename_i h1;have:=av_ h1;omega
 .omega
theorem RP.good{s:Str}{k:PK}{d i g:Nat}{r:PX}(h:RP s k d i g r):GoodP s k i g r:=by
 induction h with
 | stop h=>exact λh1 h2=>⟨by simp only[PK.inc];omega,h1,by simp only[Re.len];omega,Nat.le_refl _,h2,trivial⟩
 | par h=>trivial
 | bad h h1 h2 hp ih=>trivial
 | @next d i g c a q g1 r h h1 h2 hp ht ih1 ih2 =>
  cases r with
  | err e=>trivial
  | ok b q2 g2 =>
   intro a1 a2;obtain⟨b1,b2,b3,b4,b5,b6⟩:=ih1 a1 a2;obtain⟨c1,c2,c3,c4,c5,c6⟩:=ih2 b2 b5;simp only[PK.inc]at b1 c1;exact⟨by simp only[PK.inc];omega,c2,by simp only[Re.len];omega,by omega,c5,b6,c6⟩
 | pcbad h ih=>trivial
 | @pcok d i g a q g1 h ih =>
  unfold post;split
  .rename_i hq;have:=av_ hq;intro a1 a2;obtain⟨b1,b2,b3,b4,b5,b6⟩:=ih a1 a2;simp only[PK.inc]at b1;exact⟨by simp only[PK.inc];omega,by omega,by simp only[Re.len];omega,b4,b5,b6⟩
  .split
   .rename_i hq;have:=av_ hq;intro a1 a2;obtain⟨b1,b2,b3,b4,b5,b6⟩:=ih a1 a2;simp only[PK.inc]at b1;exact⟨by simp only[PK.inc];omega,by omega,by simp only[Re.len];omega,b4,b5,b6⟩
   .split
    .rename_i hq;have:=av_ hq;intro a1 a2;obtain⟨b1,b2,b3,b4,b5,b6⟩:=ih a1 a2;simp only[PK.inc]at b1;exact⟨by simp only[PK.inc];omega,by omega,by simp only[Re.len];omega,b4,b5,b6⟩
    .exact ih
 | many h hg=>trivial
 | inner h hg hr ih=>trivial
 | unc h hg hr hc ih=>trivial
 | @grp d i g a q g1 h hg hr hc ih =>
  intro a1 a2;have h1:=av_ h;have h2:=av_ hc;obtain⟨b1,b2,b3,b4,b5,b6⟩:=ih (by omega) (by omega);simp only[PK.inc]at b1;exact⟨by simp only[PK.inc];omega,by omega,by simp only[Re.len];omega,by omega,b5,by omega,b6⟩
 | sym h hc=>trivial
 | any h=>have:=av_ h;exact λh1 h2=>⟨by simp only[PK.inc];omega,by omega,by simp only[Re.len];omega,Nat.le_refl _,h2,trivial⟩
 | bol h=>have:=av_ h;exact λh1 h2=>⟨by simp only[PK.inc];omega,by omega,by simp only[Re.len];omega,Nat.le_refl _,h2,trivial⟩
 | eol h=>have:=av_ h;exact λh1 h2=>⟨by simp only[PK.inc];omega,by omega,by simp only[Re.len];omega,Nat.le_refl _,h2,trivial⟩
 | @cls d i g r h hc =>
  have h0:=av_ h;cases r with
  | err e=>trivial
  | ok x q =>
   intro h1 h2;have:=hc.len.2 x q rfl;have:=clsI_le s (i+1) (by omega);exact⟨by simp only[PK.inc];omega,by omega,by simp only[Re.len];omega,Nat.le_refl _,h2,trivial⟩
 | @esc d i g h =>
  cases he:escS s i with
  | err e=>trivial
  | ok b q =>
   intro h1 h2;have:=escS_len he;exact⟨by simp only[PK.inc];omega,by omega,by simp only[Re.len];omega,Nat.le_refl _,h2,trivial⟩
 | chr h hc=>have:=av_ h;exact λh1 h2=>⟨by simp only[PK.inc];omega,by omega,by simp only[Re.len];omega,Nat.le_refl _,h2,trivial⟩
 | rxbad h ih=>trivial
 | rxone h hq ih=>exact ih
 | rxerr h hq ht ih1 ih2=>trivial
 | @rxalt d i g a q g1 b q2 g2 h hq ht ih1 ih2 =>
  intro a1 a2;have h1:=av_ hq;obtain⟨b1,b2,b3,b4,b5,b6⟩:=ih1 a1 a2;obtain⟨c1,c2,c3,c4,c5,c6⟩:=ih2 (by omega) b5;simp only[PK.inc]at b1 c1;exact⟨by simp only[PK.inc];omega,c2,by simp only[Re.len];omega,by omega,c5,b6,c6⟩
theorem RP.ex_at {s:Str} {i:Nat} (ih:∀j,i<j->j<=s.length->∀d g,g<=9->∃r,RP s .rx d j g r) (d g:Nat) {c:UInt8} (h:s[i]? = some c) (h1:c≠124) (h2:c≠41):∃r,RP s .at d i g r:=by
 have hlt:=av_ h;by_cases a1:c=40
 .subst a1;by_cases hg:9<=g
  .exact⟨_,.many h hg⟩
  .obtain⟨r,hr⟩:=ih (i+1) (by omega) (by omega) (d+1) (g+1) (by omega);cases r with
   | err e=>exact⟨_,.inner h (by omega) hr⟩
   | ok a q g1 =>
    by_cases hc:s[q]? = some 41
    .exact⟨_,.grp h (by omega) hr hc⟩
    .exact⟨_,.unc h (by omega) hr hc⟩
 .by_cases a2:c=42\/c=43\/c=63
  .exact⟨_,.sym h a2⟩
  .by_cases a3:c=46
   .subst a3;exact⟨_,.any h⟩
   .by_cases a4:c=94
    .subst a4;exact⟨_,.bol h⟩
    .by_cases a5:c=36
     .subst a5;exact⟨_,.eol h⟩
     .by_cases a6:c=91
      .subst a6;obtain⟨r,hr⟩:=Cx.ex _ (clsI s (i+1)) [] (Nat.le_refl _) (clsI_le s (i+1) (by omega)).2;exact⟨_,.cls h hr⟩
      .by_cases a7:c=92
       .subst a7;exact⟨_,.esc h⟩
       .refine⟨_,.chr h ?_⟩;simp only[not_or]at a2;unfold spec;simp only[Bool.or_eq_false_iff,beq_eq_false_iff_ne];exact⟨⟨⟨⟨⟨⟨⟨⟨⟨⟨a1,h2⟩,h1⟩,a2.1⟩,a2.2.1⟩,a2.2.2⟩,a3⟩,a4⟩,a5⟩,a6⟩,a7⟩
theorem RP.ex{s:Str}:∀(k i:Nat),s.length-i<k->i<=s.length->(∀d g,g<=9->∃r,RP s .br d i g r)/\∀d g,g<=9->∃r,RP s .rx d i g r:=by
 intro k
 induction k with
 | zero=>exact λi h=>absurd h (Nat.not_lt_zero _)
 | succ k ih =>
  intro i hk hi
  have hbr:∀d g,g<=9->∃r,RP s .br d i g r:=by
   intro d g hg;cases h:s[i]? with
   | none=>exact⟨_,.stop (.inl h)⟩
   | some c =>
    have hlt:=av_ h;by_cases h1:c=124
    .subst h1;exact⟨_,.stop (.inr (.inl h))⟩
    .by_cases h2:c=41
     .subst h2;rcases Nat.eq_zero_or_pos d with rfl|hd
      .exact⟨_,.par h⟩
      .exact⟨_,.stop (.inr (.inr ⟨h,hd⟩))⟩
     .obtain⟨r,hr⟩:=RP.ex_at (λj hj hjl=>(ih j (by omega) hjl).2) d g h h1 h2;have hpc:∃r,RP s .pc d i g r:=by
       cases r with
       | err e=>exact⟨_,.pcbad hr⟩
       | ok a q g1=>exact⟨_,.pcok hr⟩
      obtain⟨r,hr⟩:=hpc;cases r with
      | err e=>exact⟨_,.bad h h1 h2 hr⟩
      | ok a q g1 =>
       have:=hr.good hi hg;simp only[PK.inc]at this;obtain⟨r2,hr2⟩:=(ih q (by omega) (by omega)).1 d g1 (by omega);exact⟨_,.next h h1 h2 hr hr2⟩
  refine⟨hbr,λd g hg => ?_⟩;obtain⟨r,hr⟩:=hbr d g hg;cases r with
  | err e=>exact⟨_,.rxbad hr⟩
  | ok a q g1 =>
   by_cases hq:s[q]? = some 124
   .have h1:=hr.good hi hg;have h2:=av_ hq;simp only[PK.inc]at h1;obtain⟨r2,hr2⟩:=(ih (q+1) (by omega) (by omega)).2 d g1 (by omega);cases r2 with
    | err e=>exact⟨_,.rxerr hr hq hr2⟩
    | ok b q2 g2=>exact⟨_,.rxalt hr hq hr2⟩
   .exact⟨_,.rxone hr hq⟩
theorem RP.ends{s:Str}{k:PK}{d i g:Nat}{r:PX}(h:RP s k d i g r):d=0->∀a q g1,r = .ok a q g1->(k = .rx->s[q]? = none)/\(k = .br->s[q]? = none\/s[q]? = some 124):=by
 induction h with
 | stop h =>
  intro hd a q g1 e;injection e with _ e _;subst e;refine⟨λe=>(by cases e),λ_ => ?_⟩;rcases h with h|h|h
  .exact .inl h
  .exact .inr h
  .omega
 | @next d i g c a q g1 r h h1 h2 hp ht ih1 ih2 =>
  intro hd a' q' g' e;cases r with
  | err e'=>cases e
  | ok b q2 g2 =>
   injection e with _ e1 e2;subst e1;exact⟨λe=>(by cases e),λe=>(ih2 hd _ _ _ rfl).2 e⟩
 | rxone h hq ih =>
  intro hd a q g1 e;injection e with _ e1 e2;subst e1;exact⟨λ_=>((ih hd _ _ _ rfl).2 rfl).resolve_right hq,λe=>(by cases e)⟩
 | rxalt h hq ht ih1 ih2 =>
  intro hd a q g1 e;injection e with _ e1 e2;subst e1;exact⟨λe=>(ih2 hd _ _ _ rfl).1 e,λe=>(by cases e)⟩
 | _=>intro hd a q g1 e;first|(cases e;done)|exact⟨λe=>(by cases e),λe=>(by cases e)⟩
theorem dk_{s:Str}{i g:Nat}{C:List Xz}{bad:Int}{x:Xz}(h:C.length<=100000):ap_ (ps s i g C bad) x=some ((C.length:Int),ps s i g (C++[x]) bad):=by
 unfold ap_ ps;simp only[];rw[bv_ (by simp only[qLc,List.length_nil];omega) (by simp only[qLc,List.length_nil];omega)];simp only[qBs];rw[bb_ ⟨by simp only[qLa,qLc,List.length_nil];omega,by simp only[qLa,qLc,List.length_nil];omega⟩,show((C++[x]).length:Int)-1=(C.length:Int)by simp only[qLa,qLc,List.length_nil];omega]
def ResP(s:Str)(C:List Xz)(bad:Int)(o:Option (Bool×regex_parser)):PX->Prop | .err e=>∃p,o=some (false,p)/\p.bad_=(e:Int) | .ok a q g=>o=some (true,ps s q g (C++a.code C.length) bad)
def ResO(s:Str)(C:List Xz)(bad:Int)(o:Option (Out Unit (Bool×regex_parser))):PX->Prop | .err e=>∃p,o=some (.ret (false,p))/\p.bad_=(e:Int) | .ok a q g=>o=some (.ret (true,ps s q g (C++a.code C.length) bad))
def GoP(s:Str)(k:PK)(d i g:Nat)(r:PX):Prop:=s.length<=1000->i<=s.length->g<=9->d<=i->∀(C:List Xz) (bad:Int) (n:Nat),C.length+2*(s.length-i)<=5000->match k with | .rx=>s.length-i<n->ResP s C bad (ah_ n (ps s i g C bad) (d:Int)) r | .br=>s.length-i<=n->∀f,s.length-i<f->ResO s C bad (af_ (bd_ (d:Int) (ah_ n)) f (s,(i:Int),(g:Int),bad,C)) r | .pc=>s.length-i<=n->(∃c,s[i]? = some c)->ResP s C bad (bc_ (ah_ n) (ps s i g C bad) (d:Int)) r | .at=>s.length-i<=n->(∃c,s[i]? = some c)->ResP s C bad (ar_ (ah_ n) (ps s i g C bad) (d:Int)) r
theorem peek_loop{s:Str}{i g:Nat}{C:List Xz}{bad:Int}:regex_parser.mk (s,(i:Int),(g:Int),bad,C).1 (s,(i:Int),(g:Int),bad,C).2.1 (s,(i:Int),(g:Int),bad,C).2.2.1 (s,(i:Int),(g:Int),bad,C).2.2.2.2 (s,(i:Int),(g:Int),bad,C).2.2.2.1=ps s i g C bad:=rfl
theorem decide_dp{d:Nat}:decide ((d:Int)>0)=decide (0<d):=by
 by_cases h:0<d
 .rw[decide_eq_true h,decide_eq_true (by omega)]
 .rw[decide_eq_false h,decide_eq_false (by omega)]
theorem br_more{s:Str}{d i g n:Nat}{C:List Xz}{bad:Int}{c:UInt8}(h:s[i]? = some c)(h1:c≠124)(h2:c≠41\/d=0):bd_ (d:Int) (ah_ n) (s,(i:Int),(g:Int),bad,C)=(bc_ (ah_ n) (ps s i g C bad) (d:Int)).bind λy4=>(bif(!y4.1)then some (.done (.ret ((false,y4.2))))else some (.next (y4.2.s_,y4.2.at_,y4.2.groups_,y4.2.bad_,y4.2.code_))):=by
 unfold bd_;rw[peek_loop,bL_ h];simp only[qBs,Bool.not_true,Bool.false_or];have k1:((c.toNat:Int)==124)=(c==124):=bO_ c 124;have k2:((c.toNat:Int)==41)=(c==41):=bO_ c 41;rw[k1,k2,beq_eq_false_iff_ne.2 h1,decide_dp];have:(c==41&&decide (0<d))=false:=by
  rcases h2 with h2|h2
  .rw[beq_eq_false_iff_ne.2 h2];rfl
  .subst h2;simp
 rw[this];rfl
theorem go_stop{s:Str}{d i g:Nat}(h:s[i]? = none\/s[i]? = some 124\/(s[i]? = some 41/\0<d)):GoP s .br d i g (.ok .emp i g):=by
 intro hs hi hg hd C bad n hC hn f hf;obtain⟨f,rfl⟩:∃k,f=k+1:=⟨f-1,by omega⟩;show _=_;rw[show C++Re.emp.code C.length=C from List.append_nil C];refine bo_ ?_;unfold bd_;rw[peek_loop];rcases h with h|h|⟨h,hd⟩
 .rw[j0_ h];rfl
 .rw[bL_ h];rfl
 .rw[bL_ h];simp only[qBs];rw[decide_dp,decide_eq_true hd];rfl
theorem go_bad{s:Str}{d i g e:Nat}{c:UInt8}(h:s[i]? = some c)(h1:c≠124)(h2:c≠41)(ih:GoP s .pc d i g (.err e)):GoP s .br d i g (.err e):=by
 intro hs hi hg hd C bad n hC hn f hf;obtain⟨f,rfl⟩:∃k,f=k+1:=⟨f-1,by omega⟩;obtain⟨p,hp,hb⟩:=ih hs hi hg hd C bad n hC hn ⟨c,h⟩;refine⟨p,bo_ ?_,hb⟩;rw[br_more h h1 (.inl h2),hp];rfl
theorem go_next{s:Str}{d i g q g1:Nat}{c:UInt8}{a:Re}{r:PX}(h:s[i]? = some c)(h1:c≠124)(h2:c≠41)(hq:RP s .pc d i g (.ok a q g1))(ih:GoP s .pc d i g (.ok a q g1))(ih2:GoP s .br d q g1 r):GoP s .br d i g (r.pre a):=by
 intro hs hi hg hd C bad n hC hn f hf;obtain⟨f,rfl⟩:∃k,f=k+1:=⟨f-1,by omega⟩;have hgood:=hq.good hi hg;simp only[PK.inc]at hgood;have hlen:(C++a.code C.length).length=C.length+a.len:=by rw[qLa,aA_]
 have hp:_=_:=ih hs hi hg hd C bad n hC hn ⟨c,h⟩;have ht:=ih2 hs (by omega) (by omega) (by omega) (C++a.code C.length) bad n (by rw[hlen];omega) (by omega) f (by omega);have hst:bd_ (d:Int) (ah_ n) (s,(i:Int),(g:Int),bad,C)=some (.next (s,(q:Int),(g1:Int),bad,C++a.code C.length)):=by
  rw[br_more h h1 (.inl h2),hp];rfl
 cases r with
 | err e =>
  obtain⟨p,hp,hb⟩:=ht;exact⟨p,b7_ hst hp,hb⟩
 | ok b q2 g2 =>
  have ht:_=_:=ht;show _=_;refine b7_ hst ?_;rw[ht];simp only[Re.code];rw[hlen,List.append_assoc]
theorem go_par{s:Str}{i g:Nat}(h:s[i]? = some 41):GoP s .br 0 i g (.err i):=by
 intro hs hi hg hd C bad n hC hn f hf;obtain⟨f,rfl⟩:∃k,f=k+1:=⟨f-1,by omega⟩;refine⟨ps s i g C (i:Int),bo_ ?_,rfl⟩;rw[br_more h (by decide) (.inr rfl)];have:bc_ (ah_ n) (ps s i g C bad) ((0:Nat):Int)=some (false,ps s i g C (i:Int)):=by
  unfold bc_ ar_;rw[bL_ h];rfl
 rw[this];rfl
theorem go_pcbad{s:Str}{d i g e:Nat}(ih:GoP s .at d i g (.err e)):GoP s .pc d i g (.err e):=by
 intro hs hi hg hd C bad n hC hn hc;obtain⟨p,hp,hb⟩:=ih hs hi hg hd C bad n hC hn hc;refine⟨p,?_,hb⟩;unfold bc_;rw[hp];rfl
theorem next_t{s:Str}{i g:Nat}{C:List Xz}{bad:Int}(hs:s.length<=1000){c:UInt8}{k:Int}(hk:k=(c.toNat:Int))(h:s[i]? = some c):aE_ (ps s i g C bad) k=some (true,ps s (i+1) g C bad):=by
 rw[hS_ hs hk,if_pos h]
theorem next_f{s:Str}{i g:Nat}{C:List Xz}{bad:Int}(hs:s.length<=1000){c:UInt8}{k:Int}(hk:k=(c.toNat:Int))(h:s[i]? ≠ some c):aE_ (ps s i g C bad) k=some (false,ps s i g C bad):=by
 rw[hS_ hs hk,if_neg h]
theorem gY_(s:Str)(i g:Nat)(C:List Xz)(bad:Int):(ps s i g C bad).code_=C:=rfl
theorem m6_(s:Str)(i g:Nat)(C:List Xz)(bad:Int):(ps s i g C bad).groups_=(g:Int):=rfl
theorem fn_(n:Nat):((n:Nat):Int).toNat=n:=rfl
theorem go_pcok{s:Str}{d i g q g1:Nat}{a:Re}(hq:RP s .at d i g (.ok a q g1))(ih:GoP s .at d i g (.ok a q g1)):GoP s .pc d i g (post s a q g1):=by
 intro hs hi hg hd C bad n hC hn hc;have hgood:=hq.good hi hg;simp only[PK.inc]at hgood;have hp:_=_:=ih hs hi hg hd C bad n hC hn hc;have hlen:(a.code C.length).length=a.len:=aA_ a _;have hlen1:(a.code (C.length+1)).length=a.len:=aA_ a _;have hw:w64 ((C.length:Int)+1)=((C.length+1:Nat):Int):=ai_ (by omega);show ResP s C bad (bc_ (ah_ n) (ps s i g C bad) (d:Int)) (post s a q g1);unfold bc_;rw[hp];simp only[qBs,Bool.not_true,cond_false,gY_];unfold post;by_cases h42:s[q]? = some 42
 .rw[if_pos h42,next_t hs (c:=42) (k:=42) rfl h42];simp only[qBs,cond_true];rw[m3_ rfl (by omega) hgood.2.2.2.2.2];simp only[qBs];rw[dk_ (by simp only[qLa,qLc];omega)];simp only[qBs,gY_];rw[List.append_assoc,List.cons_append,cX_ rfl];simp only[qBs];rw[eU_ (fn_ _)];show _=_;simp only[Re.code];have e1:(((C++Xz.mk 6 0 [] false (w64 ((C.length:Int)+1)) 0::(a.code (C.length+1)++[Xz.mk 7 0 [] false (C.length:Int) 0])).length:Nat):Int)=((C.length+a.len+2:Nat):Int):=by
   simp only[qLa,qLc,List.length_nil,hlen1];omega
  rw[e1,hw];rfl
 .rw [if_neg h42,next_f hs (c:=42) (k:=42) rfl h42];simp only[qBs,cond_false];by_cases h43:s[q]? = some 43
  .rw[if_pos h43,next_t hs (c:=43) (k:=43) rfl h43];simp only[qBs,cond_true];rw[dk_ (by simp only[qLa];omega)];simp only[qBs,gY_];rw[cX_ rfl];simp only[qBs];rw[eU_ (fn_ _)];show _=_;simp only[Re.code];have e1:w64 (((C++a.code C.length).length:Int)+1)=((C.length+a.len+1:Nat):Int):=by
    rw[bb_ ⟨by omega,by simp only[qLa];omega⟩];simp only[qLa];omega
   rw[e1,←List.append_assoc];rfl
  .rw[if_neg h43,next_f hs (c:=43) (k:=43) rfl h43];simp only[qBs,cond_false];by_cases h63:s[q]? = some 63
   .rw[if_pos h63,next_t hs (c:=63) (k:=63) rfl h63];simp only[qBs,cond_true];rw[m3_ rfl (by omega) hgood.2.2.2.2.2];simp only[qBs,gY_];rw[cX_ rfl];simp only[qBs];rw[eU_ (fn_ _)];show _=_;simp only[Re.code];have e1:(((C++Xz.mk 6 0 [] false (w64 ((C.length:Int)+1)) 0::a.code (C.length+1)).length:Nat):Int)=((C.length+a.len+1:Nat):Int):=by
     simp only[qLa,qLc,hlen1];omega
    rw[e1,hw];rfl
   .rw[if_neg h63,next_f hs (c:=63) (k:=63) rfl h63];rfl
theorem go_many{s:Str}{d i g:Nat}(h:s[i]? = some 40)(hg9:9<=g):GoP s .at d i g (.err i):=by
 intro hs hi hg hd C bad n hC hn hc;refine⟨ps s i g C (i:Int),?_,rfl⟩;unfold ar_;rw[bL_ h];simp only[qBs,Bool.not_true,cond_false];rw[show((((40:UInt8).toNat:Int)==40))=true from rfl,cond_true];unfold bE_;rw[m6_,decide_eq_true (by omega),cond_true];rfl
theorem lH_{s:Str}{d i g n:Nat}{C:List Xz}{bad:Int}(hlt:i<s.length)(hs:s.length<=1000)(hg:g<9)(hd:d<=i)(hC:C.length<=5000) :
  bE_ (ah_ n) (ps s i g C bad) (d:Int)=(ah_ n (ps s (i+1) (g+1) (C++[aM_ (2*(g+1))]) bad) ((d+1:Nat):Int)).bind λy3 =>
  (bif(!y3.1)then
   some ((false,y3.2))
  else
   (aE_ y3.2 41).bind λy4 =>
   (bif(!y4.1)then
    (aQ_ y4.2).bind λy5 =>
    some ((y5.1,y5.2))
   else
    Option.bind (ap_ y4.2 (aM_ (2*(g+1)+1))) λ(y6:Int×regex_parser) =>
    some ((true,y6.2)))):=by
 unfold bE_;rw[m6_,decide_eq_false (by omega),cond_false];have e1:regex_parser.mk (ps s i g C bad).s_ (w64 ((ps s i g C bad).at_+1)) (w64 ((g:Int)+1)) (ps s i g C bad).code_ (ps s i g C bad).bad_=ps s (i+1) (g+1) C bad:=by
  unfold ps;simp only[];rw[ai_ (by omega),ai_ (by omega)]
 have e2:w64 (2*(w64 ((g:Int)+1)))=((2*(g+1):Nat):Int):=by
  rw[ai_ (by omega),bb_ ⟨by omega,by omega⟩];omega
 have e3:w64 (((2*(g+1):Nat):Int)+1)=((2*(g+1)+1:Nat):Int):=ai_ (by omega);rw[e1,e2,e3,dk_ (by omega)];simp only[qBs];rw[ai_ (by omega)];rfl
theorem m7_{s:Str}{d i g n:Nat}{C:List Xz}{bad:Int}(h:s[i]? = some 40):ar_ (ah_ n) (ps s i g C bad) (d:Int)=(bE_ (ah_ n) (ps s i g C bad) (d:Int)).bind λy=>some (y.1,y.2):=by
 unfold ar_;rw[bL_ h];simp only[qBs,Bool.not_true,cond_false];rw[show((((40:UInt8).toNat:Int)==40))=true from rfl,cond_true];cases bE_ (ah_ n) (ps s i g C bad) (d:Int)<;>rfl
theorem go_inner{s:Str}{d i g e:Nat}(h:s[i]? = some 40)(hg9:g<9)(ih:GoP s .rx (d+1) (i+1) (g+1) (.err e)):GoP s .at d i g (.err e):=by
 intro hs hi hg hd C bad n hC hn hc;have hlt:=av_ h;obtain⟨p,hp,hb⟩:=ih hs (by omega) (by omega) (by omega) (C++[aM_ (2*(g+1))]) bad n (by simp only[qLa,qLc,List.length_nil];omega) (by omega);refine⟨p,?_,hb⟩;rw[m7_ h,lH_ hlt hs hg9 hd (by omega),hp];rfl
theorem go_unc{s:Str}{d i g q g1:Nat}{a:Re}(h:s[i]? = some 40)(hg9:g<9)(ih:GoP s .rx (d+1) (i+1) (g+1) (.ok a q g1))(hc:s[q]? ≠ some 41):GoP s .at d i g (.err q):=by
 intro hs hi hg hd C bad n hC hn _;have hlt:=av_ h;have hp:_=_:=ih hs (by omega) (by omega) (by omega) (C++[aM_ (2*(g+1))]) bad n (by simp only[qLa,qLc,List.length_nil];omega) (by omega);refine⟨ps s q g1 ((C++[aM_ (2*(g+1))])++a.code (C++[aM_ (2*(g+1))]).length) (q:Int),?_,rfl⟩;rw[m7_ h,lH_ hlt hs hg9 hd (by omega),hp];simp only[qBs,Bool.not_true,cond_false];rw[next_f hs (c:=41) (k:=41) rfl hc];rfl
theorem go_grp{s:Str}{d i g q g1:Nat}{a:Re}(h:s[i]? = some 40)(hg9:g<9)(hr:RP s .rx (d+1) (i+1) (g+1) (.ok a q g1))(ih:GoP s .rx (d+1) (i+1) (g+1) (.ok a q g1))(hc:s[q]? = some 41):GoP s .at d i g (.ok (.grp (g+1) a) (q+1) g1):=by
 intro hs hi hg hd C bad n hC hn _;have hlt:=av_ h;have hgood:=hr.good (by omega) (by omega);simp only[PK.inc]at hgood;have hp:_=_:=ih hs (by omega) (by omega) (by omega) (C++[aM_ (2*(g+1))]) bad n (by simp only[qLa,qLc,List.length_nil];omega) (by omega);show _=_;rw[m7_ h,lH_ hlt hs hg9 hd (by omega),hp];simp only[qBs,Bool.not_true,cond_false];rw[next_t hs (c:=41) (k:=41) rfl hc];simp only[qBs,Bool.not_true,cond_false];rw[dk_ (by simp only[qLa,qLc,List.length_nil,aA_];omega)];simp only[qBs,Re.code];rw[show(C++[aM_ (2*(g+1))]).length=C.length+1 from by simp,List.append_assoc,List.append_assoc,List.singleton_append]
theorem go_sym{s:Str}{d i g:Nat}{c:UInt8}(h:s[i]? = some c)(hc:c=42\/c=43\/c=63):GoP s .at d i g (.err i):=by
 intro hs hi hg hd C bad n hC hn _;refine⟨ps s i g C (i:Int),?_,rfl⟩;unfold ar_;rw[bL_ h];rcases hc with rfl|rfl|rfl<;>rfl
theorem lI_{s:Str}{i g:Nat}{C:List Xz}{bad:Int}(hlt:i<9000000):some (true,regex_parser.mk s (w64 ((i:Int)+1)) (g:Int) C bad)=some (true,ps s (i+1) g C bad):=by
 rw[ai_ (by omega)];rfl
theorem go_any{s:Str}{d i g:Nat}(h:s[i]? = some 46):GoP s .at d i g (.ok .any (i+1) g):=by
 intro hs hi hg hd C bad n hC hn _;show _=_;unfold ar_;rw[bL_ h];simp only[qBs,Bool.not_true,cond_false];rw[dk_ (x:=Xz.mk 2 0 [] false 0 0) (by omega)];exact lI_ (by omega)
theorem go_bol{s:Str}{d i g:Nat}(h:s[i]? = some 94):GoP s .at d i g (.ok .bol (i+1) g):=by
 intro hs hi hg hd C bad n hC hn _;show _=_;unfold ar_;rw[bL_ h];simp only[qBs,Bool.not_true,cond_false];rw[dk_ (x:=Xz.mk 4 0 [] false 0 0) (by omega)];exact lI_ (by omega)
theorem go_eol{s:Str}{d i g:Nat}(h:s[i]? = some 36):GoP s .at d i g (.ok .eol (i+1) g):=by
 intro hs hi hg hd C bad n hC hn _;show _=_;unfold ar_;rw[bL_ h];simp only[qBs,Bool.not_true,cond_false];rw[dk_ (x:=Xz.mk 5 0 [] false 0 0) (by omega)];exact lI_ (by omega)
theorem go_cls{s:Str}{d i g:Nat}{r:SR}(h:s[i]? = some 91)(hc:Cx s (clsI s (i+1)) [] r):GoP s .at d i g (clsR g (clsN s (i+1)) r):=by
 intro hs hi hg hd C bad n hC hn _;have e1:regex_parser.mk (ps s i g C bad).s_ (w64 ((ps s i g C bad).at_+1)) (ps s i g C bad).groups_ (ps s i g C bad).code_ (ps s i g C bad).bad_=ps s (i+1) g C bad:=by
  unfold ps;simp only[];rw[ai_ (by omega)]
 have e2:ar_ (ah_ n) (ps s i g C bad) (d:Int)=some (clsP s g C bad (clsN s (i+1)) r):=by
  unfold ar_;rw[bL_ h];simp only[qBs,Bool.not_true,cond_false];rw[e1,class_eq hs (by omega) hc];rfl
 show ResP s C bad (ar_ (ah_ n) (ps s i g C bad) (d:Int)) _;rw[e2];cases r with
 | err e=>exact⟨_,rfl,rfl⟩
 | ok x q=>rfl
theorem go_esc{s:Str}{d i g:Nat}(h:s[i]? = some 92):GoP s .at d i g (escR g (escS s i)):=by
 intro hs hi hg hd C bad n hC hn _;have hlt:=av_ h;show ResP s C bad (ar_ (ah_ n) (ps s i g C bad) (d:Int)) _;unfold ar_;rw[bL_ h];simp only[qBs,Bool.not_true,cond_false];rw[pH_ hs hlt];cases escS s i with
 | err e=>exact⟨_,rfl,rfl⟩
 | ok b q =>
  simp only[qBs,Bool.not_true,cond_false];rw[dk_ (i:=q) (x:=Xz.mk 1 (b.toNat:Int) [] false 0 0) (by omega)];rfl
theorem go_chr{s:Str}{d i g:Nat}{c:UInt8}(h:s[i]? = some c)(hc:spec c=false):GoP s .at d i g (.ok (.chr c) (i+1) g):=by
 intro hs hi hg hd C bad n hC hn _;show _=_;unfold spec at hc;simp only[Bool.or_eq_false_iff]at hc;obtain⟨⟨⟨⟨⟨⟨⟨⟨⟨⟨a1,a2⟩,a3⟩,a4⟩,a5⟩,a6⟩,a7⟩,a8⟩,a9⟩,a10⟩,a11⟩:=hc;have k (m:UInt8) (z:Int) (hz:z=(m.toNat:Int)) (hm:(c==m)=false):((c.toNat:Int)==z)=false:=by
  subst hz;rw[←hm];exact bO_ c m
 unfold ar_;rw[bL_ h];simp only[qBs,Bool.not_true,cond_false];rw[k 40 40 rfl a1,k 41 41 rfl a2,k 42 42 rfl a4,k 43 43 rfl a5,k 63 63 rfl a6,k 46 46 rfl a7,k 94 94 rfl a8,k 36 36 rfl a9,k 91 91 rfl a10,k 92 92 rfl a11];simp only[cond_false,qBs];rw[dk_ (by omega)];exact lI_ (by omega)
theorem lJ_{s:Str}{d i g n:Nat}{C:List Xz}{bad:Int}{r:PX}(h:ResO s C bad (af_ (bd_ (d:Int) (ah_ n)) BIG (s,(i:Int),(g:Int),bad,C)) r):ResP s C bad (ch_ (ah_ n) (ps s i g C bad) (d:Int)) r:=by
 have e:ch_ (ah_ n) (ps s i g C bad) (d:Int)=(af_ (bd_ (d:Int) (ah_ n)) BIG (s,(i:Int),(g:Int),bad,C)).bind λwo1=>match wo1 with
  | .ret r1=>some r1
  | .fall _=>none:=rfl
 rw[e];cases r with
 | err e =>
  obtain⟨p,hp,hb⟩:=h;rw[hp];exact⟨p,rfl,hb⟩
 | ok a q g1 =>
  have h:_=_:=h;rw[h];rfl
theorem regex_S{n:Nat}{p:regex_parser}{d:Int}:ah_ (n+1) p d=bX_ (ah_ n) p d:=rfl
theorem go_rxbad{s:Str}{d i g e:Nat}(ih:GoP s .br d i g (.err e)):GoP s .rx d i g (.err e):=by
 intro hs hi hg hd C bad n hC hn;obtain⟨n,rfl⟩:∃k,n=k+1:=⟨n-1,by omega⟩;obtain⟨p,hp,hb⟩:=lJ_ (ih hs hi hg hd C bad n hC (by omega) BIG (by unfold BIG;omega));refine⟨p,?_,hb⟩;rw[regex_S];unfold bX_;rw[hp];rfl
theorem go_rxone{s:Str}{d i g q g1:Nat}{a:Re}(ih:GoP s .br d i g (.ok a q g1))(hq:s[q]? ≠ some 124):GoP s .rx d i g (.ok a q g1):=by
 intro hs hi hg hd C bad n hC hn;obtain⟨n,rfl⟩:∃k,n=k+1:=⟨n-1,by omega⟩;have hp:_=_:=lJ_ (ih hs hi hg hd C bad n hC (by omega) BIG (by unfold BIG;omega));show _=_;rw[regex_S];unfold bX_;rw[hp];simp only[qBs,Bool.not_true,cond_false];rw[next_f hs (c:=124) (k:=124) rfl hq];rfl
theorem rx_step{s:Str}{d i g q g1 n:Nat}{a:Re}{C:List Xz}{bad:Int}(hs:s.length<=1000)(hl:C.length+a.len<=20000)(hgr:a.grps 100)
  (hp:ch_ (ah_ n) (ps s i g C bad) (d:Int)=some (true,ps s q g1 (C++a.code C.length) bad)) (hq:s[q]? = some 124) :
  ah_ (n+1) (ps s i g C bad) (d:Int)=(ah_ n (ps s (q+1) g1 (C++(bx_ (C.length+1) (C.length+a.len+2)::(a.code (C.length+1)++[cB_ 0]))) bad) (d:Int)).bind λy6 =>
   (bif(!y6.1)then
    some ((false,y6.2))
   else
    (ag_ y6.2.code_ ((C.length+a.len+1:Nat):Int)).bind λy7 =>
    some ((true,(regex_parser.mk y6.2.s_ y6.2.at_ y6.2.groups_ (y6.2.code_.set (C.length+a.len+1) (Xz.mk y7.Op_ y7.C_ y7.Yx y7.Yj (y6.2.code_.length:Int) y7.Y_)) y6.2.bad_)))):=by
 have hlen1:(a.code (C.length+1)).length=a.len:=aA_ a _;rw[regex_S];unfold bX_;rw[hp];simp only[qBs,Bool.not_true,cond_false,gY_];rw[next_t hs (c:=124) (k:=124) rfl hq];simp only[qBs,Bool.not_true,cond_false];rw[m3_ rfl (by omega) hgr];simp only[qBs];rw[dk_ (by simp only[qLa,qLc];omega)];simp only[qBs,gY_];have hk:(C++Xz.mk 6 0 [] false (w64 ((C.length:Int)+1)) 0::a.code (C.length+1)).length=C.length+a.len+1:=by
  simp only[qLa,qLc,hlen1];omega
 rw[hk,List.append_assoc,List.cons_append,cX_ rfl];simp only[qBs];rw[eU_ (fn_ _),ai_ (i:=C.length) (by omega),ai_ (by omega)];rfl
theorem go_rxerr{s:Str}{d i g q g1 e:Nat}{a:Re}(h:RP s .br d i g (.ok a q g1))(hq:s[q]? = some 124)(ih:GoP s .br d i g (.ok a q g1))(ih2:GoP s .rx d (q+1) g1 (.err e)):GoP s .rx d i g (.err e):=by
 intro hs hi hg hd C bad n hC hn;obtain⟨n,rfl⟩:∃k,n=k+1:=⟨n-1,by omega⟩;have hgood:=h.good hi hg;simp only[PK.inc]at hgood;have hlt:=av_ hq;have hp:_=_:=lJ_ (ih hs hi hg hd C bad n hC (by omega) BIG (by unfold BIG;omega));obtain⟨p,hp2,hb⟩:=ih2 hs (by omega) (by omega) (by omega) (C++(bx_ (C.length+1) (C.length+a.len+2)::(a.code (C.length+1)++[cB_ 0]))) bad n (by simp only[qLa,qLc,List.length_nil,aA_];omega) (by omega);refine⟨p,?_,hb⟩;rw[rx_step hs (by omega) hgood.2.2.2.2.2 hp hq,hp2];rfl
theorem go_rxalt{s:Str}{d i g q g1 q2 g2:Nat}{a b:Re}(h:RP s .br d i g (.ok a q g1))(hq:s[q]? = some 124)(ih:GoP s .br d i g (.ok a q g1))(ih2:GoP s .rx d (q+1) g1 (.ok b q2 g2)):GoP s .rx d i g (.ok (.alt a b) q2 g2):=by
 intro hs hi hg hd C bad n hC hn;obtain⟨n,rfl⟩:∃k,n=k+1:=⟨n-1,by omega⟩;have hgood:=h.good hi hg;simp only[PK.inc]at hgood;have hlt:=av_ hq;have hp:_=_:=lJ_ (ih hs hi hg hd C bad n hC (by omega) BIG (by unfold BIG;omega));have hp2:_=_:=ih2 hs (by omega) (by omega) (by omega) (C++(bx_ (C.length+1) (C.length+a.len+2)::(a.code (C.length+1)++[cB_ 0]))) bad n (by simp only[qLa,qLc,List.length_nil,aA_];omega) (by omega);show _=_;rw[rx_step hs (by omega) hgood.2.2.2.2.2 hp hq,hp2];have hlen1:(a.code (C.length+1)).length=a.len:=aA_ a _;simp only[qBs,Bool.not_true,cond_false,gY_];have hk:(C++(bx_ (C.length+1) (C.length+a.len+2)::(a.code (C.length+1)++[cB_ 0]))).length=C.length+a.len+2:=by
  simp only[qLa,qLc,List.length_nil,hlen1];omega
 have hk2:(C++(bx_ (C.length+1) (C.length+a.len+2)::a.code (C.length+1))).length=C.length+a.len+1:=by
  simp only[qLa,qLc,hlen1];omega
 rw[hk];have e1:(C++(bx_ (C.length+1) (C.length+a.len+2)::(a.code (C.length+1)++[cB_ 0])))++b.code (C.length+a.len+2)=(C++(bx_ (C.length+1) (C.length+a.len+2)::a.code (C.length+1)))++cB_ 0::b.code (C.length+a.len+2):=by simp
 rw[e1,cX_ (by rw[hk2])];simp only[qBs];rw[eU_ hk2.symm];have e2:(((C++(bx_ (C.length+1) (C.length+a.len+2)::a.code (C.length+1)))++cB_ 0::b.code (C.length+a.len+2)).length:Int)=((C.length+a.len+b.len+2:Nat):Int):=by
  rw[qLa,hk2];simp only[qLc,aA_];omega
 rw[e2];simp only[Re.code,List.append_assoc,List.cons_append];rfl
theorem RP.go{s:Str}{k:PK}{d i g:Nat}{r:PX}(h:RP s k d i g r):GoP s k d i g r:=by
 induction h with
 | stop h=>exact go_stop h
 | par h=>exact go_par h
 | bad h h1 h2 hp ih=>exact go_bad h h1 h2 ih
 | next h h1 h2 hp ht ih1 ih2=>exact go_next h h1 h2 hp ih1 ih2
 | pcbad h ih=>exact go_pcbad ih
 | pcok h ih=>exact go_pcok h ih
 | many h hg=>exact go_many h hg
 | inner h hg hr ih=>exact go_inner h hg ih
 | unc h hg hr hc ih=>exact go_unc h hg ih hc
 | grp h hg hr hc ih=>exact go_grp h hg hr ih hc
 | sym h hc=>exact go_sym h hc
 | any h=>exact go_any h
 | bol h=>exact go_bol h
 | eol h=>exact go_eol h
 | cls h hc=>exact go_cls h hc
 | esc h=>exact go_esc h
 | chr h hc=>exact go_chr h hc
 | rxbad h ih=>exact go_rxbad ih
 | rxone h hq ih=>exact go_rxone ih hq
 | rxerr h hq ht ih1 ih2=>exact go_rxerr h hq ih1 ih2
 | rxalt h hq ht ih1 ih2=>exact go_rxalt h hq ih1 ih2
end Go.Proofs.YtfbcbakhdkppoaaGreatDoor
