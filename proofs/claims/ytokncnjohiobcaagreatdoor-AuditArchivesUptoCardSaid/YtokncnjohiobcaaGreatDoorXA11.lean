/-
 What the statements of this seat hang on,part 11: Vd Ve Vf.
-/
import Derived.Test.YtokncnjohiobcaaGreatDoorXA10
import Derived.KernelRfl
namespace Go.Proofs.YtokncnjohiobcaaGreatDoor
open Go.Rt Go.RowKit
noncomputable section
instance outDec{a b:Type}[DecidableEq a][DecidableEq b]:DecidableEq (Out a b)
 | .ret x,.ret y=>if h:x=y then isTrue (by rw[h])else isFalse (λe=>h (by injection e))
 | .fall x,.fall y=>if h:x=y then isTrue (by rw[h])else isFalse (λe=>h (by injection e))
 | .ret _,.fall _=>isFalse (λe=>by cases e)
 | .fall _,.ret _=>isFalse (λe=>by cases e)
instance stepDec{a b:Type}[DecidableEq a][DecidableEq b]:DecidableEq (Step a b)
 | .next x,.next y=>if h:x=y then isTrue (by rw[h])else isFalse (λe=>h (by injection e))
 | .done x,.done y=>if h:x=y then isTrue (by rw[h])else isFalse (λe=>h (by injection e))
 | .next _,.done _=>isFalse (λe=>by cases e)
 | .done _,.next _=>isFalse (λe=>by cases e)
instance:DecidableEq Xd:=λ_ _=>Classical.propDecidable _
deriving instance DecidableEq for Jr
deriving instance DecidableEq for Xv
instance dq0:DecidableEq (Int×Int×tR×tR×tL Uv):=inferInstance
instance dq1:DecidableEq (tR×Int×Xv×Int×Int×Int×Int×tR×tR×tL Uv):=inferInstance
def btC{R:Type}(_:BT)(x:tO R):tO R:=x
theorem e_bt{R:Type}:@bt R=btC:=by
 funext t x
 exact tj_ t x
def lQ_ (x0:Xl) (m:Xe) (p:Int) (f:Xm):tO (P_14):=
 (kA_ m p).bind λy=>
 (ah_ m.Vw y).bind λj=>
 (cx_ f).bind λx=>
 (bZ_ f.Xj).bind λu=>
 (bif((!u)||(x !=0))then
  none
 else
  (bif((f.Xj !=100)&&(j.Yh==0))then
   none
  else
   (anO (f.Xj !=100) ((m1_ j f.Wp).bind λs=>
    some s)).bind λq=>
   (bif q then
    none
   else
    (qJ_ x0 m j f).bind λh=>
    (bif(!h.2.2.2)then
     (btC (.b (.b (.b (.b .l (.b .l .l)) (.b (.b .l .l) .l)) (.b (.b (.b .l (.b .l .l)) (.b (.b .l .l) (.b (.b .l .l) .l))) (.b (.b (.b .l .l) .l) (.b (.b .l .l) .l)))) (.b (.b (.b (.b .l (.b .l .l)) (.b (.b .l .l) .l)) (.b (.b .l (.b .l .l)) .l)) (.b (.b (.b .l (.b .l .l)) (.b (.b .l .l) (.b (.b .l .l) .l))) (.b (.b (.b .l (.b .l .l)) .l) (.b (.b .l .l) .l))))) (some (h.1,h.2.1,[(Qc.mk p h.2.2.1)])))
    else
     none))))
theorem BR_:k5_=lQ_:=by
 funext x0 j h f
 simp only[k5_,lQ_,e_bt]<;>rfl
def mx_(x0:Xl)(p:Xe)(m:Int)(x:Xm):tO (P_14):=
 (kA_ p m).bind λu=>
 (bif decide (u<0)then
  none
 else
  (m0_ x0 p).bind λj=>
  (lQ_ j.1 j.2 m x).bind λh=>
  (qK_ h.1 h.2.1).bind λf=>
  (room 432 ([]:tL Qc) h.2.2).bind λs=>
  (room 432 s f.2.2).bind λq=>
  some (f.1,f.2.1,q))
theorem e_ref36_Do:m2_=mx_:=by
 funext x0 j h f
 simp only[m2_,mx_,BR_]<;>rfl
def gc_ (f:P_40):tO (Step (P_40) (tR×Yn)):=
 (bif decide (f.2.1<((d4 (d8 (d16 f))).2.2.length:Int))then
  Option.bind (
   (ah_ (d8 f).2.2.2.1 (d4 (d8 f)).1).bind λm=>
   (ah_ (d4 (d8 (d16 f))).2.2 f.2.1).bind λj=>
   (je_ ((mx_ (Xl.mk f.2.2.1 f.2.2.2.1 (Zj.mk f.2.2.2.2.1 (d4 f).2.1 (d4 f).2.2.1) (Zv.mk (d4 f).2.2.2.1 (d8 f).1 (d8 f).2.1) (d8 f).2.2.1) m (d4 (d8 f)).2.1 j).bind λq=>
    (btC (.b .l .l) (some ((d4 (d8 (d16 f))).2.2,q)))) ((btC (.b (.b .l .l) (.b .l .l)) ((mx_ (Xl.mk f.2.2.1 f.2.2.2.1 (Zj.mk f.2.2.2.2.1 (d4 f).2.1 (d4 f).2.2.1) (Zv.mk (d4 f).2.2.2.1 (d8 f).1 (d8 f).2.1) (d8 f).2.2.1) m (d4 (d8 f)).2.1 j).bind λs=>
      some ((d4 (d8 (d16 f))).2.2,s)))))
   ) λ(p:(tL Xm)×P_14)=>
  (gE_ (Yn.mk (Xl.mk f.2.2.1 f.2.2.2.1 (Zj.mk f.2.2.2.2.1 (d4 f).2.1 (d4 f).2.2.1) (Zv.mk (d4 f).2.2.2.1 (d8 f).1 (d8 f).2.1) (d8 f).2.2.1) (d8 f).2.2.2.1 (Zb.mk (d4 (d8 f)).1 (d4 (d8 f)).2.1 (Vh.mk (d4 (d8 f)).2.2.1 (d4 (d8 f)).2.2.2.1 (d16 f).1 (d16 f).2.1 (d16 f).2.2.1) (Yd.mk (d16 f).2.2.2.1 (d4 (d16 f)).1 (d4 (d16 f)).2.1 (d4 (d16 f)).2.2.1 (d4 (d16 f)).2.2.2.1 (d8 (d16 f)).1) (Ww.mk (d8 (d16 f)).2.1 (d8 (d16 f)).2.2.1 (d8 (d16 f)).2.2.2.1) (d4 (d8 (d16 f))).1 (d4 (d8 (d16 f))).2.1)) p.2.1 p.2.2.1).bind λh=>
  (aj_ (lT_ h) BIG (f.1,0,p.2.2.2)).bind λu=>
  some (.next (u,(w64 (f.2.1+1)),h.W_.Ja,h.W_.Yb,h.W_.Vu.Db_,h.W_.Vu.Xf,h.W_.Vu.Wi,h.W_.Ze.Xf,h.W_.Ze.Vk,h.W_.Ze.L_,h.W_.Qy,h.X_,h.K_.Wt,h.K_.Ua,h.K_.Wk.Up_,h.K_.Wk.Zn,h.K_.Wk.Ws,h.K_.Wk.Wa,h.K_.Wk.Kh,h.K_.Yw.Up_,h.K_.Yw.Yh,h.K_.Yw.Ym,h.K_.Yw.Wq,h.K_.Yw.Vn,h.K_.Yw.Vt,h.K_.Vp.Zn,h.K_.Vp.Xp,h.K_.Vp.Ut,h.K_.Ye,h.K_.Zl,p.1))
 else
  some (.done (f.1,(Yn.mk (Xl.mk f.2.2.1 f.2.2.2.1 (Zj.mk f.2.2.2.2.1 (d4 f).2.1 (d4 f).2.2.1) (Zv.mk (d4 f).2.2.2.1 (d8 f).1 (d8 f).2.1) (d8 f).2.2.1) (d8 f).2.2.2.1 (Zb.mk (d4 (d8 f)).1 (d4 (d8 f)).2.1 (Vh.mk (d4 (d8 f)).2.2.1 (d4 (d8 f)).2.2.2.1 (d16 f).1 (d16 f).2.1 (d16 f).2.2.1) (Yd.mk (d16 f).2.2.2.1 (d4 (d16 f)).1 (d4 (d16 f)).2.1 (d4 (d16 f)).2.2.1 (d4 (d16 f)).2.2.2.1 (d8 (d16 f)).1) (Ww.mk (d8 (d16 f)).2.1 (d8 (d16 f)).2.2.1 (d8 (d16 f)).2.2.2.1) (d4 (d8 (d16 f))).1 (d4 (d8 (d16 f))).2.1)))))
theorem rL_:ho_=gc_:=by
 funext f
 simp only[ho_,gc_,o1_,e_ref36_Do,e_bt]<;>rfl
def iW_(x0:Yn)(q:tR):tO (Yn×(tL Xm)):=(jO_ x0.K_.Wk true q).bind λu=>(jP_ u.1 true (q.length:Int)).bind λp=>(c6_ p.2 0).bind λs=>(aj_ gc_ BIG ([],0,x0.W_.Ja,x0.W_.Yb,x0.W_.Vu.Db_,x0.W_.Vu.Xf,x0.W_.Vu.Wi,x0.W_.Ze.Xf,x0.W_.Ze.Vk,x0.W_.Ze.L_,x0.W_.Qy,x0.X_,x0.K_.Wt,x0.K_.Ua,x0.K_.Wk.Up_,x0.K_.Wk.Zn,x0.K_.Wk.Ws,x0.K_.Wk.Wa,x0.K_.Wk.Kh,x0.K_.Yw.Up_,x0.K_.Yw.Yh,x0.K_.Yw.Ym,x0.K_.Yw.Wq,x0.K_.Yw.Vn,x0.K_.Yw.Vt,x0.K_.Vp.Zn,x0.K_.Vp.Xp,x0.K_.Vp.Ut,x0.K_.Ye,x0.K_.Zl,s.1)).bind λ(f:tR×Yn)=>(jO_ p.1 false f.1).bind λm=>(jP_ m.1 false (f.1.length:Int)).bind λj=>(lD_ f.2.K_.Yw j.2).bind λh=>some ((Yn.mk f.2.W_ f.2.X_ ({ f.2.K_ with Wk:=j.1,Yw:=h.1 })),h.2.1)
theorem vB_:hc_=iW_:=by
 funext x0 f
 simp only[hc_,iW_,rL_]<;>rfl
def gQ_ (f:Yn×(tL Xm)) (q:Yd×Int×tR×Int) (_s1:Unit):tO (Step Unit (Out Unit (P_7))):=
 (bif decide (0<(f.2.length:Int))then
  (ah_ f.2 0).bind λp=>
  (bif(p.Wp==q.2.1)then
   (je_ ((je_ ((ah_ f.2 0).bind λh=>
     (btC (.b .l .l) (some (.done (.ret (f.1,h,false,0)))))) ((ah_ f.2 0).bind λj=>
     some (.done (.ret (f.1,j,false,0)))))) ((ah_ f.2 0).bind λm=>
    (btC (.b (.b .l .l) .l) (some (.done (.ret (f.1,m,false,0)))))))
  else
   none)
 else
  some (.done (.fall ())))
theorem te_:iR_=gQ_:=by
 funext f h _s1
 simp only[iR_,gQ_,o1_,e_bt]<;>rfl
def gn_(x0:Yn)(j:Xm):tO (P_7):=
 (oD_ x0.K_.Yw j).bind λf=>
 (bif(f.2.2.2 !=0)then
  none
 else
  (iW_ (Yn.mk x0.W_ x0.X_ ({ x0.K_ with Yw:=f.1 })) f.2.2.1).bind λh=>
  aft (aj_ (gQ_ h f) BIG ()) λ_=>
   none)
theorem oi_:fM_=gn_:=by
 funext x0 f
 simp only[fM_,gn_,vB_,te_]<;>rfl
def kK_ (x0:Yn):tO (Yn×Int):=
 (ah_ x0.X_ x0.K_.Wt).bind λq=>
 (mZ_ q).bind λj=>
 (bif(j.2.2 !=0)then
  none
 else
  (gE_ x0 x0.W_ j.1).bind λh=>
  (ls_).bind λp=>
  (oC_ x0.K_.Vp).bind λm=>
  (gn_ (Yn.mk h.W_ h.X_ ({ h.K_ with Ua:=j.2.1,Yw:=p,Vp:=m })) ({ (default:Xm)with Xj:=100,Yh:=8192,Zp:=[102,115,50,48,50,54] })).bind λf=>
  (bif(f.2.2.2 !=0)then
   none
  else
   (bif(f.2.1.Xj==107)then
    none
   else
    some (f.1,0))))
theorem za_:jQ_=kK_:=by
 funext x0
 simp only[jQ_,kK_,oi_]<;>rfl
def nx_(x0:Yn)(j:tR):tO (Yn×Int):=
 (sx_ x0.K_.Yw).bind λh=>
 (gn_ (Yn.mk x0.W_ x0.X_ ({ x0.K_ with Yw:=h.1,Zl:=h.2.1 })) ({ (default:Xm)with Xj:=104,Wb:=h.2.1,Za:=4294967295,Ye:=x0.K_.Ye,Wx:=j })).bind λf=>
 (bif(f.2.2.2 !=0)then
  none
 else
  (bif(f.2.1.Xj==107)then
   none
  else
   some (f.1,0)))
theorem e_ref40_root:mi_=nx_:=by
 funext x0 f
 simp only[mi_,nx_,oi_]<;>rfl
def j6_ (x0:Xl) (p:tL Xe) (h:Zb) (m:tR):tO (P_18):=
 (bif h.Yw.Up_ then
  none
 else
  (bif(!h.Wk.Up_)then
   none
  else
   (kK_ (Yn.mk x0 p h)).bind λj=>
   (bif(j.2 !=0)then
    none
   else
    (nx_ j.1 m).bind λf=>
    (bif(f.2 !=0)then
     none
    else
     some (f.1.W_,f.1.X_,f.1.K_,0)))))
theorem e_ref40_Dial:jR_=j6_:=by
 funext x0 j h f
 simp only[jR_,j6_,za_,e_ref40_root]<;>rfl
def j7_ (q:(tL Xa)) (x0:Xv) (s:tR) (j:tR) (x:Xa) (_s1:Unit):tO (Step Unit (Out Unit (Xv×Xa×Int))):=
 (bif decide (0<(q.length:Int))then
  Option.bind (
   (ah_ q 0).bind λp=>
   (je_ ((jS_ x0 s p j).bind λf=>
    (btC (.b .l .l) (some (f.2.2,f.1,f.2.1)))) ((btC (.b (.b .l .l) (.b .l .l)) ((jS_ x0 s p j).bind λh=>
      some (h.2.2,h.1,h.2.1)))))
   ) λ(m:Int×Xv×Xa)=>
  (bif(m.1==0)then
   (hd_ x.Xk j).bind λu=>
   rtn (m.2.1,{ m.2.2 with Xk:=u.1 },0)
  else
   none)
 else
  some (.done (.fall ())))
theorem xK_:lE_=j7_:=by
 funext f x0 m h j _s1
 simp only[lE_,j7_,o1_,e_bt]<;>rfl
def ny_(x0:Xv)(p:tR)(m:Yi)(f:Xa)(j:tR):tO (Xv×Xa×Int):=
 (kB_ m f).bind λh=>
 aft (aj_ (j7_ h x0 p j f) BIG ()) λ_=>
  none
theorem e_ref43_Step:mj_=ny_:=by
 funext x0 m j h f
 simp only[mj_,ny_,xK_]<;>rfl
def j8_(m:(tL tR)×Int)(q:tR)(p:Yi)(f:P_13):tO (Step (P_13) (Xv×Xa)):=
 (bif decide (f.1<(m.1.length:Int))then
  (ah_ f.2.2.1 f.1).bind λj=>
  (ny_ f.2.1 q p f.2.2.2 j).bind λh=>
  (bif(h.2.2 !=0)then
   none
  else
   some (.next ((w64 (f.1+1)),h.1,f.2.2.1,h.2.1)))
 else
  some (.done (f.2.1,f.2.2.2)))
theorem xL_:lF_=j8_:=by
 funext f j h m
 simp only[lF_,j8_,e_ref43_Step]<;>rfl
def nz_(x0:Xv)(s:tR)(j:Yi)(h:tR):tO (Xv×Xa×Int):=
 (eC_ h).bind λf=>
 (bif(f.2 !=0)then
  none
 else
  (orO (h==[]) ((ap_ h 0).bind λq=>
   some (q !=47))).bind λp=>
  (bif p then
   none
  else
   (aj_ (j8_ f s j) BIG (0,x0,f.1,{ j.Zl with Xk:=[47] })).bind λm=>
   some (m.1,m.2,0)))
theorem e_ref43_Name:mk_=nz_:=by
 funext x0 j h f
 simp only[mk_,nz_,xL_]<;>rfl
def oU_(x0:Xv)(s:tR)(q:Yi)(p:tR)(m:tR)(j:tV):tO (Xv×Xa×Int):=
 (hd_ p m).bind λf=>
 (bif(f.2 !=0)then
  none
 else
  (bif j then
   none
  else
   (nz_ x0 s q f.1).bind λh=>
   some (h)))
theorem e_ref43_old:nZ_=oU_:=by
 funext x0 p m j h f
 simp only[nZ_,oU_,e_ref43_Name]<;>rfl
def kL_ (x0:Xv) (q:tR) (p:Yi) (C:tR) (f:Qh):tO (Xv×Yi×Int):=
 (orO (decide ((f.Ks.length:Int)<2)) ((ap_ f.Ks 0).bind λy=>
  some (y !=35))).bind λx=>
 (bif x then
  none
 else
  (aA_ f.Ks 1 (f.Ks.length:Int)).bind λu=>
  (oE_ u 10 32).bind λm=>
  (bif((m.2 !=0)||decide (m.1>=(x0.Yj.Yb.length:Int)))then
   none
  else
   (oU_ x0 q p C f.Iw false).bind λh=>
   (bif(h.2.2 !=0)then
    none
   else
    (jT_ h.1 q h.2.1).bind λj=>
    (bif(j.2.2 !=0)then
     none
    else
     (bif(!j.2.1)then
      none
     else
      Option.bind (sB_ p h.2.1 (Xa.mk m.1 1 0 [] f.Ks) f.Hm) λ(s:Yi×Int)=>
      some (j.1,s))))))
theorem zb_:jU_=kL_:=by
 funext x0 m j h f
 simp only[jU_,kL_,e_ref43_old]<;>rfl
def iI_ (x0:Xv) (s:tR) (q:Yi) (f:tR) (j:Qh):tO (Xv×Yi×tR×Int):=
 (orO (f==[]) ((ap_ f 0).bind λp=>
  some (p !=47))).bind λm=>
 (bif m then
  none
 else
  (bif(j.Xj==1)then
   none
  else
   (bif(j.Xj==2)then
    (kL_ x0 s q f j).bind λh=>
    (bif(h.2.2 !=0)then
     none
    else
     some (h.1,h.2.1,f,0))
   else
    none)))
theorem BS_:ik_=iI_:=by
 funext x0 m j h f
 simp only[ik_,iI_,zb_]<;>rfl
def kM_ (p:tL Qh) (q:tR) (f:P_28):tO (Step (P_28) (tR×Xv×Yi)):=
 (bif decide (f.2.1<(p.length:Int))then
  Option.bind (
   (ah_ p f.2.1).bind λm=>
   (je_ ((iI_ f.2.2.1 q (Yi.mk f.2.2.2.1 (Xa.mk f.2.2.2.2.1 (d4 f).2.1 (d4 f).2.2.1 (d4 f).2.2.2.1 (d8 f).1) (d8 f).2) f.1 m).bind λh=>
    (btC (.b .l .l) (some (h.2.2.1,h.2.2.2,h.1,h.2.1.Id_,h.2.1.Zl.Zz,h.2.1.Zl.Id_,h.2.1.Zl.Wb,h.2.1.Zl.Yg,h.2.1.Zl.Xk,h.2.1.Uf)))) ((btC (.b (.b .l .l) (.b .l .l)) ((iI_ f.2.2.1 q (Yi.mk f.2.2.2.1 (Xa.mk f.2.2.2.2.1 (d4 f).2.1 (d4 f).2.2.1 (d4 f).2.2.2.1 (d8 f).1) (d8 f).2) f.1 m).bind λj=>
      some (j.2.2.1,j.2.2.2,j.1,j.2.1.Id_,j.2.1.Zl.Zz,j.2.1.Zl.Id_,j.2.1.Zl.Wb,j.2.1.Zl.Yg,j.2.1.Zl.Xk,j.2.1.Uf)))))
   ) λ(o2:P_28)=>
  (bif(o2.2.1 !=0)then
   none
  else
   some (.next (o2.1,(w64 (f.2.1+1)),o2.2.2)))
 else
  some (.done (f.1,f.2.2.1,(Yi.mk f.2.2.2.1 (Xa.mk f.2.2.2.2.1 (d4 f).2.1 (d4 f).2.2.1 (d4 f).2.2.2.1 (d8 f).1) (d8 f).2))))
theorem zc_:m5_=kM_:=by
 funext f h j
 simp only[m5_,kM_,o1_,BS_,e_bt]<;>rfl
def oV_(x0:Xv)(p:tR)(f:Yi)(m:tR)(j:tL Qh):tO (Xv×Yi×tR×Int×Int):=(aj_ (kM_ j p) BIG (m,0,x0,f.Id_,f.Zl.Zz,f.Zl.Id_,f.Zl.Wb,f.Zl.Yg,f.Zl.Xk,f.Uf)).bind λh=>some (h.2.1,h.2.2,h.1,(j.length:Int),0)
theorem e_ref43_Run:n0_=oV_:=by
 funext x0 m j h f
 simp only[n0_,oV_,zc_]<;>rfl
def nA_(x0:Xv)(m:Int)(h:Int):tO (Xv×Yi×Int):=(sy_ m (Xa.mk h 1 0 [] [47])).bind λ(j:Yi)=>(aj_ (rn_ x0) BIG ((w64 ((x0.Yj.Yb.length:Int)-1)),0)).bind λq=>(aj_ ro_ BIG (0,[[47,110],[47,109,110,116],[47,100,101,118],[47,110,101,116],[47,112,114,111,99],[47,101,110,118]],[(w64 (h+1)),(w64 (h+2)),(w64 (h+3)),(w64 (h+6)),(w64 (h+7)),q],[])).bind λ(p:(tL Qh))=>(oV_ x0 [97,100,109] j [47] p).bind λf=>some (f.1,f.2.1,f.2.2.2.2)
theorem e_ref52_base:ml_=nA_:=by
 funext x0 h f
 simp only[ml_,nA_,e_ref43_Run]<;>rfl
def kN_ (s:P_32) (f:P_35):tO (Step (P_35) (P_33)):=
 (bif decide (f.1<((d8 s).2.2.2.1.length:Int))then
  Option.bind (
   Option.bind (
    (ah_ (d4 (d8 f)).1 f.1).bind λp=>
    (je_ (Option.bind (j6_ (Xl.mk f.2.1 f.2.2.1 (Zj.mk f.2.2.2.1 f.2.2.2.2.1 (d4 f).2.1) (Zv.mk (d4 f).2.2.1 (d4 f).2.2.2.1 (d8 f).1) (d8 f).2.1) (d8 f).2.2.1 p []) λ(j:P_18)=>
     (btC (.b .l .l) (some (j.2.1,j.2.2.2,(d4 (d8 f)).1,j.1,j.2.2.1)))) ((btC (.b (.b .l .l) (.b .l .l)) (Option.bind (j6_ (Xl.mk f.2.1 f.2.2.1 (Zj.mk f.2.2.2.1 f.2.2.2.2.1 (d4 f).2.1) (Zv.mk (d4 f).2.2.1 (d4 f).2.2.2.1 (d8 f).1) (d8 f).2.1) (d8 f).2.2.1 p []) λ(m:P_18)=>
       some (m.2.1,m.2.2.2,(d4 (d8 f)).1,m.1,m.2.2.1)))))
    ) λ(h:(tL Xe)×Int×(tL Zb)×Xl×Zb)=>
   (bif(h.2.1 !=0)then
    none
   else
    (btC (.b (.b (.b .l (.b .l .l)) .l) (.b (.b (.b .l (.b .l .l)) .l) (.b .l .l))) ((ah_ h.2.2.1 f.1).bind λ_=>
       some (h.2.2.2.1.Ja,h.2.2.2.1.Yb,h.2.2.2.1.Vu.Db_,h.2.2.2.1.Vu.Xf,h.2.2.2.1.Vu.Wi,h.2.2.2.1.Ze.Xf,h.2.2.2.1.Ze.Vk,h.2.2.2.1.Ze.L_,h.2.2.2.1.Qy,h.1,(d8 f).2.2.2.1,(h.2.2.1.set f.1.toNat h.2.2.2.2),(d4 (d8 f)).2))))
   ) λ(q:P_33)=>
  some (.next ((w64 (f.1+1)),q))
 else
  some (.done f.2))
theorem zd_:m6_=kN_:=by
 funext h f
 simp only[m6_,kN_,o1_,e_ref40_Dial,e_bt]<;>rfl
def oW_ (x0:tL tR):tO (Xv×Int):=
 (oA_ x0).bind λx=>
 (bif(x !=0)then
  none
 else
  Option.bind (aj_ (sC_ x0) BIG (0,0,0,0,0,0,[],[(Uj.mk [(Xr.mk [110,101,116] [116,99,112] false)])],[],[],[],[],[],[],[],[],[])) λ(u:P_32)=>
  (ls_).bind λs=>
  (qG_ s).bind λq=>
  (aj_ (sD_ x0 q) BIG (0,(u.1,1,u.2.2))).bind λj=>
  (room 520 (d4 j).2.1 [{ (default:Yp)with Xj:=8,Vk:=1 }]).bind λp=>
  (st_ [97,100,109]).bind λh=>
  (bif(h.2 !=0)then
   none
  else
   Option.bind (aj_ (kN_ j) BIG (0,(j.1,p,(d4 j).2.2.1,j.2.1,(d4 j).2.2.2.1,h.1.Xf,h.1.Vk,h.1.L_,[(Vz.mk 1 2 [])],(d8 j).2.2.1,j.2.2.2.2.1,(d8 j).2.2.2))) λ(f:P_33)=>
   (nA_ (Xv.mk (Xl.mk f.1 f.2.1 (Zj.mk f.2.2.1 f.2.2.2.1 f.2.2.2.2.1) (Zv.mk (d4 f).2.1 (d4 f).2.2.1 (d4 f).2.2.2.1) (d8 f).1) (d8 f).2.1 (d8 f).2.2.2.1 (d4 (d8 f)).1 (d4 (d8 f)).2.1 (d4 (d8 f)).2.2.1 (d4 (d8 f)).2.2.2 (d8 f).2.2.1) 1 0).bind λm=>
   (bif(m.2.2 !=0)then
    none
   else
    some ({ m.1 with Qg:=[m.2.1],Xo:=[(Qd.mk 1 [])] },0))))
theorem e_ref52_New:n1_=oW_:=by
 funext x0
 simp only[n1_,oW_,zd_,e_ref52_base]<;>rfl
def rD_  : tO tV:=
 (oW_ [[97],[98]]).bind λf=>
 (bif(f.2 !=0)then
  none
 else
  (fA_ ({ f.1 with Jc:=(-1) })).bind λj=>
  (fA_ f.1).bind λy=>
  (bif ((y.length:Int)==0)then
   (il_ f.1).bind λx=>
   (bif x then
    (fd_ f.1).bind λu=>
    (bif u then
     (bif ((j.length:Int)==1)then
      (ah_ j 0).bind λs=>
      (bif(s.Xj==1)then
       (il_ ({ f.1 with Jc:=(-1) })).bind λq=>
       (bif(!q)then
        (fd_ ({ f.1 with Jc:=(-1) })).bind λp=>
        (bif(!p)then
         (jX_ (Yk.mk 5 0 2)).bind λm=>
         (bif(m==[115,116,97,108,101,32,48,32,50])then
          (jX_ (Yk.mk 7 0 0)).bind λh=>
          some (h==[])
         else
          some (false))
        else
         some (false))
       else
        some (false))
      else
       some (false))
     else
      some (false))
    else
     some (false))
   else
    some (false))
  else
   some (false)))
theorem BT_:eI_=rD_:=by
 simp only[eI_,rD_,e_ref52_New]<;>rfl
theorem awake_eq:eI_=some true:=by
 rw[BT_]
 kernel_rfl
end
theorem t_small{x0:Xv}[Ft x0]:W (λy=>y=true->Sy x0) (kV_ x0):=by
 unfold kV_ ot_;refine ag_ (P:=λy=>y=true->Sw x0.Yj) (al_ (λ_=>ai_ (by simp)) λ_=>bE_ (P:=λ_=>Sw x0.Yj) (W_forI (I:=λs=>∀d∈x0.Yj.Yb.take s.toNat,Sd d) nn (by simp) (λs a b c q=>?_) (λs a b q=>?_)) λ_ h=>ai_ λ_=>h) λy j=>ai_ λh=>⟨j (by simp at h;exact h.1.1.1.1.1.1)⟩
 .obtain⟨y,ey,j⟩:=bg_ (xs:=x0.Yj.Yb) a b;refine bQ_ ey (ag_ (P:=λr=>r=true->Sd y) (ai_ λh=>?_) λr hr=>al_ (λ_=>j5_ (by simp)) λe=>St_n a b c ?_)
  .simp only[qAn,qDe]at h;exact⟨by omega,by omega,by omega,by omega,by omega,by omega,by omega,by omega⟩
  .have m:x0.Yj.Yb[s.toNat]? = some y:=by
    unfold ah_ at ey;rw[qY a]at ey;exact ey
   have p:(s+1).toNat=s.toNat+1:=by omega
   intro z f;rw[p,List.take_add_one,m]at f;rcases qW.1 f with f|f
   .exact q z f
   .obtain rfl:=qT.1 f;exact hr (by simpa using e)
 .rw[zA (by omega)]at q;exact⟨q⟩
theorem loop_eq{x y:tL Xx}{body:Int->tO (Step Int (Out Unit tV))}(u:x.length=y.length)(hx:x.length<=9223372036854775806)
  (q:∀s,body s=bif decide (s<(x.length:Int))then(ah_ x s).bind λa=>(ah_ y s).bind λb=>bif(!decide (a=b))then some (.done (.ret false))else some (.next (w64 (s+1)))else some (.done (.fall ()))) :
  ∃r,aj_ body BIG 0=some r/\((r = .fall ()/\x=y)\/(r = .ret false/\x≠y)):=by
 have h:=b8_ (body:=body) x (λi a=>if y[i]? = some a then none else some false) (cp_ (by omega)) (λi hi=>?_) (by rw[q];exact am_ (fD_ _) rfl)
 .refine⟨_,h,?_⟩;cases m:be_ (λi a=>if y[i]? = some a then none else some false) 0 x with
  | none=>
   refine .inl ⟨rfl,zG λi=>?_⟩;cases hi:x[i]? with
   | none=>rw[List.getElem?_eq_none_iff]at hi;exact(qe (by omega)).symm
   | some a=>
    have:=scan_none.1 m i a hi;rw[qj]at this;split at this
    .rename_i e;exact e.symm
    .cases this
  | some r=>
   refine .inr ⟨?_,λe=>?_⟩
   .obtain⟨i,a,_,j,_⟩:=n9_ m;split at j
    .cases j
    .obtain rfl:=qSj j;rfl
   .subst e;have:be_ (λi a=>if x[i]? = some a then none else some false) 0 x=none:=scan_none.2 λi a j=>by rw[qj,qY j]
    rw[this]at m;cases m
 .have p:i<y.length:=by omega
  rw[q];refine an_ (fg_ hi) (ae_ (bb_ hi) (ae_ (bb_ p) ?_));rw[aS_ (by omega),qQ p];by_cases e:x[i]=y[i]
  .rw[qY (by rw[e])];simp[e];rfl
  .rw[qG (by intro f;exact e (qSj f).symm)];simp[e];rfl
theorem equal_eq{x y:tL Xx}(h:x.length<=1024):b7_ x y=some (decide (x=y)):=by
 unfold b7_;by_cases f:x.length=y.length
 .obtain⟨r,e,q⟩:=loop_eq (body:=eu_ x y) f (by omega) λs=>rfl
  refine am_ (by simp[f]) (ae_ e ?_);rcases q with⟨rfl,q⟩|⟨rfl,q⟩
  .simp[q]
  .simp[q]
 .refine an_ (by simp;omega) ?_;have:x≠y:=λe=>f (by rw[e])
  simp[this]
theorem same_eq{t u:Xb}(h:t.Xz.length<=1024):hf_ t u=some (decide (t.Xf=u.Xf)&&decide (t.Xz=u.Xz)):=by
 unfold hf_;by_cases f:t.Xf=u.Xf
 .by_cases j:t.Xz.length=u.Xz.length
  .obtain⟨r,e,q⟩:=loop_eq (body:=lX_ t u) j (by omega) λs=>rfl
   refine am_ (by simp[f,j]) (ae_ e ?_);rcases q with⟨rfl,q⟩|⟨rfl,q⟩
   .simp[q,f]
   .simp[q]
  .refine an_ (by simp;omega) ?_;have:t.Xz≠u.Xz:=λe=>j (by rw[e])
   simp[this]
 .exact an_ (by simp[f]) (by simp[f])
theorem vC_{x0:Xv}{f q:Int}{p:Xb}[Ft x0]:cR_ x0 f q p=some true:=by
 unfold cR_;rw[awake_eq];have C:((some true:tO tV).bind λF=>some F)=some true:=rfl;obtain⟨b,Y,h1⟩:=t_small (x0:=x0);refine ae_ Y ?_;cases b with
 | false=>exact ae_ (a:=true) rfl C
 | true=>
  have J:=h1 rfl;obtain⟨r,V,x⟩:=BQ_ (x0:=x0);refine ae_ (a:=decide ((p.Xz.length:Int)>200) || !r) (by
   cases decide ((p.Xz.length:Int)>200)
   .exact ae_ V rfl
   .rfl) ?_
  cases M:decide ((p.Xz.length:Int)>200) || !r with
  | true=>exact C
  | false=>
   have hr:r=true:=by simpa using(qP.1 M).2
   have x:=x hr;refine am_ (A:=some true) rfl ?_
   -- which device
   by_cases y:0<=f/\f<(x0.Yj.Yb.length:Int)
   .obtain⟨d,ed,md⟩:=bg_ (xs:=x0.Yj.Yb) y.1 y.2;have D:(decide (f<0)||decide (f>=(x0.Yj.Yb.length:Int)))=false:=by simp;omega
    by_cases u:d.Xj=2
    .have fd:Ft d:=(inferInstance:Ft x0.Yj.Yb).el md;have sd:=J.ok.ok d md;obtain⟨b,U,O⟩:=xE_ (d:=d);have ok:Ok17 d.Zt:=O.1 (qSj (U.symm.trans (x d md u)));obtain⟨T,E,G,t2,t3⟩:=Tree_eq ok q;have m:(orO (decide (f<0)||decide (f>=(x0.Yj.Yb.length:Int))) ((ah_ x0.Yj.Yb f).bind λs=>some (s.Xj !=2)))=some false:=by
      rw[D];exact ae_ ed (by rw[u];rfl)
     have h:∀t:Xb,bN_ x0 f q t=some ((E==0)&&decide (T.Xf=t.Xf)&&decide (T.Xz=t.Xz)):=λt=>by
      unfold bN_;refine ae_ m (am_ rfl (ae_ ed (ae_ G ?_)));refine ae_ (a:=(E==0)&&decide (T.Xf=t.Xf)&&decide (T.Xz=t.Xz)) ?_ rfl;show anO ((E==0)&&(T.Xf==t.Xf)) _=_;have:(T.Xf==t.Xf)=decide (T.Xf=t.Xf):=rfl;rw[this];cases(E==0)&&decide (T.Xf=t.Xf)
      .rfl
      .exact ae_ (equal_eq t3) rfl
     have j:∀t:Xb,cn_ x0 f q t=some ((E==0)&&decide (T.Xf=t.Xf)&&decide (T.Xz=t.Xz)):=λt=>by
      unfold cn_;refine ae_ m (am_ rfl (ae_ ed (ae_ t2 ?_)));refine ae_ (a:=(E==0)&&decide (T.Xf=t.Xf)&&decide (T.Xz=t.Xz)) ?_ rfl;show anO (E==0) _=_;cases E==0
      .rfl
      .exact ae_ (same_eq t3) rfl
     refine ae_ (h p) (ae_ (j p) (am_ (by simp) (ae_ m (am_ rfl (ae_ ed (ae_ t2 (ae_ (h T) ?_)))))));refine ae_ (a:=true) ?_ rfl;show anO (((E==0)&&decide (T.Xf=T.Xf)&&decide (T.Xz=T.Xz))==(E==0)) _=_;have:(((E==0)&&decide (T.Xf=T.Xf)&&decide (T.Xz=T.Xz))==(E==0))=true:=by simp
     rw[this];rfl
    .have m:(orO (decide (f<0)||decide (f>=(x0.Yj.Yb.length:Int))) ((ah_ x0.Yj.Yb f).bind λs=>some (s.Xj !=2)))=some true:=by
      rw[D];exact ae_ ed (qM some (by simpa using u))
     have h:bN_ x0 f q p=some false:=by
      unfold bN_;exact ae_ m rfl
     have j:cn_ x0 f q p=some false:=by
      unfold cn_;exact ae_ m rfl
     exact ae_ h (ae_ j (am_ rfl (ae_ m (an_ rfl (ae_ h rfl)))))
   .have m:(orO (decide (f<0)||decide (f>=(x0.Yj.Yb.length:Int))) ((ah_ x0.Yj.Yb f).bind λs=>some (s.Xj !=2)))=some true:=by
     have:(decide (f<0)||decide (f>=(x0.Yj.Yb.length:Int)))=true:=by simp;omega
     rw[this];rfl
    have h:bN_ x0 f q p=some false:=by
     unfold bN_;exact ae_ m rfl
    have j:cn_ x0 f q p=some false:=by
     unfold cn_;exact ae_ m rfl
    exact ae_ h (ae_ j (am_ rfl (ae_ m (an_ rfl (ae_ h rfl)))))
theorem sP{s:tR}(h:s.length<=1048576):Sm.p s:=(Ft.str h).ok
theorem lP{α:Type}[Sm α]{l:tL α}(h:l.length<=1048576)(k:∀x∈l,Sm.p x)(e:Sm.sz α=1:=by rfl):Sm.p l:=⟨by rw[e];omega,k⟩
abbrev bw_(m:Nat)(x:teS m):Prop:=Fit 1048576 te (.st m) x
theorem fitR:∀n,(∀x:Xt,SizeOf.sizeOf x<n->bw_ 0 x->OkW x)/\(∀x:Vl,SizeOf.sizeOf x<n->bw_ 1 x->OkR x)/\(∀x:Xd,SizeOf.sizeOf x<n->bw_ 2 x->OkC x)
 | 0=>⟨λ_ h=>absurd h (zV _),λ_ h=>absurd h (zV _),λ_ h=>absurd h (zV _)⟩
 | n+1=>by
  have g:=fitR n;refine⟨λx hx h=>?_,λx hx h=>?_,λx hx h=>?_⟩
  .have s:=oh_ x;have a:∀y∈x.Yr,OkW y:=λy q=>g.1 y (by have:=qu q;omega) λk=>(h (k+1)).2.2.2.1.2 y q
   have b:∀y∈x.Jj,OkC y:=λy q=>g.2.2 y (by have:=qu q;omega) λk=>(h (k+1)).2.2.2.2.1.2 y q
   have f:x.Yr.length<=1048576:=(h 0).2.2.2.1;have l2:x.Jj.length<=1048576:=(h 0).2.2.2.2.1;have c:Sm.p x.Wf:=sP (h 0).2.1;have d:Sm.p x.Ub:=sP (h 0).2.2.1;cases x
   exact .mk c d (by rw[Nat.mul_one];exact f) a (by rw[Nat.mul_one];exact l2) b
  .have s:=q4_ x;have a:OkW x.Uy:=g.1 x.Uy (by omega) λk=>⟨(h k).2.2.2.1,(h k).2.2.2.2.1,(h k).2.2.2.2.2.1,(h k).2.2.2.2.2.2.1,(h k).2.2.2.2.2.2.2.1,trivial⟩
   cases x
   exact .mk a
  .have s:=nw_ x;have a:∀y∈x.Yr,OkW y:=λy q=>g.1 y (by have:=qu q;omega) λk=>(h (k+1)).2.2.2.1.2 y q
   have b:∀y∈x.Vg,OkR y:=λy q=>g.2.1 y (by have:=qu q;omega) λk=>(h (k+1)).2.2.2.2.1.2 y q
   have c:∀y∈x.We,OkC y:=λy q=>g.2.2 y (by have:=qu q;omega) λk=>(h (k+1)).2.2.2.2.2.1.2 y q
   have f:x.Yr.length<=1048576:=(h 0).2.2.2.1;have l2:x.Vg.length<=1048576:=(h 0).2.2.2.2.1;have j:x.We.length<=1048576:=(h 0).2.2.2.2.2.1;have d:Sm.p x.Xk:=sP (h 0).2.2.1;cases x
   exact .mk d (by rw[Nat.mul_one];exact f) a (by rw[Nat.mul_one];exact l2) b (by rw[Nat.mul_one];exact j) c
theorem tf_{x:Yo}(h:bw_ 3 x):Sm.p x:=⟨sP (h 0).1,sP (h 0).2.1,lP (h 0).2.2.1 (λx0 f=>sP ((h 1).2.2.1.2 x0 f).1)⟩
theorem rE_{x:Uq}(h:bw_ 4 x):Sm.p x:=sP (h 0).1
theorem tg_{x:Xx}(h:bw_ 5 x):Sm.p x:=⟨sP (h 0).2.2.2.1,sP (h 0).2.2.2.2.2.1,sP (h 0).2.2.2.2.2.2.1,sP (h 0).2.2.2.2.2.2.2.1,sP (h 0).2.2.2.2.2.2.2.2.2.2.1,(h 0).2.2.2.2.1⟩
theorem BU_{x:Zx}(h:bw_ 8 x):Sm.p x:=⟨sP (h 0).1,sP (h 0).2.2.1⟩
theorem fit_api_Snap{x:Vi}(h:bw_ 10 x):Sm.p x:=sP (h 0).2.1
theorem fit_api_Pipe{x:Jn}(h:bw_ 14 x):Sm.p x:=⟨sP (h 0).2.1,sP (h 0).2.2.2.2.2.1⟩
theorem ze_{x:Kz}(h:bw_ 17 x):Sm.p x:=⟨sP (h 0).2.1,⟨sP (h 0).2.2.2.1,lP (h 0).2.2.2.2.1 (λx0 f=>sP ((h 1).2.2.2.2.1.2 x0 f).1)⟩,sP (h 0).2.2.2.2.2.1⟩
theorem xM_{x:Qx}(h:bw_ 19 x):Sm.p x:=⟨sP (h 0).1,sP (h 0).2.1,sP (h 0).2.2.1⟩
theorem fit_api_Rule{x:Ue}(h:bw_ 20 x):Sm.p x:=lP (h 0).1 (λx0 f=>xM_ λk=>(h (k+1)).1.2 x0 f)
theorem j9_{x:Xr}(h:bw_ 21 x):Sm.p x:=⟨sP (h 0).1,sP (h 0).2.1⟩
theorem BV_{x:Wm}(h:bw_ 22 x):Sm.p x:=⟨sP (h 0).1,sP (h 0).2.1,sP (h 0).2.2.1,sP (h 0).2.2.2.1,lP (h 0).2.2.2.2.1 (λx0 f=>j9_ λk=>(h (k+1)).2.2.2.2.1.2 x0 f),sP (h 0).2.2.2.2.2.1⟩
theorem fit_api_Port{x:Ui}(h:bw_ 23 x):Sm.p x:=⟨sP (h 0).1,lP (h 0).2.1 (λx0 f=>BV_ λk=>(h (k+1)).2.1.2 x0 f)⟩
theorem fit_api_Conv{x:Wd}(h:bw_ 25 x):Sm.p x:=⟨sP (h 0).2.1,lP (h 0).2.2.2.2.2.1 (λx0 f=>j9_ λk=>(h (k+1)).2.2.2.2.2.1.2 x0 f),sP (h 0).2.2.2.2.2.2.1,sP (h 0).2.2.2.2.2.2.2.1,sP (h 0).2.2.2.2.2.2.2.2.1⟩
theorem zf_{x:Yp}(h:bw_ 27 x):Sm.p x:=⟨⟨lP (h 0).2.1 (λx0 f=>tf_ λk=>(h (k+1)).2.1.2 x0 f),lP (h 0).2.2.1 (λx0 f=>rE_ λk=>(h (k+1)).2.2.1.2 x0 f),lP (h 0).2.2.2.2.1 (λx0 f=>tg_ λk=>(h (k+1)).2.2.2.2.1.2 x0 f),lP (h 0).2.2.2.2.2.1 (λ_ _=>trivial)⟩,⟨⟨lP (h 0).2.2.2.2.2.2.1 (λx0 f=>tf_ λk=>(h (k+1)).2.2.2.2.2.2.1.2 x0 f),lP (h 0).2.2.2.2.2.2.2.1 (λx0 f=>rE_ λk=>(h (k+1)).2.2.2.2.2.2.2.1.2 x0 f),lP (h 0).2.2.2.2.2.2.2.2.2.1 (λx0 f=>tg_ λk=>(h (k+1)).2.2.2.2.2.2.2.2.2.1.2 x0 f),lP (h 0).2.2.2.2.2.2.2.2.2.2.1 (λ_ _=>trivial)⟩,lP (h 0).2.2.2.2.2.2.2.2.2.2.2.2.1 (λx0 f=>BU_ λk=>(h (k+1)).2.2.2.2.2.2.2.2.2.2.2.2.1.2 x0 f),lP (h 0).2.2.2.2.2.2.2.2.2.2.2.2.2.1 (λx0 f=>fit_api_Snap λk=>(h (k+1)).2.2.2.2.2.2.2.2.2.2.2.2.2.1.2 x0 f)⟩,lP (h 0).2.2.2.2.2.2.2.2.2.2.2.2.2.2.2.1 (λx0 f=>fit_api_Pipe λk=>(h (k+1)).2.2.2.2.2.2.2.2.2.2.2.2.2.2.2.1.2 x0 f),lP (h 0).2.2.2.2.2.2.2.2.2.2.2.2.2.2.2.2.2.2.1 (λx0 f=>ze_ λk=>(h (k+1)).2.2.2.2.2.2.2.2.2.2.2.2.2.2.2.2.2.2.1.2 x0 f),⟨lP (h 0).2.2.2.2.2.2.2.2.2.2.2.2.2.2.2.2.2.2.2.1 (λx0 f=>fit_api_Rule λk=>(h (k+1)).2.2.2.2.2.2.2.2.2.2.2.2.2.2.2.2.2.2.2.1.2 x0 f),lP (h 0).2.2.2.2.2.2.2.2.2.2.2.2.2.2.2.2.2.2.2.2.1 (λx0 f=>fit_api_Port λk=>(h (k+1)).2.2.2.2.2.2.2.2.2.2.2.2.2.2.2.2.2.2.2.2.1.2 x0 f)⟩,⟨sP (h 0).2.2.2.2.2.2.2.2.2.2.2.2.2.2.2.2.2.2.2.2.2.1,sP (h 0).2.2.2.2.2.2.2.2.2.2.2.2.2.2.2.2.2.2.2.2.2.2.1,lP (h 0).2.2.2.2.2.2.2.2.2.2.2.2.2.2.2.2.2.2.2.2.2.2.2.1 (λx0 f=>lP ((h 1).2.2.2.2.2.2.2.2.2.2.2.2.2.2.2.2.2.2.2.2.2.2.2.1.2 x0 f).1 (λj m=>j9_ λk=>((h (k+1+1)).2.2.2.2.2.2.2.2.2.2.2.2.2.2.2.2.2.2.2.2.2.2.2.1.2 x0 f).1.2 j m)),lP (h 0).2.2.2.2.2.2.2.2.2.2.2.2.2.2.2.2.2.2.2.2.2.2.2.2.2.1 (λx0 f=>fit_api_Conv λk=>(h (k+1)).2.2.2.2.2.2.2.2.2.2.2.2.2.2.2.2.2.2.2.2.2.2.2.2.2.1.2 x0 f)⟩,sP (h 0).2.2.2.2.2.2.2.2.2.2.2.2.2.2.2.2.2.2.2.2.2.2.2.2.2.2.2.1⟩
theorem BW_{x:Uj}(h:bw_ 28 x):Sm.p x:=lP (h 0).1 (λx0 f=>j9_ λk=>(h (k+1)).1.2 x0 f)
theorem fit_api_Talk{x:Wz}(h:bw_ 30 x):Sm.p x:=⟨sP (h 0).2.1,sP (h 0).2.2.1,⟨sP (h 0).2.2.2.2.1,sP (h 0).2.2.2.2.2.1,sP (h 0).2.2.2.2.2.2.1⟩,⟨sP (h 0).2.2.2.2.2.2.2.1,sP (h 0).2.2.2.2.2.2.2.2.1,sP (h 0).2.2.2.2.2.2.2.2.2.1⟩,sP (h 0).2.2.2.2.2.2.2.2.2.2.2.1,lP (h 0).2.2.2.2.2.2.2.2.2.2.2.2.1 (λ_ _=>trivial)⟩
theorem fit_api_Wait{x:Ku}(h:bw_ 32 x):Sm.p x:=sP (h 0).2.1
theorem fit_api_Proc{x:Wr}(h:bw_ 33 x):Sm.p x:=⟨sP (h 0).2.2.2.1,sP (h 0).2.2.2.2.1,sP (h 0).2.2.2.2.2.2.2.2.1,lP (h 0).2.2.2.2.2.2.2.2.2.1 (λx0 f=>sP ((h 1).2.2.2.2.2.2.2.2.2.1.2 x0 f).1),sP (h 0).2.2.2.2.2.2.2.2.2.2.1,lP (h 0).2.2.2.2.2.2.2.2.2.2.2.1 (λx0 f=>fit_api_Wait λk=>(h (k+1)).2.2.2.2.2.2.2.2.2.2.2.1.2 x0 f)⟩
theorem fit_api_Var{x:Kr}(h:bw_ 35 x):Sm.p x:=⟨sP (h 0).2.1,lP (h 0).2.2.1 (λx0 f=>sP ((h 1).2.2.1.2 x0 f).1)⟩
theorem fit_api_Env{x:Vz}(h:bw_ 36 x):Sm.p x:=lP (h 0).2.2.1 (λx0 f=>fit_api_Var λk=>(h (k+1)).2.2.1.2 x0 f)
theorem uB_{x:Zi}(h:bw_ 38 x):Sm.p x:=sP (h 0).2.2.1
theorem uC_{x:Yu}(_:bw_ 39 x):Sm.p x:=trivial
theorem fit_api_Msg{x:Xm}(h:bw_ 41 x):Sm.p x:=⟨sP (h 0).2.2.2.2.2.2.2.1,sP (h 0).2.2.2.2.2.2.2.2.1,sP (h 0).2.2.2.2.2.2.2.2.2.1,lP (h 0).2.2.2.2.2.2.2.2.2.2.1 (λx0 f=>sP ((h 1).2.2.2.2.2.2.2.2.2.2.1.2 x0 f).1),lP (h 0).2.2.2.2.2.2.2.2.2.2.2.1 (λx0 f=>uC_ λk=>(h (k+1)).2.2.2.2.2.2.2.2.2.2.2.1.2 x0 f),trivial,sP (h 0).2.2.2.2.2.2.2.2.2.2.2.2.2.2.2.2.2.2.1,sP (h 0).2.2.2.2.2.2.2.2.2.2.2.2.2.2.2.2.2.2.2.2.2.1,⟨trivial,sP (h 0).2.2.2.2.2.2.2.2.2.2.2.2.2.2.2.2.2.2.2.2.2.2.2.2.2.2.2.2.2.2.2.1,sP (h 0).2.2.2.2.2.2.2.2.2.2.2.2.2.2.2.2.2.2.2.2.2.2.2.2.2.2.2.2.2.2.2.2.1,sP (h 0).2.2.2.2.2.2.2.2.2.2.2.2.2.2.2.2.2.2.2.2.2.2.2.2.2.2.2.2.2.2.2.2.2.1,sP (h 0).2.2.2.2.2.2.2.2.2.2.2.2.2.2.2.2.2.2.2.2.2.2.2.2.2.2.2.2.2.2.2.2.2.2.1⟩,sP (h 0).2.2.2.2.2.2.2.2.2.2.2.2.2.2.2.2.2.2.2.2.2.2.2.2.2.2.2.2.2.2.2.2.2.2.2.2.2.2.1⟩
theorem fit_api_Conn{x:Zw}(h:bw_ 42 x):Sm.p x:=⟨sP (h 0).2.2.2.1,lP (h 0).2.2.2.2.1 (λx0 f=>uB_ λk=>(h (k+1)).2.2.2.2.1.2 x0 f),lP (h 0).2.2.2.2.2.1 (λx0 f=>fit_api_Msg λk=>(h (k+1)).2.2.2.2.2.1.2 x0 f),(h 0).1⟩
theorem BX_{x:Zs}(_:bw_ 43 x):Sm.p x:=trivial
theorem fit_api_Sess{x:Vy}(h:bw_ 44 x):Sm.p x:=⟨sP (h 0).1,lP (h 0).2.1 (λx0 f=>uB_ λk=>(h (k+1)).2.1.2 x0 f)⟩
theorem zg_{x:Xe}(h:bw_ 45 x):Sm.p x:=⟨lP (h 0).2.2.2.2.2.1 (λx0 f=>fit_api_Conn λk=>(h (k+1)).2.2.2.2.2.1.2 x0 f),lP (h 0).2.2.2.2.2.2.1 (λx0 f=>BX_ λk=>(h (k+1)).2.2.2.2.2.2.1.2 x0 f),lP (h 0).2.2.2.2.2.2.2.1 (λx0 f=>fit_api_Sess λk=>(h (k+1)).2.2.2.2.2.2.2.1.2 x0 f)⟩
theorem fit_api_Call{x:Vv}(h:bw_ 47 x):Sm.p x:=⟨sP (h 0).2.2.2.2.2.2.2.1,sP (h 0).2.2.2.2.2.2.2.2.1,sP (h 0).2.2.2.2.2.2.2.2.2.1,lP (h 0).2.2.2.2.2.2.2.2.2.2.1 (λx0 f=>sP ((h 1).2.2.2.2.2.2.2.2.2.2.1.2 x0 f).1),lP (h 0).2.2.2.2.2.2.2.2.2.2.2.1 (λx0 f=>uC_ λk=>(h (k+1)).2.2.2.2.2.2.2.2.2.2.2.1.2 x0 f),trivial,sP (h 0).2.2.2.2.2.2.2.2.2.2.2.2.2.2.2.2.2.2.1,sP (h 0).2.2.2.2.2.2.2.2.2.2.2.2.2.2.2.2.2.2.2.2.2.1,⟨trivial,sP (h 0).2.2.2.2.2.2.2.2.2.2.2.2.2.2.2.2.2.2.2.2.2.2.2.2.2.2.2.2.2.2.2.1,sP (h 0).2.2.2.2.2.2.2.2.2.2.2.2.2.2.2.2.2.2.2.2.2.2.2.2.2.2.2.2.2.2.2.2.1,sP (h 0).2.2.2.2.2.2.2.2.2.2.2.2.2.2.2.2.2.2.2.2.2.2.2.2.2.2.2.2.2.2.2.2.2.1,sP (h 0).2.2.2.2.2.2.2.2.2.2.2.2.2.2.2.2.2.2.2.2.2.2.2.2.2.2.2.2.2.2.2.2.2.2.1⟩,sP (h 0).2.2.2.2.2.2.2.2.2.2.2.2.2.2.2.2.2.2.2.2.2.2.2.2.2.2.2.2.2.2.2.2.2.2.2.2.2.2.1⟩
theorem BY_{x:Uk}(h:bw_ 49 x):Sm.p x:=sP (h 0).2.2.2.1
theorem fit_api_Hold{x:Jq}(_:bw_ 50 x):Sm.p x:=trivial
theorem fit_api_Wire{x:Zb}(h:bw_ 52 x):Sm.p x:=⟨⟨sP (h 0).2.2.2.2.1,sP (h 0).2.2.2.2.2.1⟩,⟨sP (h 0).2.2.2.2.2.2.2.2.2.1,lP (h 0).2.2.2.2.2.2.2.2.2.2.1 (λ_ _=>trivial),lP (h 0).2.2.2.2.2.2.2.2.2.2.2.1 (λx0 f=>fit_api_Call λk=>(h (k+1)).2.2.2.2.2.2.2.2.2.2.2.1.2 x0 f),sP (h 0).2.2.2.2.2.2.2.2.2.2.2.2.1⟩,⟨lP (h 0).2.2.2.2.2.2.2.2.2.2.2.2.2.2.1 (λx0 f=>BY_ λk=>(h (k+1)).2.2.2.2.2.2.2.2.2.2.2.2.2.2.1.2 x0 f),lP (h 0).2.2.2.2.2.2.2.2.2.2.2.2.2.2.2.1 (λx0 f=>fit_api_Hold λk=>(h (k+1)).2.2.2.2.2.2.2.2.2.2.2.2.2.2.2.1.2 x0 f)⟩,sP (h 0).2.2.2.2.2.2.2.2.2.2.2.2.2.2.2.2.1⟩
theorem zh_{x:Wl}(h:bw_ 54 x):Sm.p x:=⟨sP (h 0).2.2.2.1,sP (h 0).2.2.2.2.1⟩
theorem BZ_{x:Uv}(h:bw_ 55 x):Sm.p x:=⟨⟨sP (h 0).2.2.2.1,sP (h 0).2.2.2.2.1⟩,lP (h 0).2.2.2.2.2.1 (λx0 f=>zh_ λk=>(h (k+1)).2.2.2.2.2.1.2 x0 f)⟩
theorem fit_api_Ns{x:Yi}(h:bw_ 56 x):Sm.p x:=⟨⟨sP (h 0).2.2.2.2.1,sP (h 0).2.2.2.2.2.1⟩,lP (h 0).2.2.2.2.2.2.1 (λx0 f=>BZ_ λk=>(h (k+1)).2.2.2.2.2.2.1.2 x0 f)⟩
theorem fit_api_Fd{x:Jb}(h:bw_ 57 x):Sm.p x:=⟨sP (h 0).2.2.2.2.1,sP (h 0).2.2.2.2.2.1⟩
theorem fit_api_Fds{x:Qd}(h:bw_ 58 x):Sm.p x:=lP (h 0).2.1 (λx0 f=>fit_api_Fd λk=>(h (k+1)).2.1.2 x0 f)
theorem fit_api_Job{x:Jr}(h:bw_ 59 x):Sm.p x:=lP (h 0).2.2.1 (λx0 f=>(fitR _).2.2 x0 (Nat.lt_succ_self _) λk=>(h (k+1)).2.2.1.2 x0 f)
theorem zi_{x:Xv}(h:bw_ 60 x):Sm.p x:=⟨⟨lP (h 0).2.1 (λx0 f=>zf_ λk=>(h (k+1)).2.1.2 x0 f),⟨lP (h 0).2.2.1 (λx0 f=>BW_ λk=>(h (k+1)).2.2.1.2 x0 f),lP (h 0).2.2.2.2.1 (λx0 f=>fit_api_Talk λk=>(h (k+1)).2.2.2.2.1.2 x0 f)⟩,lP (h 0).2.2.2.2.2.2.2.1 (λx0 f=>fit_api_Proc λk=>(h (k+1)).2.2.2.2.2.2.2.1.2 x0 f),lP (h 0).2.2.2.2.2.2.2.2.1 (λx0 f=>fit_api_Env λk=>(h (k+1)).2.2.2.2.2.2.2.2.1.2 x0 f)⟩,lP (h 0).2.2.2.2.2.2.2.2.2.1 (λx0 f=>zg_ λk=>(h (k+1)).2.2.2.2.2.2.2.2.2.1.2 x0 f),lP (h 0).2.2.2.2.2.2.2.2.2.2.1 (λx0 f=>fit_api_Wire λk=>(h (k+1)).2.2.2.2.2.2.2.2.2.2.1.2 x0 f),lP (h 0).2.2.2.2.2.2.2.2.2.2.2.1 (λx0 f=>fit_api_Ns λk=>(h (k+1)).2.2.2.2.2.2.2.2.2.2.2.1.2 x0 f),lP (h 0).2.2.2.2.2.2.2.2.2.2.2.2.1 (λx0 f=>fit_api_Fds λk=>(h (k+1)).2.2.2.2.2.2.2.2.2.2.2.2.1.2 x0 f),lP (h 0).2.2.2.2.2.2.2.2.2.2.2.2.2.1 (λx0 f=>fit_api_Job λk=>(h (k+1)).2.2.2.2.2.2.2.2.2.2.2.2.2.1.2 x0 f),lP (h 0).2.2.2.2.2.2.2.2.2.2.2.2.2.2.1 (λx0 f=>(fitR _).2.2 x0 (Nat.lt_succ_self _) λk=>(h (k+1)).2.2.2.2.2.2.2.2.2.2.2.2.2.2.1.2 x0 f)⟩
theorem rM_(x0:Xv)(m j:Int)(f:Xb)(h:Fit 1048576 te (.st 60) x0)(_:Fit 1048576 te (.int .i64) m)(_:Fit 1048576 te (.int .i64) j)(_:Fit 1048576 te (.st 6) f):cR_ x0 m j f=some true:=
 have:Ft x0:=⟨zi_ h⟩
 vC_
end Go.Proofs.YtokncnjohiobcaaGreatDoor
