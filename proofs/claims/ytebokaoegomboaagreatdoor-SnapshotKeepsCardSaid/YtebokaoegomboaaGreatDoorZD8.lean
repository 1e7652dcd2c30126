/-
 What the statements of this seat hang on,part 8: Uw Ho Ha Hb Hc Hd He Hf Hg Hh Hu Hv Hz.
-/
import Derived.Test.YtebokaoegomboaaGreatDoorZD7
import Derived.KernelRfl
namespace Go.Proofs.YtebokaoegomboaaGreatDoor
open Go.Rt Go.RowKit
noncomputable section
def bothC{R:Type}[DecidableEq R](x y:Option R):Option R:=if x=y then x else none
theorem e_both{R:Type}[DecidableEq R] : @both R=bothC:=by
 funext x y
 unfold both bothC;split<;>rfl
def d4_(xs:List Xf):Option (List Xf):=room 56 ([]:List Xf) xs
theorem gp_:bj_=d4_:=by
 funext xs
 unfold bj_ d4_;cases xs with
 | nil=>exact eS_ _
 | cons x l =>
  show Option.bind (room 56 ([]:List Xf) (x::l)) (λ y=>some y)=_;cases room 56 ([]:List Xf) (x::l)<;>rfl
def dj_(xs:List Yz):Option (List Yz):=room 32 ([]:List Yz) xs
theorem fD_:aV_=dj_:=by
 funext xs
 unfold aV_ dj_;cases xs with
 | nil=>exact eS_ _
 | cons x l =>
  show Option.bind (room 32 ([]:List Yz) (x::l)) (λ y=>some y)=_;cases room 32 ([]:List Yz) (x::l)<;>rfl
def dV_(xs:List Str):Option (List Str):=room 16 ([]:List Str) xs
theorem fl_:bc_=dV_:=by
 funext xs
 unfold bc_ dV_;cases xs with
 | nil=>exact eS_ _
 | cons x l =>
  show Option.bind (room 16 ([]:List Str) (x::l)) (λ y=>some y)=_;cases room 16 ([]:List Str) (x::l)<;>rfl
def fm_(xs:List Xq):Option (List Xq):=room 128 ([]:List Xq) xs
theorem jS_:bx_=fm_:=by
 funext xs
 unfold bx_ fm_;cases xs with
 | nil=>exact eS_ _
 | cons x l =>
  show Option.bind (room 128 ([]:List Xq) (x::l)) (λ y=>some y)=_;cases room 128 ([]:List Xq) (x::l)<;>rfl
def lc_(xs:List Int):Option (List Int):=room 8 ([]:List Int) xs
theorem nQ_:bS_=lc_:=by
 funext xs
 unfold bS_ lc_;cases xs with
 | nil=>exact eS_ _
 | cons x l =>
  show Option.bind (room 8 ([]:List Int) (x::l)) (λ y=>some y)=_;cases room 8 ([]:List Int) (x::l)<;>rfl
def dk_(xs:List Yk):Option (List Yk):=room 40 ([]:List Yk) xs
theorem fE_:aW_=dk_:=by
 funext xs
 unfold aW_ dk_;cases xs with
 | nil=>exact eS_ _
 | cons x l =>
  show Option.bind (room 40 ([]:List Yk) (x::l)) (λ y=>some y)=_;cases room 40 ([]:List Yk) (x::l)<;>rfl
def hM_(xs:List Yd):Option (List Yd):=room 24 ([]:List Yd) xs
theorem pN_:b1_=hM_:=by
 funext xs
 unfold b1_ hM_;cases xs with
 | nil=>exact eS_ _
 | cons x l =>
  show Option.bind (room 24 ([]:List Yd) (x::l)) (λ y=>some y)=_;cases room 24 ([]:List Yd) (x::l)<;>rfl
def iK_(y4:(List Xf))(s2:Int×(List Xf)):Option (Step (Int×(List Xf)) (List Xf)) :=
 (bif(decide (s2.1<(y4.length:Int)))then
  (al_ s2.2 s2.1).bind λ y11 =>
  (dV_ y11.Yp).bind λ y12 =>
  (al_ s2.2 s2.1).bind λ y13 =>
  some (.next ((w64 (s2.1+1)),(s2.2.set s2.1.toNat (Xf.mk y13.Xy y13.Yt y12))))
 else
  some (.done s2.2))
theorem sx_:kd_=iK_:=by
 funext y4 s2
 simp only[kd_,iK_,fl_]<;>rfl
def lx_ (x0:List Xf) (x1:List Yz) (x2:Str) (x3:Int):Option (Xx×Int) :=
 (hg_ x0).bind λ y1 =>
 (bif(y1 != 0)then
  some (((Xx.mk [] [] (Xk.mk 0 []) []),y1))
 else
  (gd_ x1).bind λ y2 =>
  (bif(y2 != 0)then
   some (((Xx.mk [] [] (Xk.mk 0 []) []),y2))
  else
   (eZ_ x2).bind λ y3 =>
   (bif(!y3)then
    some (((Xx.mk [] [] (Xk.mk 0 []) []),25))
   else
    (d4_ x0).bind λ y4 =>
    (dj_ x1).bind λ y5 =>
    (bE_ x3).bind λ y6 =>
    (sg_ x2 493 y6).bind λ y7 =>
    (ak_ (iK_ y4) BIG (0,y4)).bind λ o1 =>
    some (((Xx.mk o1 y5 y7 []),0)))))
theorem wE_:kH_=lx_:=by
 funext x0 x1 x2 x3
 simp only[kH_,lx_,gp_,fD_,sx_]<;>rfl
def ec_(y1:(List Xf))(s2:Int×(List Xf)):Option (Step (Int×(List Xf)) (List Xf)) :=
 (bif(decide (s2.1<(y1.length:Int)))then
  (al_ s2.2 s2.1).bind λ y5 =>
  (dV_ y5.Yp).bind λ y6 =>
  (al_ s2.2 s2.1).bind λ y7 =>
  some (.next ((w64 (s2.1+1)),(s2.2.set s2.1.toNat (Xf.mk y7.Xy y7.Yt y6))))
 else
  some (.done s2.2))
theorem l5_:b3_=ec_:=by
 funext y1 s2
 simp only[b3_,ec_,fl_]<;>rfl
def dG_(x0:Xx):Option Xx:=(d4_ x0.Yx).bind λ y1=>(ak_ (ec_ y1) BIG (0,y1)).bind λ o1=>(dj_ x0.Yj).bind λ y8=>(fm_ x0.Xm.Xz).bind λ y9=>(lc_ x0.Xs).bind λ y10=>some ((Xx.mk o1 y8 (Xk.mk x0.Xm.Xt y9) y10))
theorem h9_:b6_=dG_:=by
 funext x0
 simp only[b6_,dG_,gp_,l5_,fD_,jS_,nQ_]<;>rfl
def kp_(x0:Xx)(x1:Int):Option Xh:=(dG_ x0).bind λ y1=>(ql_ x1).bind λ y2=>some ((Xh.mk y1 y2 []))
theorem u8_:jn_=kp_:=by
 funext x0 x1
 simp only[jn_,kp_,h9_]<;>rfl
def kq_(x0:List Xf)(x1:Str)(s2:Int):Option (Step Int (Out Unit (Xf×Bool))) :=
 (bif(decide (s2<(x0.length:Int)))then
  (al_ x0 s2).bind λ y3 =>
  (bif(y3.Xy==x1)then
   (dV_ y3.Yp).bind λ y4 =>
   some (.done (.ret (((Xf.mk y3.Xy y3.Yt y4),true))))
  else
   some (.next (w64 (s2+1))))
 else
  some (.done (.fall ())))
theorem u9_:gP_=kq_:=by
 funext x0 x1 s2
 simp only[gP_,kq_,fl_]<;>rfl
def nR_(x0:List Xf)(x1:Str):Option (Xf×Bool) :=
 (ak_ (kq_ x0 x1) BIG 0).bind λ wo1=>match wo1 with
 | .ret r1=>some r1
 | .fall _ =>
  some (((Xf.mk [] [] []),false))
theorem e_user_Find:i0_=nR_:=by
 funext x0 x1
 simp only[i0_,nR_,u9_]<;>rfl
def ly_ (x0:List Xf) (x1:Str) (x2:Str):Option Bool :=
 (bif(x1==x2)then
  some (true)
 else
  (nR_ x0 x2).bind λ y1 =>
  Option.bind (bif y1.2 then 
   (bW_ y1.1.Yp x1).bind λ y2 =>
   some y2
    else some false) fun(y3:Bool) =>
  some (y3))
theorem wF_:eh_=ly_:=by
 funext x0 x1 x2
 simp only[eh_,ly_,e_user_Find]<;>rfl
def is_ (x0:List Xf) (x1:Str) (x2:Str) (x3:Str) (x4:Int) (x5:Int):Option Bool :=
 (bif(((decide (x4<0))||(decide (x5<0)))||(decide (x5>7)))then
  some (false)
 else
  Option.bind (
   (ly_ x0 x1 x3).bind λ y1 =>
   (bif y1 then
    some (orI .i64 (x4.tmod 8) ((IntKind.i64.wrap (x4.tdiv 8)).tmod 8))
   else
    some (x4.tmod 8))
   ) fun(o1:Int) =>
  Option.bind (
   (bif(x1==x2)then
    some (orI .i64 o1 ((IntKind.i64.wrap (x4.tdiv 64)).tmod 8))
   else
    some o1)
   ) fun(o2:Int) =>
  some (((bR_ .i64 o2 x5)==x5)))
theorem pJ_:fc_=is_:=by
 funext x0 x1 x2 x3 x4 x5
 simp only[fc_,is_,wF_]<;>rfl
def eR_(x0:Xx)(x1:Str)(x2:Xq)(x3:Int):Option Bool:=(is_ x0.Yx x1 x2.Yw x2.Yv x2.Xv x3).bind λ y1=>some (y1)
theorem it_:c0_=eR_:=by
 funext x0 x1 x2 x3
 simp only[c0_,eR_,pJ_]<;>rfl
def hx_(x0:Xx)(x1:Str)(x2:Int)(x3:Str):Option (Int×Int) :=
 (cz_ x0 x1 x2).bind λ y1 =>
 (bif(y1.2 != 0)then
  some ((0,y1.2))
 else
  (eR_ x0 x1 y1.1 1).bind λ y2 =>
  (bif(!y2)then
   some ((0,11))
  else
   (fI_ x0.Xm x2 x3).bind λ y3 =>
   some ((y3.1,y3.2))))
theorem ot_:eu_=hx_:=by
 funext x0 x1 x2 x3
 simp only[eu_,hx_,it_]<;>rfl
def iL_(x0:Xh)(x1:Str):Option Bool:=Option.bind (hx_ x0.Xb x1 0 []) fun(y1:Int×Int)=>some ((y1.2 != 25))
theorem sy_:fv_=iL_:=by
 funext x0 x1
 simp only[fv_,iL_,ot_]<;>rfl
def jB_ (x0:Xk) (s2:Int×(List Int)×(List Int)×(List Xn)×(List Int)):Option (Step (Int×(List Int)×(List Int)×(List Xn)×(List Int)) (Out Unit Bool)) :=
 (bif (decide (s2.1<(x0.Xz.length:Int)))then
  Option.bind (
   (al_ x0.Xz s2.1).bind λ y12 =>
   (jo_ y12).bind λ y13 =>
   Option.bind (bif((!y13)||(decide (y12.Id_>=x0.Xt)))then some true else 
    Option.bind (bif(decide (s2.1>0))then 
     (al_ x0.Xz (w64 (s2.1-1))).bind λ y14 =>
     some (decide (y12.Id_<=y14.Id_))
      else some false) fun(y15:Bool) =>
    some y15
    ) fun(y16:Bool) =>
   (bif y16 then
    some (.ret (false))
   else
    Option.bind (
     (bif(s2.1==0)then
      Option.bind (bif(((y12.Id_ != 1)||(y12.Xw != 1))||(!(y12.Xy==[47])))then some true else 
       (bu_ y12.Xv).bind λ y17 =>
       some (!y17)
       ) fun(y18:Bool) =>
      (bif y18 then
       some (.ret (false))
      else
       some (.fall ()))
     else
      (cI_ y12.Xy).bind λ y19 =>
      Option.bind (bif(!y19)then some true else some ((aG_ eqI s2.2.1 s2.2.2.1 y12.Xw 0)==0)) fun(y20:Bool) =>
      Option.bind (bif y20 then some true else some (decide ((aG_ (fun(a b:Xn)=>decide (a=b)) s2.2.2.2.1 s2.2.2.2.2 (Xn.mk y12.Xw y12.Xy) 0)>0))) fun(y21:Bool) =>
      (bif y21 then
       some (.ret (false))
      else
       some (.fall ())))
     ) fun(wo4:Out Unit Bool)=>match wo4 with
    | .ret r4=>some (.ret r4)
    | .fall _ =>
     Option.bind (
      (bif(decide (s2.1>0))then
       (bothC (
        some ((aQ_ (fun(a b:Xn)=>decide (a=b)) (aQ_ (fun(a b:Xn)=>decide (a=b)) s2.2.2.2.1 (Xn.mk y12.Xw y12.Xy)) (Xn.mk y12.Xw y12.Xy)),(bm_ (fun(a b:Xn)=>decide (a=b)) (aQ_ (fun(a b:Xn)=>decide (a=b)) s2.2.2.2.1 (Xn.mk y12.Xw y12.Xy)) (bm_ (fun(a b:Xn)=>decide (a=b)) s2.2.2.2.1 s2.2.2.2.2 (Xn.mk y12.Xw y12.Xy) (aG_ (fun(a b:Xn)=>decide (a=b)) s2.2.2.2.1 s2.2.2.2.2 (Xn.mk y12.Xw y12.Xy) 0)) (Xn.mk y12.Xw y12.Xy) (w64 ((aG_ (fun(a b:Xn)=>decide (a=b)) s2.2.2.2.1 s2.2.2.2.2 (Xn.mk y12.Xw y12.Xy) 0)+1))))) (
        some ((aQ_ (fun(a b:Xn)=>decide (a=b)) (aQ_ (fun(a b:Xn)=>decide (a=b)) s2.2.2.2.1 (Xn.mk y12.Xw y12.Xy)) (Xn.mk y12.Xw y12.Xy)),(bm_ (fun(a b:Xn)=>decide (a=b)) (aQ_ (fun(a b:Xn)=>decide (a=b)) s2.2.2.2.1 (Xn.mk y12.Xw y12.Xy)) (bm_ (fun(a b:Xn)=>decide (a=b)) s2.2.2.2.1 s2.2.2.2.2 (Xn.mk y12.Xw y12.Xy) (aG_ (fun(a b:Xn)=>decide (a=b)) s2.2.2.2.1 s2.2.2.2.2 (Xn.mk y12.Xw y12.Xy) 0)) (Xn.mk y12.Xw y12.Xy) (w64 ((aG_ (fun(a b:Xn)=>decide (a=b)) (aQ_ (fun(a b:Xn)=>decide (a=b)) s2.2.2.2.1 (Xn.mk y12.Xw y12.Xy)) (bm_ (fun(a b:Xn)=>decide (a=b)) s2.2.2.2.1 s2.2.2.2.2 (Xn.mk y12.Xw y12.Xy) (aG_ (fun(a b:Xn)=>decide (a=b)) s2.2.2.2.1 s2.2.2.2.2 (Xn.mk y12.Xw y12.Xy) 0)) (Xn.mk y12.Xw y12.Xy) 0)+1))))))
      else
       some (s2.2.2.2.1,s2.2.2.2.2))
      ) fun(o5:(List Xn)×(List Int)) =>
     (bu_ y12.Xv).bind λ y22 =>
     (bif y22 then
      some (.fall ((aQ_ eqI s2.2.1 y12.Id_),(bm_ eqI s2.2.1 s2.2.2.1 y12.Id_ (w64 ((aG_ eqI s2.2.1 s2.2.2.1 y12.Id_ 0)+1))),o5.1,o5.2))
     else
      some (.fall (s2.2.1,s2.2.2.1,o5.1,o5.2))))
   ) fun(wo6:Out ((List Int)×(List Int)×(List Xn)×(List Int)) Bool)=>match wo6 with
  | .ret r6=>some (.done (.ret r6))
  | .fall o6 =>
   some (.next ((w64 (s2.1+1)),o6.1,o6.2.1,o6.2.2.1,o6.2.2.2))
 else
  some (.done (.fall ())))
theorem tX_:cJ_=jB_:=by
 funext x0 s2
 simp only[cJ_,jB_,e_both]<;>rfl
def jC_(x0:Xk):Option Bool :=
 (bif(((decide ((x0.Xz.length:Int)<1))||(decide ((x0.Xz.length:Int)>1024)))||(decide (x0.Xt>1048576)))then
  some (false)
 else
  (ak_ (jB_ x0) BIG (0,([]:List Int),([]:List Int),([]:List Xn),([]:List Int))).bind λ wo7=>match wo7 with
  | .ret r7=>some r7
  | .fall _ =>
   some (true))
theorem qR_:dD_=jC_:=by
 funext x0
 simp only[dD_,jC_,tX_]<;>rfl
def fF_ (x0:Xg) (x1:Str):Option (Xk×Int×Xg) :=
 (b7_ x0 x1 4).bind λ y1 =>
 (bif(y1.2.1 != 0)then
  some (((Xk.mk 0 []),y1.2.1,y1.2.2))
 else
  (aw_ (Yy.mk y1.1 0 false) 4).bind λ y2 =>
  (aw_ y2.2 4).bind λ y3 =>
  (cl_ y3.2).bind λ y4 =>
  (bif(((y4.2.Zv||(y4.2.at_ != (y1.1.length:Int)))||(decide (y3.1<1)))||(decide (y3.1>1024)))then
   some (((Xk.mk 0 []),2,y1.2.2))
  else
   Option.bind (aS_ BIG (Xe.mk [] y3.1) y1.2.2 y4.1) fun(y5:Int×Xe×Xg) =>
   (bif(y5.1 != 0)then
    some (((Xk.mk 0 []),y5.1,y5.2.2))
   else
    (sortByC (fun(x:Xq)=>x.Id_) y5.2.1.Zc).bind λ y6 =>
    Option.bind (bif((y6.length:Int) != y3.1)then some true else 
     (jC_ (Xk.mk y2.1 y6)).bind λ y7 =>
     some (!y7)
     ) fun(y8:Bool) =>
    (bif y8 then
     some (((Xk.mk 0 []),2,y5.2.2))
    else
     some (((Xk.mk y2.1 y6),0,y5.2.2))))))
theorem ou_:bU_=fF_:=by
 funext x0 x1
 simp only[bU_,fF_,sortBy_eq,qR_]<;>rfl
def hN_(x0:Xj)(x1:Str):Option (Xk×Int):=Option.bind (fF_ (Xg.mk x0 []) x1) fun(y1:Xk×Int×Xg)=>some ((y1.1,y1.2.1))
theorem ru_:bK_=hN_:=by
 funext x0 x1
 simp only[bK_,hN_,ou_]<;>rfl
def gB_ (x0:Xh) (x1:Int):Option (Yn×Bool) :=
 (bif((x1==1)||(x1==2))then
  some (((Yn.mk (Xx.mk [] [] (Xk.mk 0 []) []) 0 x1),true))
 else
  (bif((decide (x1<1048576))||(decide ((IntKind.i64.wrap (x1.tdiv 1048576))>(w64 ((x0.Xc.length:Int)+1)))))then
   some (((Yn.mk (Xx.mk [] [] (Xk.mk 0 []) []) 0 0),false))
  else
   Option.bind (
    (bif(decide ((IntKind.i64.wrap (x1.tdiv 1048576))>1))then
     (al_ x0.Xc (w64 ((IntKind.i64.wrap (x1.tdiv 1048576))-2))).bind λ y1 =>
     (hN_ x0.Yf y1.Yq).bind λ y2 =>
     (bif(y2.2 != 0)then
      some (.ret (((Yn.mk (Xx.mk [] [] (Xk.mk 0 []) []) 0 0),false)))
     else
      some (.fall (x0.Xb.Yx,x0.Xb.Yj,y2.1.Xt,y2.1.Xz,[],(IntKind.i64.wrap (x1.tdiv 1048576)),(x1.tmod 1048576))))
    else
     some (.fall (x0.Xb.Yx,x0.Xb.Yj,x0.Xb.Xm.Xt,x0.Xb.Xm.Xz,x0.Xb.Xs,(IntKind.i64.wrap (x1.tdiv 1048576)),(x1.tmod 1048576))))
    ) fun(wo1:Out ((List Xf)×(List Yz)×Int×(List Xq)×(List Int)×Int×Int) (Yn×Bool))=>match wo1 with
   | .ret r1=>some r1
   | .fall o1 =>
    (b0_ (Xk.mk o1.2.2.1 o1.2.2.2.1) (x1.tmod 1048576)).bind λ y3 =>
    some (((Yn.mk (Xx.mk o1.1 o1.2.1 (Xk.mk o1.2.2.1 o1.2.2.2.1) o1.2.2.2.2.1) o1.2.2.2.2.2.1 o1.2.2.2.2.2.2),y3.2))))
theorem ns_:db_=gB_:=by
 funext x0 x1
 simp only[db_,gB_,ru_]<;>rfl
def dx_(x0:Xh)(x1:Str)(x2:Int):Option (Yn×Int) :=
 (iL_ x0 x1).bind λ y1 =>
 (bif(!y1)then
  some (((Yn.mk (Xx.mk [] [] (Xk.mk 0 []) []) 0 0),25))
 else
  (gB_ x0 x2).bind λ y2 =>
  (bif(!y2.2)then
   some (((Yn.mk (Xx.mk [] [] (Xk.mk 0 []) []) 0 0),8))
  else
   some ((y2.1,0))))
theorem fW_:bX_=dx_:=by
 funext x0 x1 x2
 simp only[bX_,dx_,sy_,ns_]<;>rfl
def av_(x0:Xh):Option Xh:=(dG_ x0.Xb).bind λ y1=>(dk_ x0.Yf.Xd).bind λ y2=>(hM_ x0.Xc).bind λ y3=>some ((Xh.mk y1 (Xj.mk x0.Yf.Ya y2) y3))
theorem d5_:ar_=av_:=by
 funext x0
 simp only[ar_,av_,h9_,fE_,pN_]<;>rfl
def gX_(y1:(List Xf))(s2:Int×(List Xf)):Option (Step (Int×(List Xf)) (List Xf)) :=
 (bif(decide (s2.1<(y1.length:Int)))then
  (al_ s2.2 s2.1).bind λ y5 =>
  (dV_ y5.Yp).bind λ y6 =>
  (al_ s2.2 s2.1).bind λ y7 =>
  some (.next ((w64 (s2.1+1)),(s2.2.set s2.1.toNat (Xf.mk y7.Xy y7.Yt y6))))
 else
  some (.done s2.2))
theorem qS_:dr_=gX_:=by
 funext y1 s2
 simp only[dr_,gX_,fl_]<;>rfl
def e4_(x0:Xx):Option Xx:=(d4_ x0.Yx).bind λ y1=>(ak_ (gX_ y1) BIG (0,y1)).bind λ o1=>(fm_ x0.Xm.Xz).bind λ y8=>(dj_ x0.Yj).bind λ y9=>(lc_ x0.Xs).bind λ y10=>some ((Xx.mk o1 y9 (Xk.mk x0.Xm.Xt y8) y10))
theorem jD_:cb_=e4_:=by
 funext x0
 simp only[cb_,e4_,gp_,qS_,jS_,fD_,nQ_]<;>rfl
def jE_ (x0:Xx) (x1:Str) (x2:Xq) (x3:Str) (x4:Int) (x5:Int):Option Int :=
 (cI_ x3).bind λ y1 =>
 (bif(!y1)then
  some (6)
 else
  (c9_ x4).bind λ y2 =>
  (bif(!y2)then
   some (1)
  else
   (cP_ x5).bind λ y3 =>
   (bif(y3.2 != 0)then
    some (y3.2)
   else
    (aq_ x4 2147483648).bind λ y4 =>
    (bif(y4&&(x5 != 0))then
     some (12)
    else
     (eR_ x0 x1 x2 2).bind λ y5 =>
     (bif(!y5)then
      some (11)
     else
      (fI_ x0.Xm x2.Id_ x3).bind λ y6 =>
      (bif(y6.2==0)then
       some (7)
      else
       (hl_ x0.Yj x0.Xm x1 1 0).bind λ y7 =>
       (bif(!y7)then
        some (21)
       else
        some (0))))))))
theorem tY_:eH_=jE_:=by
 funext x0 x1 x2 x3 x4 x5
 simp only[eH_,jE_,it_]<;>rfl
def hy_(x0:Xx)(x1:Int):Option Xx :=
 Option.bind (
  (bF_ x0.Xs x1).bind λ y1 =>
  (bif(!y1.2)then
   (lc_ x0.Xs).bind λ y2 =>
   ((insN (α:=Int) 8) y2 y1.1 [x1]).bind λ y3 =>
   some (x0.Yx,x0.Yj,x0.Xm.Xt,x0.Xm.Xz,y3)
  else
   some (x0.Yx,x0.Yj,x0.Xm.Xt,x0.Xm.Xz,x0.Xs))
  ) fun(o1:(List Xf)×(List Yz)×Int×(List Xq)×(List Int)) =>
 some ((Xx.mk o1.1 o1.2.1 (Xk.mk o1.2.2.1 o1.2.2.2.1) o1.2.2.2.2))
theorem ov_:ex_=hy_:=by
 funext x0 x1
 simp only[ex_,hy_,nQ_]<;>rfl
def iM_ (x0:Xx) (x1:Str) (x2:Int) (x3:Str) (x4:Int) (x5:Int) (x6:Int):Option (Xx×Int×Int) :=
 (e4_ x0).bind λ y1 =>
 (cz_ x0 x1 x2).bind λ y2 =>
 Option.bind (
  (bif(y2.2==0)then
   (jE_ x0 x1 y2.1 x3 x4 x5).bind λ y3 =>
   some y3
  else
   some y2.2)
  ) fun(o1:Int) =>
 (bif(o1 != 0)then
  some ((y1,0,o1))
 else
  (ew_ y2.1.Xv x4).bind λ y4 =>
  (bE_ x6).bind λ y5 =>
  (h3_ y1.Xm x2 x3 (orI .i64 (cu_ .i64 x4 511) (bR_ .i64 y4 511)) x1 y2.1.Yv y5).bind λ y6 =>
  (bif(y6.2.2 != 0)then
   some ((y1,0,y6.2.2))
  else
   Option.bind (
    (aq_ (orI .i64 (cu_ .i64 x4 511) (bR_ .i64 y4 511)) 536870912).bind λ y7 =>
    (bif y7 then
     (hy_ (Xx.mk y1.Yx y1.Yj y6.1 y1.Xs) y6.2.1).bind λ y8 =>
     some (y8.Yx,y8.Yj,y8.Xm.Xt,y8.Xm.Xz,y8.Xs)
    else
     some (y1.Yx,y1.Yj,y6.1.Xt,y6.1.Xz,y1.Xs))
    ) fun(o2:(List Xf)×(List Yz)×Int×(List Xq)×(List Int)) =>
   some (((Xx.mk o2.1 o2.2.1 (Xk.mk o2.2.2.1 o2.2.2.2.1) o2.2.2.2.2),y6.2.1,0))))
theorem sz_:eo_=iM_:=by
 funext x0 x1 x2 x3 x4 x5 x6
 simp only[eo_,iM_,jD_,tY_,ov_]<;>rfl
def e5_(x0:Xh)(x1:Xx):Option Xh:=(av_ x0).bind λ y1=>some ((Xh.mk x1 y1.Yf y1.Xc))
theorem jF_:cc_=e5_:=by
 funext x0 x1
 simp only[cc_,e5_,d5_]<;>rfl
def hO_ (x0:Xh) (x1:Str) (x2:Int) (x3:Str) (x4:Int) (x5:Int) (x6:Int):Option (Xh×Int×Int) :=
 (dx_ x0 x1 x2).bind λ y1 =>
 (bif(y1.2 != 0)then
  (av_ x0).bind λ y2 =>
  some ((y2,0,y1.2))
 else
  (bif(y1.1.Zk != 1)then
   (av_ x0).bind λ y3 =>
   some ((y3,0,33))
  else
   (iM_ x0.Xb x1 y1.1.Ym x3 x4 x5 x6).bind λ y4 =>
   (bif(y4.2.2 != 0)then
    (av_ x0).bind λ y5 =>
    some ((y5,0,y4.2.2))
   else
    (e5_ x0 y4.1).bind λ y6 =>
    some ((y6,(w64 (1048576+y4.2.1)),0)))))
theorem rv_:c8_=hO_:=by
 funext x0 x1 x2 x3 x4 x5 x6
 simp only[c8_,hO_,fW_,d5_,sz_,jF_]<;>rfl
def jG_ (x0:Xx) (x1:Str) (x2:Int) (x3:Int) (x4:Str) (x5:Int):Option (Xx×Int×Int) :=
 (e4_ x0).bind λ y1 =>
 (cD_ x0 x1 x2).bind λ y2 =>
 (bif(y2.2 != 0)then
  some ((y1,0,y2.2))
 else
  (aq_ y2.1.Xv 2147483648).bind λ y3 =>
  (bif y3 then
   some ((y1,0,10))
  else
   (bif(decide (x3<0))then
    some ((y1,0,1))
   else
    (bif(x4==[])then
     some ((y1,0,0))
    else
     Option.bind (
      (aq_ y2.1.Xv 1073741824).bind λ y4 =>
      (bif y4 then
       some (y2.1.Xl.length:Int)
      else
       some x3)
      ) fun(o1:Int) =>
     (bif((decide (o1>65536))||(decide ((x4.length:Int)>(w64 (65536-o1)))))then
      some ((y1,0,4))
     else
      (eI_ x0 y2.1 (w64 (o1+(x4.length:Int)))).bind λ y5 =>
      (bif(!y5)then
       some ((y1,0,21))
      else
       (bE_ x5).bind λ y6 =>
       (jp_ y1.Xm x2 o1 x4 x1 y6).bind λ y7 =>
       (bif(y7.2.2 != 0)then
        some ((y1,0,y7.2.2))
       else
        some (((Xx.mk y1.Yx y1.Yj y7.1 y1.Xs),y7.2.1,0)))))))))
theorem tZ_:eJ_=jG_:=by
 funext x0 x1 x2 x3 x4 x5
 simp only[eJ_,jG_,jD_]<;>rfl
def fX_ (x0:Xh) (x1:Str) (x2:Int) (x3:Int) (x4:Str) (x5:Int):Option (Xh×Int×Int) :=
 (dx_ x0 x1 x2).bind λ y1 =>
 (bif(y1.2 != 0)then
  (av_ x0).bind λ y2 =>
  some ((y2,0,y1.2))
 else
  (cw_ y1.1).bind λ y3 =>
  (bif y3 then
   (av_ x0).bind λ y4 =>
   some ((y4,0,10))
  else
   (bif(decide (x3<0))then
    (av_ x0).bind λ y5 =>
    some ((y5,0,1))
   else
    (bif(y1.1.Zk != 1)then
     (av_ x0).bind λ y6 =>
     some ((y6,0,33))
    else
     (jG_ x0.Xb x1 y1.1.Ym x3 x4 x5).bind λ y7 =>
     (bif(y7.2.2 != 0)then
      (av_ x0).bind λ y8 =>
      some ((y8,0,y7.2.2))
     else
      (e5_ x0 y7.1).bind λ y9 =>
      some ((y9,y7.2.1,0)))))))
theorem sA_:cQ_=fX_:=by
 funext x0 x1 x2 x3 x4 x5
 simp only[cQ_,fX_,fW_,d5_,tZ_,jF_]<;>rfl
def f7_(x0:Xj):Option Xj:=(dk_ x0.Xd).bind λ y1=>some ((Xj.mk x0.Ya y1))
theorem wG_:ei_=f7_:=by
 funext x0
 simp only[ei_,f7_,fE_]<;>rfl
def lz_(x0:Xj):Option Xj:=(dk_ x0.Xd).bind λ y1=>some ((Xj.mk x0.Ya y1))
theorem wH_:kJ_=lz_:=by
 funext x0
 simp only[kJ_,lz_,fE_]<;>rfl
def kS_ (x0:Xj) (x1:Int) (x2:Str):Option (Xj×Str×Int) :=
 (lz_ x0).bind λ y1 =>
 (kK_ x1).bind λ y2 =>
 (bif(!y2)then
  some ((y1,[],1))
 else
  (bif(decide ((x2.length:Int)>1024))then
   some ((y1,[],4))
  else
   (hj_ x1 x2).bind λ y3 =>
   (gf_ x0 y3.Yq).bind λ y4 =>
   (bif(decide (y4>=0))then
    (al_ x0.Xd y4).bind λ y5 =>
    (bif(!(decide (y5=y3)))then
     some ((y1,[],34))
    else
     some ((y1,y3.Yq,0)))
   else
    (bif(decide ((x0.Xd.length:Int)>=x0.Ya))then
     some ((y1,[],22))
    else
     (room 40 y1.Xd [y3]).bind λ y6 =>
     some (((Xj.mk y1.Ya y6),y3.Yq,0))))))
theorem rS_:gS_=kS_:=by
 funext x0 x1 x2
 simp only[gS_,kS_,wH_]<;>rfl
def iN_(s4:Int×Xj×Xp×(List Str))(s6:Str×Int×Int×(List Yk)×Xp×(List Str)):Option (Step (Str×Int×Int×(List Yk)×Xp×(List Str)) (Out (Str×Xj×Xp×(List Str)) (Xj×Xp×Int))) :=
 (bif(decide (s6.2.1<(s4.2.2.2.length:Int)))then
  (al_ s6.2.2.2.2.2 s6.2.1).bind λ y13 =>
  (kS_ (Xj.mk s6.2.2.1 s6.2.2.2.1) s4.1 y13).bind λ y14 =>
  (bif(y14.2.2 != 0)then
   some (.done (.ret (((Xj.mk s6.2.2.1 s6.2.2.2.1),(Xp.mk [] 0 0),y14.2.2))))
  else
   (cat s6.1 y14.2.1).bind λ y15 =>
   some (.next (y15,(w64 (s6.2.1+1)),y14.1.Ya,y14.1.Xd,(Xp.mk y14.2.1 s6.2.2.2.2.1.Xi s6.2.2.2.2.1.Yi),s6.2.2.2.2.2)))
 else
  some (.done (.fall (s6.1,(Xj.mk s6.2.2.1 s6.2.2.2.1),s6.2.2.2.2.1,s6.2.2.2.2.2))))
theorem sB_:dt_=iN_:=by
 funext s4 s6
 simp only[dt_,iN_,rS_]<;>rfl
def iO_(s4:Int×Xj×Xp×(List Str)):Option (Step (Int×Xj×Xp×(List Str)) (Out Unit (Xj×Xp×Int))) :=
 Option.bind (ak_ (iN_ s4) BIG ([],0,s4.2.1.Ya,s4.2.1.Xd,s4.2.2.1,s4.2.2.2)) fun(wo2:Out (Str×Xj×Xp×(List Str)) (Xj×Xp×Int))=>match wo2 with
 | .ret r2=>some (.done (.ret r2))
 | .fall o2 =>
  (bif((o2.2.2.2.length:Int)==1)then
   some (.done (.ret ((o2.2.1,o2.2.2.1,0))))
  else
   (ds_ o2.1 1024).bind λ y16 =>
   some (.next (2,o2.2.1,o2.2.2.1,y16)))
theorem sC_:eq_=iO_:=by
 funext s4
 simp only[eq_,iO_,sB_]<;>rfl
def lA_(x0:Xj)(x1:Int)(x2:Str):Option (Xj×Xp×Int) :=
 (en_ (x2.length:Int)).bind λ y1 =>
 (ds_ x2 1024).bind λ y2 =>
 Option.bind (ak_ iO_ BIG (x1,x0,(Xp.mk [] (x2.length:Int) y1),y2)) fun(wo3:Out Unit (Xj×Xp×Int))=>match wo3 with
 | .ret r3=>some r3
 | .fall _ =>
  none
theorem wI_:ek_=lA_:=by
 funext x0 x1 x2
 simp only[ek_,lA_,sC_]<;>rfl
def eD_ (rec0:Xj->Xk->Int->Option (Xj×Xr×Int)) (x0:Xj) (x1:Xk) (x2:Int):Option (Xj×Xr×Int) :=
 (b0_ x1 x2).bind λ y1 =>
 Option.bind (
  Option.bind (ca_ (Xq.mk y1.1.Id_ y1.1.Xw y1.1.Xo y1.1.Xy y1.1.Xv y1.1.Yw y1.1.Yv y1.1.Yg y1.1.Xu y1.1.Xa [])) fun(y2:Bool) =>
  (bif y2 then
   (eK_ x1 x2).bind λ y3 =>
   Option.bind (ak_ (cR_ y3 rec0 x1) BIG ([],0,x0,y3)) fun(wo1:Out (Str×Xj) (Xj×Xr×Int))=>match wo1 with
   | .ret r1=>some (.ret r1)
   | .fall o1 =>
    some (.fall (3,o1.1,o1.2))
  else
   some (.fall (1,y1.1.Xl,x0)))
  ) fun(wo2:Out (Int×Str×Xj) (Xj×Xr×Int))=>match wo2 with
 | .ret r2=>some r2
 | .fall o2 =>
  (lA_ o2.2.2 o2.1 o2.2.1).bind λ y12 =>
  some ((y12.1,(Xr.mk (Xq.mk y1.1.Id_ y1.1.Xw y1.1.Xo y1.1.Xy y1.1.Xv y1.1.Yw y1.1.Yv y1.1.Yg y1.1.Xu y1.1.Xa []) y12.2.1),y12.2.2))
theorem pO_:cA_=eD_:=by
 funext rec0 x0 x1 x2
 simp only[cA_,eD_,wI_]<;>rfl
def fn_:Nat->Xj->Xk->Int->Option (Xj×Xr×Int) | 0=>λ _ _ _=>none|n+1=>eD_ (fn_ n)
theorem rw_:ci_=fn_:=by
 funext n
 induction n with
 | zero=>rfl
 | succ n ih =>
  show cA_ (ci_ n)=eD_ (fn_ n);rw[ih,pO_]
def hP_ (x0:Xj) (x1:Xk):Option (Xj×Str×Int) :=
 (jC_ x1).bind λ y1 =>
 (bif(!y1)then
  (f7_ x0).bind λ y2 =>
  some ((y2,[],1))
 else
  (fn_ BIG x0 x1 1).bind λ y3 =>
  (bif(y3.2.2 != 0)then
   (f7_ x0).bind λ y4 =>
   some ((y4,[],y3.2.2))
  else
   (ej_ x1.Xt 4).bind λ y5 =>
   (ej_ (x1.Xz.length:Int) 4).bind λ y6 =>
   (cat y5.1 y6.1).bind λ y7 =>
   (ep_ y3.2.1).bind λ y8 =>
   (cat y7 y8).bind λ y9 =>
   (kS_ y3.1 4 y9).bind λ y10 =>
   (bif(y10.2.2 != 0)then
    (f7_ x0).bind λ y11 =>
    some ((y11,[],y10.2.2))
   else
    some ((y10.1,y10.2.1,0)))))
theorem rx_:dR_=hP_:=by
 funext x0 x1
 simp only[dR_,hP_,qR_,wG_,rw_,rS_]<;>rfl
def jH_ (x0:Xh) (x1:Int):Option (Xh×Int) :=
 (bif(decide ((x0.Xc.length:Int)>=64))then
  (av_ x0).bind λ y1 =>
  some ((y1,22))
 else
  Option.bind (bif((decide (x1<0))||(decide (x1>1099511627776)))then some true else 
   Option.bind (bif(decide ((x0.Xc.length:Int)>0))then 
    (al_ x0.Xc (w64 ((x0.Xc.length:Int)-1))).bind λ y2 =>
    some (decide (x1<=y2.Yb))
     else some false) fun(y3:Bool) =>
   some y3
   ) fun(y4:Bool) =>
  (bif y4 then
   (av_ x0).bind λ y5 =>
   some ((y5,1))
  else
   (hP_ x0.Yf x0.Xb.Xm).bind λ y6 =>
   (bif(y6.2.2 != 0)then
    (av_ x0).bind λ y7 =>
    some ((y7,y6.2.2))
   else
    (av_ x0).bind λ y8 =>
    (room 24 y8.Xc [(Yd.mk x1 y6.2.1)]).bind λ y9 =>
    some (((Xh.mk y8.Xb y6.1 y9),0)))))
theorem t0_:d0_=jH_:=by
 funext x0 x1
 simp only[d0_,jH_,d5_,rx_]<;>rfl
def jI_ (x0:Xh) (x1:Str) (x2:Int) (x3:Str):Option (Int×Int) :=
 (dx_ x0 x1 x2).bind λ y1 =>
 (bif(y1.2 != 0)then
  some ((0,y1.2))
 else
  (bif(decide (y1.1.Zk>0))then
   (hx_ y1.1.Zj x1 y1.1.Ym x3).bind λ y2 =>
   (bif(y2.2 != 0)then
    some ((0,y2.2))
   else
    (bif((x3==[46,46])&&(y1.1.Ym==1))then
     some (((ck_ y1.1.Zk 2),0))
    else
     some (((w64 ((w64 (y1.1.Zk*1048576))+y2.1)),0))))
  else
   (bif(x3==[46,46])then
    some ((1,0))
   else
    (bif((x2==1)&&(x3==[97,99,116,105,118,101]))then
     (jq_ 1).bind λ y3 =>
     some ((y3,0))
    else
     (bif((x2==1)&&(x3==[97,114,99,104,105,118,101]))then
      some ((2,0))
     else
      (ak_ (mE_ x0 x2 x3) BIG 0).bind λ wo1=>match wo1 with
      | .ret r1=>some r1
      | .fall _ =>
       some ((0,8)))))))
theorem t1_:il_=jI_:=by
 funext x0 x1 x2 x3
 simp only[il_,jI_,fW_,ot_]<;>rfl
def gC_(x0:Xh)(x1:Int)(x2:Int)(x3:Int):Option (Str×Int) :=
 (gB_ x0 x1).bind λ y1 =>
 (bif(!y1.2)then
  some (([],8))
 else
  (cw_ y1.1).bind λ y2 =>
  (bif y2 then
   some (([],10))
  else
   (mF_ y1.1.Zj y1.1.Ym x2 x3).bind λ y3 =>
   some ((y3.1,y3.2))))
theorem t2_:f3_=gC_:=by
 funext x0 x1 x2 x3
 simp only[f3_,gC_,ns_]<;>rfl
def jJ_(x0:Xx)(x1:Str)(x2:Xq):Option Bool :=
 (b0_ x0.Xm x2.Xw).bind λ y1 =>
 Option.bind (bif(y1.2&&(x2.Id_ != 1))then 
  (eR_ x0 x1 y1.1 2).bind λ y2 =>
  some y2
   else some false) fun(y3:Bool) =>
 some (y3)
theorem t3_:dc_=jJ_:=by
 funext x0 x1 x2
 simp only[dc_,jJ_,it_]<;>rfl
def jK_ (x0:Xx) (x1:Str) (x2:Xq) (x3:Int):Option Int :=
 (cP_ x3).bind λ y1 =>
 (bif(y1.2 != 0)then
  some (y1.2)
 else
  (aq_ x2.Xv 2147483648).bind λ y2 =>
  (bif(y2&&(x3 != 0))then
   some (10)
  else
   (eR_ x0 x1 x2 y1.1).bind λ y3 =>
   (bif(!y3)then
    some (11)
   else
    Option.bind (bif((bR_ .i64 x3 64) != 0)then 
     (jJ_ x0 x1 x2).bind λ y4 =>
     some (!y4)
      else some false) fun(y5:Bool) =>
    (bif y5 then
     some (11)
    else
     (aq_ x2.Xv 536870912).bind λ y6 =>
     Option.bind (bif y6 then 
      (cF_ x0.Xs x2.Id_).bind λ y7 =>
      some y7
       else some false) fun(y8:Bool) =>
     (bif y8 then
      some (24)
     else
      some (0))))))
theorem t4_:eL_=jK_:=by
 funext x0 x1 x2 x3
 simp only[eL_,jK_,it_,t3_]<;>rfl
def kr_ (x0:Xx) (x1:Str) (x2:Int) (x3:Int) (x4:Int):Option (Xx×Int) :=
 (e4_ x0).bind λ y1 =>
 (cD_ x0 x1 x2).bind λ y2 =>
 (bif(y2.2 != 0)then
  some ((y1,y2.2))
 else
  (jK_ x0 x1 y2.1 x3).bind λ y3 =>
  (bif(y3 != 0)then
   some ((y1,y3))
  else
   Option.bind (
    Option.bind (bif((bR_ .i64 x3 16) != 0)then 
     (aq_ y2.1.Xv 1073741824).bind λ y4 =>
     some (!y4)
      else some false) fun(y5:Bool) =>
    (bif y5 then
     (bE_ x4).bind λ y6 =>
     (gg_ y1.Xm x2 0 x1 y6).bind λ y7 =>
     some (y7.1.Xt,y1.Yx,y1.Yj,y7.1.Xz,y1.Xs)
    else
     some (y1.Xm.Xt,y1.Yx,y1.Yj,y1.Xm.Xz,y1.Xs))
    ) fun(o1:Int×(List Xf)×(List Yz)×(List Xq)×(List Int)) =>
   Option.bind (
    (aq_ y2.1.Xv 536870912).bind λ y8 =>
    (bif y8 then
     (hy_ (Xx.mk o1.2.1 o1.2.2.1 (Xk.mk o1.1 o1.2.2.2.1) o1.2.2.2.2) x2).bind λ y9 =>
     some (y9.Yx,y9.Yj,y9.Xm.Xt,y9.Xm.Xz,y9.Xs)
    else
     some (o1.2.1,o1.2.2.1,o1.1,o1.2.2.2.1,o1.2.2.2.2))
    ) fun(o2:(List Xf)×(List Yz)×Int×(List Xq)×(List Int)) =>
   some (((Xx.mk o2.1 o2.2.1 (Xk.mk o2.2.2.1 o2.2.2.2.1) o2.2.2.2.2),0))))
theorem va_:fw_=kr_:=by
 funext x0 x1 x2 x3 x4
 simp only[fw_,kr_,jD_,t4_,ov_]<;>rfl
def jL_ (x0:Xh) (x1:Str) (x2:Int) (x3:Int) (x4:Int):Option (Xh×Int) :=
 (dx_ x0 x1 x2).bind λ y1 =>
 (bif(y1.2 != 0)then
  (av_ x0).bind λ y2 =>
  some ((y2,y1.2))
 else
  (bif(y1.1.Zk==1)then
   (kr_ x0.Xb x1 y1.1.Ym x3 x4).bind λ y3 =>
   (bif(y3.2 != 0)then
    (av_ x0).bind λ y4 =>
    some ((y4,y3.2))
   else
    (e5_ x0 y3.1).bind λ y5 =>
    some ((y5,0)))
  else
   (cP_ x3).bind λ y6 =>
   (bif(y6.2 != 0)then
    (av_ x0).bind λ y7 =>
    some ((y7,y6.2))
   else
    (cw_ y1.1).bind λ y8 =>
    (bif(y8&&(x3 != 0))then
     (av_ x0).bind λ y9 =>
     some ((y9,10))
    else
     (bif(y1.1.Zk==0)then
      (av_ x0).bind λ y10 =>
      some ((y10,0))
     else
      (bif(((bR_ .i64 y6.1 2) != 0)||(decide (x3>=64)))then
       (av_ x0).bind λ y11 =>
       some ((y11,33))
      else
       (b0_ y1.1.Zj.Xm y1.1.Ym).bind λ y12 =>
       (is_ x0.Xb.Yx x1 y12.1.Yw y12.1.Yv y12.1.Xv y6.1).bind λ y13 =>
       (bif(!y13)then
        (av_ x0).bind λ y14 =>
        some ((y14,11))
       else
        (av_ x0).bind λ y15 =>
        some ((y15,0)))))))))
theorem t5_:d1_=jL_:=by
 funext x0 x1 x2 x3 x4
 simp only[d1_,jL_,fW_,d5_,va_,jF_,pJ_]<;>rfl
def pK_  : Option Bool :=
 Option.bind (lx_ [(Xf.mk [97,100,109] [] [])] [] [97,100,109] 1) fun(y1:Xx×Int) =>
 (bif(y1.2 != 0)then
  some (false)
 else
  (kp_ y1.1 100).bind λ y2 =>
  (hO_ y2 [97,100,109] 1048577 [102] 420 1 2).bind λ y3 =>
  (bif((y3.2.2 != 0)||(y3.2.1 != 1048578))then
   some (false)
  else
   (fX_ y3.1 [97,100,109] y3.2.1 0 [111,108,100] 3).bind λ y4 =>
   (bif(y4.2.2 != 0)then
    some (false)
   else
    (jH_ y4.1 5).bind λ y5 =>
    (bif(y5.2 != 0)then
     some (false)
    else
     (fX_ y5.1 [97,100,109] y3.2.1 0 [110,101,119] 6).bind λ y6 =>
     (jI_ y6.1 [97,100,109] 2 [53]).bind λ y7 =>
     (gC_ y6.1 2097154 0 10).bind λ y8 =>
     (gC_ y6.1 y3.2.1 0 10).bind λ y9 =>
     (jL_ y6.1 [97,100,109] 2097154 1 7).bind λ y10 =>
     some (((((((((y6.2.2==0)&&(y7.1==2097153))&&(y7.2==0))&&(y8.1==[111,108,100]))&&(y8.2==0))&&(y9.1==[110,101,119]))&&(y9.2==0))&&(y10.2==33)))))))
theorem wJ_:law17_awake=pK_:=by
 simp only[law17_awake,pK_,wE_,u8_,rv_,sA_,t0_,t1_,t2_,t5_]<;>rfl
theorem awake_eq:law17_awake=some true:=by
 rw[wJ_]
 kernel_rfl
end
theorem put_loop(n:Int)(w:Nat)(hw:w<=8):ak_ (gR_ (List.replicate w (0:Int)) n) BIG (0,List.replicate w (0:Int))=some (leL n w):=by
 have hB:BIG=18446744073709551616:=rfl;have h:=bd_ (body:=gR_ (List.replicate w (0:Int)) n) (λ i=>((i:Int),leL n i++List.replicate (w-i) (0:Int))) w (by omega) (b:=leL n w) (λ i hi => ?_) ?_
 .simpa[leL]using h
 .unfold gR_;have h1:decide ((i:Int)<((List.replicate w (0:Int)).length:Int))=true:=by simp;omega
  simp only[h1,cond_true];rw[shr_byte n i (by omega)];simp only[qBs];have h2:(leL n i++List.replicate (w-i) (0:Int)).length=w:=by simp[leL_len];omega
  rw[as_ (by omega:i<(leL n i++List.replicate (w-i) (0:Int)).length)];simp only[qBs,qTn];rw[ap_ (n:=(i:Int)+1) ⟨by omega,by omega⟩,wu8];have h3:=set_mid (leL n i) (w-(i+1)) (0:Int) (byteAt n i);rw[leL_len,show w-(i+1)+1=w-i by omega]at h3;rw[leL_succ];show some (Step.next ((i:Int)+1,(leL n i++List.replicate (w-i) (0:Int)).set i (byteAt n i)))=_;rw[h3];rfl
 .unfold gR_;have h1:decide ((w:Int)<((List.replicate w (0:Int)).length:Int))=false:=by simp
  simp only[h1,cond_false];simp
def fitsW(n:Int)(w:Nat):Bool:=decide (0<=n)&&(decide (8<=w)||decide (n<2^(8*w)))
theorem wK_(n:Int)(w:Nat)(h1:1<=w)(h8:w<=8):ej_ n (w:Int)=some (if fitsW n w then(leB n w,0)else([],5)):=by
 unfold ej_;refine ac_ (by rw[Bool.or_eq_false_iff];exact⟨by simp;omega,by simp;omega⟩) ?_;refine aa_ (a := !(fitsW n w)) ?_ ?_
 .unfold fitsW;by_cases h0:n<0
  .refine ah_ (by simpa using h0) ?_;have:decide (0<=n)=false:=by simp;omega
   rw[this];rfl
  .refine ac_ (by simpa using h0) ?_;have h0':decide (0<=n)=true:=by simp;omega
   rw[h0'];by_cases hlt:w<8
   .have e8:decide (8<=w)=false:=by simp;omega
    rw[e8];refine aa_ (a := !(decide (n<2^(8*w)))) (ah_ (by simp;omega) (aa_ (shr_byte n w hlt) ?_)) (by simp);have hp:(0:Int)<2^(8*w):=Int.pow_pos (by omega);rw[Int.fdiv_eq_ediv_of_nonneg _ (by omega)]
    congr 1
    by_cases hn:n<2^(8*w)
    .rw[Int.ediv_eq_zero_of_lt (by omega) hn];simp[hn]
    .have:1<=n/2^(8*w):=by
      rw[Int.le_ediv_iff_mul_le hp];omega
     simp[hn];omega
   .have e8:decide (8<=w)=true:=by simp;omega
    rw[e8];exact aa_ (a:=false) (ac_ (by simp;omega) rfl) rfl
 .cases hf:fitsW n w with
  | false=>exact ah_ rfl rfl
  | true =>
   refine ac_ rfl ?_;refine aa_ (makeI_eq (by omega) (by omega) (by omega)) ?_;rw[qTn];exact aa_ (put_loop n w h8) rfl
theorem jM_(n:Int)(w:Nat)(h1:1<=w)(h8:w<=8)(h0:0<=n)(hn:w<8->n<2^(8*w)):ej_ n (w:Int)=some (leB n w,0):=by
 rw[wK_ n w h1 h8,if_pos];unfold fitsW;rw[qAn,Bool.or_eq_true];refine⟨by simpa using h0,?_⟩;rcases Nat.lt_or_ge w 8 with h|h
 .exact .inr (by simpa using hn h)
 .exact .inl (by simpa using h)
def bY_(s:Str):Str:=leB (s.length:Int) 2++s
theorem fK_(s:Str):(bY_ s).length=2+s.length:=by simp[bY_,dv_]
theorem text_put(s:Str)(h:s.length<=65535):f2_ s=some (bY_ s,0):=by
 unfold f2_;have c:decide ((s.length:Int)>65535)=false:=by simp;omega
 rw[c];simp only[cond_false];have h2:=jM_ (s.length:Int) 2 (by omega) (by omega) (by omega) (λ _=>by show(s.length:Int)<2^16;omega);rw[show((2:Nat):Int)=2 from rfl]at h2;rw[h2];simp only[qBs];rw[cy_ (by rw[dv_];omega)];rfl
def leV:Str->Nat | []=>0|b::r=>b.toNat+256*leV r
theorem leV_lt:∀(s:Str),leV s<2^(8*s.length)
 | []=>by simp[leV]
 | b::r=>by
  have h:=leV_lt r;have hb:=b.toNat_lt;simp only[leV,qLc];rw[show 8*(r.length+1)=8*r.length+8 by omega,Nat.pow_add];omega
def win(s:Str)(at_ w:Nat):Str:=(s.drop at_).take w
theorem i5_{s:Str}{at_ w:Nat}(h:at_+w<=s.length):(win s at_ w).length=w:=by simp[win];omega
theorem pq_{s:Str}{at_ w j:Nat}(h:at_+w<=s.length)(hj:j<w):(win s at_ w).drop (w-(j+1))=s[at_+(w-1-j)]'(by omega)::(win s at_ w).drop (w-j):=by
 have hl:=i5_ h;rw[List.drop_eq_getElem_cons (by omega:w-(j+1)<(win s at_ w).length)]
 congr 1
 .simp only[win,List.getElem_take,List.getElem_drop]
  congr 1
  omega
 .congr 1
  omega
theorem or_byte(a b:Nat)(hb:b<256):(a*256)|||b=a*256+b:=by
 have:=Nat.shiftLeft_add_eq_or_of_lt (i:=8) (b:=b) (by omega) a;rw[Nat.shiftLeft_eq]at this;exact this.symm
theorem get_loop(s:Str)(at_ w:Nat)(h1:1<=w)(h8:w<=8)(h:at_+w<=s.length)(hs:s.length<=9223372036854775807):ak_ (gQ_ s (at_:Int)) BIG (0,w64 ((w:Int)-1))=some (leV (win s at_ w):Int):=by
 have hB:BIG=18446744073709551616:=rfl;have hw:=bd_ (body:=gQ_ s (at_:Int)) (λ j=>(((leV ((win s at_ w).drop (w-j)):Nat):Int),(w:Int)-1-(j:Int))) w (by omega) (b:=(leV (win s at_ w):Int)) (λ j hj => ?_) ?_
 .have e:(win s at_ w).drop (w-0)=[]:=List.drop_eq_nil_of_le (by rw[i5_ h];omega);simp only[e,leV]at hw;rw[ap_ ⟨by omega,by omega⟩];simpa using hw
 .unfold gQ_;have hlt:=leV_lt ((win s at_ w).drop (w-j));have hdl:((win s at_ w).drop (w-j)).length=j:=by rw[List.length_drop,i5_ h];omega
  rw[hdl]at hlt;have hpw:2^(8*j)<=2^56:=Nat.pow_le_pow_right (by omega) (by omega);refine ah_ (by simp;omega) ?_;have ei:w64 ((at_:Int)+((w:Int)-1-(j:Int)))=((at_+(w-1-j):Nat):Int):=by
   rw[ap_ ⟨by omega,by omega⟩];omega
  show Option.bind (cg_ s (w64 ((at_:Int)+((w:Int)-1-(j:Int))))) _=_;rw[ei];refine aa_ (kf_ (by omega)) ?_;rw[pq_ h hj];simp only[leV];generalize s[at_+(w-1-j)]'(by omega)=b;have hb:=b.toNat_lt;generalize leV ((win s at_ w).drop (w-j))=v at hlt ⊢;show some (Step.next (orI .u64 (IntKind.u64.wrap ((v:Int)*2^8)) (IntKind.u64.wrap (b.toNat:Int)),w64 ((w:Int)-1-(j:Int)-1)))=_;have e1:IntKind.u64.wrap ((v:Int)*2^8)=((v*256:Nat):Int):=by rw[wu64];omega
  have e2:IntKind.u64.wrap (b.toNat:Int)=(b.toNat:Int):=by rw[wu64];omega
  rw[e1,e2,orI_u64 (by omega) (by omega),or_byte _ _ hb,ap_ ⟨by omega,by omega⟩]
  congr 3
  .omega
  .omega
 .unfold gQ_;refine ac_ (by simp;omega) ?_;simp
theorem get_eq(s:Str)(at_ w:Nat)(h1:1<=w)(h8:w<=8)(h:at_<=s.length)(hs:s.length<=9223372036854775807) :
  k3_ s (at_:Int) (w:Int)=some (if s.length-at_<w then(0,0,3)else if leV (win s at_ w)>9223372036854775807 then(0,0,5)else((leV (win s at_ w):Int),((at_+w:Nat):Int),0)):=by
 unfold k3_;refine ac_ (by simp;omega) ?_;have el:w64 ((s.length:Int)-(at_:Int))=((s.length-at_:Nat):Int):=by rw[ap_ ⟨by omega,by omega⟩];omega
 rw[el];by_cases hlt:s.length-at_<w
 .rw[if_pos hlt];exact ah_ (by simp;omega) rfl
 .rw[if_neg hlt];refine ac_ (by simp;omega) ?_;refine aa_ (get_loop s at_ w h1 h8 (by omega) hs) ?_;by_cases hv:leV (win s at_ w)>9223372036854775807
  .rw[if_pos hv];exact ah_ (by simp;omega) rfl
  .rw[if_neg hv];refine ac_ (by simp;omega) ?_;rw[ap_ (n:=(leV (win s at_ w):Int)) ⟨by omega,by omega⟩,ap_ (n:=(at_:Int)+(w:Int)) ⟨by omega,by omega⟩];rfl
theorem win_sub(s:Str)(at_ w:Nat)(h:at_+w<=s.length)(hs:s.length<=9223372036854775807):bz_ s (at_:Int) (w64 ((at_:Int)+(w:Int)))=some (win s at_ w):=by
 rw[ap_ ⟨by omega,by omega⟩,cf_ (by omega) (by omega) (by omega)]
 congr 1
 simp only[win,qTn];rw[show((at_:Int)+(w:Int)).toNat=at_+w by omega,List.drop_take,show at_+w-at_=w by omega]
def takeT(s:Str)(a:Nat):Option (Str×Nat):=if s.length<a+2 then none else if s.length<a+2+leV (win s a 2)then none else some (win s (a+2) (leV (win s a 2)),a+2+leV (win s a 2))
theorem mW_{s t:Str}{a p:Nat}(h:takeT s a=some (t,p)):p<=s.length/\t.length<=s.length/\a+2<=p:=by
 unfold takeT at h;split at h
 .cases h
 .split at h
  .cases h
  .rename_i h1 h2;simp only[qOi,Prod.mk.injEq]at h;obtain⟨rfl,rfl⟩:=h;refine⟨by omega,?_,by omega⟩;rw[i5_ (by omega)];omega
theorem leV_two(s:Str)(a:Nat)(h:a+2<=s.length):leV (win s a 2)<65536:=by
 have:=leV_lt (win s a 2);rw[i5_ h]at this;exact this
theorem gettext_eq(s:Str)(a:Nat)(h:a<=s.length)(hs:s.length<=2000000):ii_ s (a:Int)=some (match takeT s a with|none=>([],0,3)|some (t,p)=>(t,(p:Int),0)):=by
 unfold ii_;have hg:=get_eq s a 2 (by omega) (by omega) h (by omega);rw[show((2:Nat):Int)=2 from rfl]at hg;unfold takeT;by_cases h2:s.length<a+2
 .rw[if_pos (by omega)]at hg;rw[if_pos h2];refine aa_ hg ?_;exact ah_ rfl rfl
 .have hv:=leV_two s a (by omega);rw[if_neg (by omega),if_neg (by omega)]at hg;rw[if_neg h2];refine aa_ hg ?_;refine ac_ rfl ?_;have ew:w64 ((s.length:Int)-((a+2:Nat):Int))=((s.length-(a+2):Nat):Int):=by rw[ap_ ⟨by omega,by omega⟩];omega
  have ex:w64 (((a+2:Nat):Int)+(leV (win s a 2):Int))=((a+2+leV (win s a 2):Nat):Int):=by rw[ap_ ⟨by omega,by omega⟩];omega
  by_cases h3:s.length<a+2+leV (win s a 2)
  .rw[if_pos h3];refine ah_ ?_ rfl;show decide (w64 ((s.length:Int)-((a+2:Nat):Int))<(leV (win s a 2):Int))=true;rw[ew];simp only[qDe];omega
  .rw[if_neg h3];refine ac_ ?_ ?_
   .show decide (w64 ((s.length:Int)-((a+2:Nat):Int))<(leV (win s a 2):Int))=false;rw[ew];simp only[qDf];omega
   refine aa_ (win_sub s (a+2) (leV (win s a 2)) (by omega) (by omega)) ?_;show some (_,w64 (((a+2:Nat):Int)+(leV (win s a 2):Int)),(0:Int))=_;rw[ex]
theorem orI_comm(k:IntKind)(a b:Int):orI k a b=orI k b a:=by
 unfold orI;rw[BitVec.or_comm]
def rot(x:Int)(n:Nat):Int:=orI .u32 (IntKind.u32.wrap (x*2^(32-n))) (x.fdiv (2^n))
theorem right2(x:Int):bg_ x 2=some (rot x 2):=by kernel_rfl
theorem right6(x:Int):bg_ x 6=some (rot x 6):=by kernel_rfl
theorem right7(x:Int):bg_ x 7=some (rot x 7):=by kernel_rfl
theorem right11(x:Int):bg_ x 11=some (rot x 11):=by kernel_rfl
theorem right13(x:Int):bg_ x 13=some (rot x 13):=by kernel_rfl
theorem right17(x:Int):bg_ x 17=some (rot x 17):=by kernel_rfl
theorem right18(x:Int):bg_ x 18=some (rot x 18):=by kernel_rfl
theorem right19(x:Int):bg_ x 19=some (rot x 19):=by kernel_rfl
theorem right22(x:Int):bg_ x 22=some (rot x 22):=by kernel_rfl
theorem right25(x:Int):bg_ x 25=some (rot x 25):=by kernel_rfl
theorem ff_(x:Int)(n:Int)(m:Nat)(h:aT_ x n=some (orI .u32 (x.fdiv (2^m)) (IntKind.u32.wrap (x*2^(32-m))))):aT_ x n=some (rot x m):=by
 rw[h,orI_comm];rfl
theorem rotr2(x:Int):aT_ x 2=some (rot x 2):=ff_ x 2 2 (by kernel_rfl)
theorem rotr6(x:Int):aT_ x 6=some (rot x 6):=ff_ x 6 6 (by kernel_rfl)
theorem rotr7(x:Int):aT_ x 7=some (rot x 7):=ff_ x 7 7 (by kernel_rfl)
theorem rotr11(x:Int):aT_ x 11=some (rot x 11):=ff_ x 11 11 (by kernel_rfl)
theorem rotr13(x:Int):aT_ x 13=some (rot x 13):=ff_ x 13 13 (by kernel_rfl)
theorem rotr17(x:Int):aT_ x 17=some (rot x 17):=ff_ x 17 17 (by kernel_rfl)
theorem rotr18(x:Int):aT_ x 18=some (rot x 18):=ff_ x 18 18 (by kernel_rfl)
theorem rotr19(x:Int):aT_ x 19=some (rot x 19):=ff_ x 19 19 (by kernel_rfl)
theorem rotr22(x:Int):aT_ x 22=some (rot x 22):=ff_ x 22 22 (by kernel_rfl)
theorem rotr25(x:Int):aT_ x 25=some (rot x 25):=ff_ x 25 25 (by kernel_rfl)
theorem map_nthI(y:List Int):(List.range y.length).map (az_ y)=y:=by
 apply List.ext_getElem?;intro i;rw[List.getElem?_map];by_cases hi:i<y.length
 .rw[List.getElem?_range hi,List.getElem?_eq_getElem hi];simp[az_,hi]
 .rw[List.getElem?_eq_none (by simpa using hi),List.getElem?_eq_none (by omega)];rfl
theorem l_of64{y:List Int}(h:y.length=64):(Ye.of y).l=y:=by
 have h1:(Ye.of y).l=(List.range 64).map (az_ y):=rfl;rw[h1,←h,map_nthI]
theorem ks_{y:List Int}{i:Nat}(h:i<y.length):al_ y (i:Int)=some (az_ y i):=by
 rw[as_ h];simp[az_,h]
def kT_(b:Str)(i:Nat):Int:=((b.getD i 0).toNat:Int)
theorem nS_{b:Str}{i:Nat}(h:i<b.length):cg_ b (i:Int)=some (kT_ b i):=by
 rw[kf_ h];simp[kT_,h]
def wordN(b:Str)(i:Nat):Int:=orI .u32 (orI .u32 (orI .u32 (IntKind.u32.wrap ((IntKind.u32.wrap (kT_ b (4*i)))*2^24)) (IntKind.u32.wrap ((IntKind.u32.wrap (kT_ b (4*i+1)))*2^16))) (IntKind.u32.wrap ((IntKind.u32.wrap (kT_ b (4*i+2)))*2^8))) (IntKind.u32.wrap (kT_ b (4*i+3)))
def wdHi(i:Nat)(l:List Int):Int:=(IntKind.u32.wrap ((IntKind.u32.wrap ((IntKind.u32.wrap (az_ l (i-16)+(bH_ .u32 (bH_ .u32 (rot (az_ l (i-15)) 7) (rot (az_ l (i-15)) 18)) ((az_ l (i-15)).fdiv (2^3)))))+az_ l (i-7)))+(bH_ .u32 (bH_ .u32 (rot (az_ l (i-2)) 17) (rot (az_ l (i-2)) 19)) ((az_ l (i-2)).fdiv (2^10)))))
def wd(b:Str)(i:Nat)(l:List Int):Int:=if i<16 then wordN b i else wdHi i l
theorem wd_hi{b:Str}{i:Nat}{l:List Int}(h:¬i<16):wd b i l=wdHi i l:=if_neg h
def bC_(b:Str):Nat->List Int | 0=>[]|i+1=>bC_ b i++[wd b i (bC_ b i)]
theorem cU_(b:Str):∀i,(bC_ b i).length=i
 | 0=>rfl
 | i+1=>by simp[bC_,cU_ b i]
def d6_(b:Str)(i:Nat):List Int:=bC_ b i++List.replicate (64-i) 0
theorem ps_(b:Str){i:Nat}(h:i<=64):(d6_ b i).length=64:=by
 simp[d6_,cU_];omega
theorem schedA_nth(b:Str){i j:Nat}(h:j<i):az_ (d6_ b i) j=az_ (bC_ b i) j:=by
 have:j<(bC_ b i).length:=by rw[cU_];exact h
 simp only[az_,d6_,List.getD_eq_getElem?_getD];rw[List.getElem?_append_left this]
theorem schedA_set(b:Str){i:Nat}(h:i<64):(d6_ b i).set i (wd b i (bC_ b i))=d6_ b (i+1):=by
 unfold d6_;have e:64-i=(64-(i+1))+1:=by omega
 rw[List.set_append_right _ _ (by rw[cU_];exact Nat.le_refl _),cU_,Nat.sub_self,e,List.replicate_succ,List.set_cons_zero,bC_,List.append_assoc];rfl
theorem word_eq{b:Str}{i:Nat}(hb:b.length=64)(hi:i<16):nj_ ((b.take 64).drop (4*i))=some (wordN b i):=by
 have ht:b.take 64=b:=by rw[←hb];exact List.take_length
 rw[ht];unfold nj_;have hd:∀j:Nat,j<4->cg_ (b.drop (4*i)) (j:Int)=some (kT_ b (4*i+j)):=λ j hj=>by
  rw[nS_ (by rw[List.length_drop];omega)]
  congr 1
  simp only[kT_,List.getD_eq_getElem?_getD,List.getElem?_drop]
 have h0:=hd 0 (by omega);have h1:=hd 1 (by omega);have h2:=hd 2 (by omega);have h3:=hd 3 (by omega);refine aa_ h0 (aa_ h1 (aa_ h2 (aa_ h3 rfl)))
theorem mX_{n i:Nat}(h:i<n):c3_ n (i:Int)=some ():=by
 unfold c3_;simp[h]
set_option maxRecDepth 100000 in
theorem schedule_eq{b:Str}(hb:b.length=64):ih_ b=some (Ye.of (bC_ b 64)):=by
 unfold ih_;refine aa_ (a:=Ye.of (bC_ b 64)) ?_ rfl;have h64:d6_ b 64=bC_ b 64:=by simp[d6_]
 rw[←h64];refine bd_ (T:=λ i=>((i:Int),Ye.of (d6_ b i))) 64 (by decide) (λ i hi => ?_) ?_
 .unfold iC_;have hl:=l_of64 (ps_ b (Nat.le_of_lt hi));have hset:setI (Ye.of (d6_ b i)).l (i:Int) (wd b i (bC_ b i))=some (d6_ b (i+1)):=by
   rw[hl];unfold setI;rw[if_pos ⟨by omega,by rw[ps_ b (Nat.le_of_lt hi)];omega⟩,qTn,schedA_set b hi]
  refine ah_ (by simp;omega) ?_;refine aa_ (a:=Ye.of (d6_ b (i+1))) ?_ (by rw[au_ (by omega)]);by_cases h16:i<16
  .refine ah_ (by simp;omega) ?_;have e4:w64 (4*(i:Int))=((4*i:Nat):Int):=by rw[ap_ ⟨by omega,by omega⟩];omega
   refine aa_ (a:=(b.take 64).drop (4*i)) ?_ (aa_ (word_eq hb h16) (aa_ (mX_ hi) (aa_ (a:=d6_ b (i+1)) ?_ rfl)))
   .rw[e4,cf_ (by omega) (by omega) (by omega),qTn,qTn,hb]
   .have:wd b i (bC_ b i)=wordN b i:=by unfold wd;rw[if_pos h16]
    rw[←this];exact hset
  .refine ac_ (by simp;omega) ?_;have ek:∀k:Nat,k<=16->w64 ((i:Int)-(k:Int))=((i-k:Nat):Int):=λ k hk=>by rw[ap_ ⟨by omega,by omega⟩];omega
   have eg:∀k:Nat,0<k->k<=16->al_ (Ye.of (d6_ b i)).l (w64 ((i:Int)-(k:Int)))=some (az_ (bC_ b i) (i-k)):=λ k h0 hk=>by
    rw[ek k hk,hl,ks_ (by rw[ps_ b (Nat.le_of_lt hi)];omega),schedA_nth b (by omega)]
   have eb:∀k:Nat,0<k->k<=16->c3_ 64 (w64 ((i:Int)-(k:Int)))=some ():=λ k h0 hk=>by
    rw[ek k hk];exact mX_ (by omega)
   refine aa_ (eb 15 (by omega) (by omega)) (aa_ (eg 15 (by omega) (by omega)) (aa_ (eb 2 (by omega) (by omega)) (aa_ (eg 2 (by omega) (by omega)) (aa_ (right7 _) (aa_ (right18 _) (aa_ (right17 _) (aa_ (right19 _) (aa_ (eb 16 (by omega) (by omega)) (aa_ (eg 16 (by omega) (by omega)) (aa_ (eb 7 (by omega) (by omega)) (aa_ (eg 7 (by omega) (by omega)) (aa_ (mX_ hi) (aa_ (a:=d6_ b (i+1)) ?_ rfl)))))))))))));rw[wd_hi h16]at hset;exact hset
 .unfold iC_;exact ac_ (by simp) rfl
theorem room1{α:Type}{n:Nat}{xs ys:List α}(h:(xs.length+ys.length)*n<=140737488355328)(h2:xs.length+ys.length<=140737488355328):room n xs ys=some (xs++ys):=cx_ (by omega) h
theorem t8_{b:Str}(hb:b.length=64):hd_ b=some (bC_ b 64):=by
 unfold hd_;refine aa_ (a:=bC_ b 16) ?_ (aa_ (a:=bC_ b 64) ?_ rfl)
 .refine bd_ (T:=λ i=>((i:Int),bC_ b i)) 16 (by decide) (λ i hi => ?_) ?_
  .unfold hD_;refine ah_ (by simp;omega) ?_;have e4:w64 (4*(i:Int))=((4*i:Nat):Int):=by rw[ap_ ⟨by omega,by omega⟩];omega
   have ej:∀j:Nat,j<4->w64 (w64 (4*(i:Int))+(j:Int))=((4*i+j:Nat):Int):=λ j hj=>by rw[e4,ap_ ⟨by omega,by omega⟩];omega
   have h0:cg_ b (w64 (4*(i:Int)))=some (kT_ b (4*i)):=by rw[e4];exact nS_ (by omega)
   have hj:∀j:Nat,j<4->cg_ b (w64 (w64 (4*(i:Int))+(j:Int)))=some (kT_ b (4*i+j)):=λ j hj=>by rw[ej j hj];exact nS_ (by omega)
   refine aa_ h0 (aa_ (hj 1 (by omega)) (aa_ (hj 2 (by omega)) (aa_ (hj 3 (by omega)) (aa_ (a:=bC_ b (i+1)) ?_ (by rw[au_ (by omega)])))));rw[room1 (by simp[cU_];omega) (by simp[cU_];omega),bC_];have:wd b i (bC_ b i)=wordN b i:=by unfold wd;rw[if_pos hi]
   rw[this];rfl
  .unfold hD_;exact ac_ (by simp) rfl
 .refine bd_ (T:=λ k=>(((16+k:Nat):Int),bC_ b (16+k))) 48 (by decide) (λ k hk => ?_) ?_
  .unfold hE_;refine ah_ (by simp;omega) ?_;have ek:∀j:Nat,j<=16->w64 (((16+k:Nat):Int)-(j:Int))=((16+k-j:Nat):Int):=λ j hj=>by rw[ap_ ⟨by omega,by omega⟩];omega
   have eg:∀j:Nat,0<j->j<=16->al_ (bC_ b (16+k)) (w64 (((16+k:Nat):Int)-(j:Int)))=some (az_ (bC_ b (16+k)) (16+k-j)):=λ j h0 hj=>by
    rw[ek j hj,ks_ (by rw[cU_];omega)]
   refine aa_ (eg 15 (by omega) (by omega)) (aa_ (eg 2 (by omega) (by omega)) (aa_ (rotr7 _) (aa_ (rotr18 _) (aa_ (rotr17 _) (aa_ (rotr19 _) (aa_ (eg 16 (by omega) (by omega)) (aa_ (eg 7 (by omega) (by omega)) (aa_ (a:=bC_ b (16+(k+1))) ?_ ?_))))))))
   .rw[room1 (by simp[cU_];omega) (by simp[cU_];omega),←Nat.add_assoc,bC_];rw[wd_hi (by omega)];rfl
   .show some (Step.next (w64 (((16+k:Nat):Int)+1),_))=_;rw[au_ (by omega)];rfl
  .unfold hE_;exact ac_ (by simp) rfl
theorem bQ_{n:Nat}(h:n<9223372036854775808):n<BIG:=Nat.lt_trans h (by decide)
def t1N(W:List Int)(i:Nat)(s:Yh):Int:=IntKind.u32.wrap ((IntKind.u32.wrap ((IntKind.u32.wrap ((IntKind.u32.wrap (s.a7_+(bH_ .u32 (bH_ .u32 (rot s.a4_ 6) (rot s.a4_ 11)) (rot s.a4_ 25))))+(bH_ .u32 (bR_ .u32 s.a4_ s.a5_) (bR_ .u32 (bH_ .u32 4294967295 s.a4_) s.a6_))))+az_ glob0.l i))+az_ W i)
def t2N(s:Yh):Int:=IntKind.u32.wrap ((bH_ .u32 (bH_ .u32 (rot s.a0_ 2) (rot s.a0_ 13)) (rot s.a0_ 22))+(bH_ .u32 (bH_ .u32 (bR_ .u32 s.a0_ s.a1_) (bR_ .u32 s.a0_ s.a2_)) (bR_ .u32 s.a1_ s.a2_)))
def rnd(W:List Int)(i:Nat)(s:Yh):Yh:=Yh.mk (IntKind.u32.wrap (t1N W i s+t2N s)) s.a0_ s.a1_ s.a2_ (IntKind.u32.wrap (s.a3_+t1N W i s)) s.a4_ s.a5_ s.a6_
def rnds(W:List Int)(s:Yh):Nat->Yh | 0=>s|i+1=>rnd W i (rnds W s i)
theorem glob_len:glob0.l.length=64:=by kernel_rfl
def mixS(s:Yh)(p:Str):Yh :=
 let v:=rnds (bC_ p 64) s 64
 Yh.mk (IntKind.u32.wrap (s.a0_+v.a0_)) (IntKind.u32.wrap (s.a1_+v.a1_)) (IntKind.u32.wrap (s.a2_+v.a2_)) (IntKind.u32.wrap (s.a3_+v.a3_)) (IntKind.u32.wrap (s.a4_+v.a4_)) (IntKind.u32.wrap (s.a5_+v.a5_)) (IntKind.u32.wrap (s.a6_+v.a6_)) (IntKind.u32.wrap (s.a7_+v.a7_))
theorem mix2_eq(v s:Yh):ak_ (rE_ v) BIG (0,s)=some (Yh.mk (IntKind.u32.wrap (s.a0_+v.a0_)) (IntKind.u32.wrap (s.a1_+v.a1_)) (IntKind.u32.wrap (s.a2_+v.a2_)) (IntKind.u32.wrap (s.a3_+v.a3_)) (IntKind.u32.wrap (s.a4_+v.a4_)) (IntKind.u32.wrap (s.a5_+v.a5_)) (IntKind.u32.wrap (s.a6_+v.a6_)) (IntKind.u32.wrap (s.a7_+v.a7_))):=by
 cases v
 cases s
 kernel_rfl
theorem mix_eq{p:Str}(hp:p.length=64)(s:Yh):o5_ s p=some (mixS s p):=by
 unfold o5_;have hW:(Ye.of (bC_ p 64)).l=bC_ p 64:=l_of64 (cU_ p 64);refine aa_ (schedule_eq hp) (aa_ (a:=rnds (bC_ p 64) s 64) ?_ (aa_ (mix2_eq _ _) rfl));refine bd_ (T:=λ i=>((i:Int),rnds (bC_ p 64) s i)) 64 (by decide) (λ i hi => ?_) ?_
 .unfold nI_;refine ah_ (by simp;omega) ?_;refine aa_ (right6 _) (aa_ (right11 _) (aa_ (right25 _) (aa_ (mX_ hi) (aa_ (ks_ (by rw[glob_len];exact hi)) (aa_ (mX_ hi) (aa_ (a:=az_ (bC_ p 64) i) ?_ (aa_ (right2 _) (aa_ (right13 _) (aa_ (right22 _) ?_)))))))))
  .rw[hW];exact ks_ (by rw[cU_];exact hi)
  .rw[au_ (by omega)];rfl
 .unfold nI_;exact ac_ (by simp) rfl
def tupN(s:Yh)(i:Nat)(K W:List Int):Int×Int×Int×Int×Int×Int×Int×Int×Int×(List Int)×(List Int):=(s.a0_,s.a1_,s.a2_,s.a3_,s.a4_,s.a5_,s.a6_,s.a7_,(i:Int),K,W)
theorem block_eq{p:Str}(hp:p.length=64)(s:Yh):kF_ s.l p=some (mixS s p).l:=by
 unfold kF_;refine aa_ (a:=glob0.l) (by kernel_rfl) (aa_ (t8_ hp) (aa_ (a:=s.a0_) rfl (aa_ (a:=s.a1_) rfl (aa_ (a:=s.a2_) rfl (aa_ (a:=s.a3_) rfl (aa_ (a:=s.a4_) rfl (aa_ (a:=s.a5_) rfl (aa_ (a:=s.a6_) rfl (aa_ (a:=s.a7_) rfl (aa_ (a:=let v:=rnds (bC_ p 64) s 64;(v.a0_,v.a1_,v.a2_,v.a3_,v.a4_,v.a5_,v.a6_,v.a7_)) ?_ (aa_ (a:=s.a0_) rfl (aa_ (a:=s.a1_) rfl (aa_ (a:=s.a2_) rfl (aa_ (a:=s.a3_) rfl (aa_ (a:=s.a4_) rfl (aa_ (a:=s.a5_) rfl (aa_ (a:=s.a6_) rfl (aa_ (a:=s.a7_) rfl rfl))))))))))))))))));refine bd_ (T:=λ i=>tupN (rnds (bC_ p 64) s i) i glob0.l (bC_ p 64)) 64 (by decide) (λ i hi => ?_) ?_
 .unfold kb_ tupN;refine ah_ (by simp;omega) ?_;refine aa_ (rotr6 _) (aa_ (rotr11 _) (aa_ (rotr25 _) (aa_ (ks_ (by rw[glob_len];exact hi)) (aa_ (ks_ (by rw[cU_];exact hi)) (aa_ (rotr2 _) (aa_ (rotr13 _) (aa_ (rotr22 _) ?_)))))));simp only[au_ (show i<9223372036854775807 by omega)];rfl
 .unfold kb_ tupN;exact ac_ (by simp) rfl
theorem u8_toNat(b:UInt8):UInt8.ofNat ((b.toNat:Int)).toNat=b:=by simp
theorem bytesS_strI(s:Str):bytesS (dl_ s)=s:=by
 unfold bytesS dl_;rw[List.map_map]
 conv=>rhs;rw[←List.map_id s]
 exact List.map_congr_left λ b _=>u8_toNat b
theorem iu_(a b:List Int):bytesS (a++b)=bytesS a++bytesS b:=List.map_append
theorem jN_(a:List Int):(bytesS a).length=a.length:=List.length_map _
theorem iP_(s:Str):(dl_ s).length=s.length:=List.length_map _
def cV_(n:Nat):Nat:=(119-n%64)%64
theorem qT_(n:Nat):(n+cV_ n)%64=55:=by unfold cV_;omega
theorem zeros_lt(n:Nat){k:Nat}(h:k<cV_ n):(n+k)%64≠55:=by unfold cV_ at h;omega
def lenL(n:Nat):List Int:=(List.range 8).map λ j=>IntKind.u8.wrap ((IntKind.u64.wrap (8*(IntKind.u64.wrap (n:Int)))).fdiv (2^(56-8*j)))
def padL(s:Str):List Int:=dl_ s++[128]++List.replicate (cV_ s.length) 0
def padS(s:Str):Str:=bytesS (padL s++lenL s.length)
theorem lenL_take(n:Nat){k:Nat}(hk:k<8):(lenL n).take (k+1)=(lenL n).take k++[IntKind.u8.wrap ((IntKind.u64.wrap (8*(IntKind.u64.wrap (n:Int)))).fdiv (2^(56-8*k)))]:=by
 rw[List.take_add_one];simp[lenL,hk]
theorem sD_(s:Str):(padL s).length=s.length+1+cV_ s.length:=by
 simp[padL,iP_];omega
theorem sE_(s:Str):(padS s).length=s.length+9+cV_ s.length:=by
 unfold padS;rw[jN_,qLa,sD_];simp[lenL];omega
theorem padS_mod(s:Str):(padS s).length%64=0:=by
 rw[sE_];have:=qT_ s.length;omega
theorem tmod64(n:Nat):((n:Int).tmod 64 != 56)=decide (n%64≠56):=by
 have:(n:Int).tmod 64=((n%64:Nat):Int):=by rw[Int.tmod_eq_emod_of_nonneg (by omega)];rfl
 rw[this,Bool.eq_iff_iff];simp only[bne_iff_ne,ne_eq,qDe];omega
theorem pad_eq(s:Str)(hs:s.length<1099511627776):mB_ s=some (padS s):=by
 have hz:cV_ s.length<64:=by unfold cV_;omega
 unfold mB_;refine aa_ (a:=dl_ s) (by rw[room1 (by simp[iP_];omega) (by simp[iP_];omega)];rfl) (aa_ (a:=dl_ s++[128]) (room1 (by simp[iP_];omega) (by simp[iP_];omega)) (aa_ (a:=padL s) ?_ (aa_ (a:=padL s++lenL s.length) ?_ rfl)))
 .have h0:dl_ s++[128]=dl_ s++[128]++List.replicate 0 (0:Int):=by simp
  rw[h0];refine bd_ (T:=λ k=>dl_ s++[128]++List.replicate k 0) (cV_ s.length) (Nat.lt_trans hz (by decide)) (λ k hk => ?_) ?_
  .unfold nH_;have hl:(dl_ s++[128]++List.replicate k (0:Int)).length=s.length+1+k:=by simp[iP_];omega
   refine ah_ ?_ (aa_ (a:=dl_ s++[128]++List.replicate (k+1) 0) ?_ rfl)
   .rw[hl,tmod64];have:=zeros_lt s.length hk;simp only[qDe];omega
   .rw[room1 (by rw[hl];simp;omega) (by rw[hl];simp;omega),List.replicate_succ',List.append_assoc]
  .unfold nH_;refine ac_ ?_ rfl;have hl:(dl_ s++[128]++List.replicate (cV_ s.length) (0:Int)).length=s.length+1+cV_ s.length:=by simp[iP_];omega
   rw[hl,tmod64];have:=qT_ s.length;simp only[qDf];omega
 .have h0:padL s=padL s++(lenL s.length).take 0:=by simp
  have h1:lenL s.length=(lenL s.length).take 8:=by rw[List.take_of_length_le (by simp[lenL])]
  rw[h1];refine Eq.trans ?_ (bd_ (body:=kI_ s) (T:=λ k=>((56:Int)-8*(k:Int),padL s++(lenL s.length).take k)) 8 (by decide) (λ k hk => ?_) ?_)
  .rw[List.take_zero,List.append_nil];rfl
  .unfold kI_;refine ah_ (by simp;omega) (aa_ (a:=(IntKind.u64.wrap (8*(IntKind.u64.wrap (s.length:Int)))).fdiv (2^(56-8*k))) ?_ (aa_ (a:=padL s++(lenL s.length).take (k+1)) ?_ ?_))
   .rw[shrI_eq (by show(0:Int)<=56-8*(k:Int);omega) (by show(56:Int)-8*(k:Int)<=(64:Nat);omega)]
    congr 3
    show((56:Int)-8*(k:Int)).toNat=_;omega
   .have hl:=sD_ s;have hk8:((lenL s.length).take k).length<=8:=by simp[lenL];omega
    rw[room1 (by rw[qLa,hl];simp only[qLc,List.length_nil];omega) (by rw[qLa,hl];simp only[qLc,List.length_nil];omega),lenL_take _ hk,List.append_assoc]
   .show some (Step.next (w64 ((56:Int)-8*(k:Int)-8),_))=_;rw[ap_ ⟨by omega,by omega⟩]
    congr 3
    omega
  .unfold kI_;exact ac_ (by simp) rfl
theorem big8(x:Int):gO_ x 8=some (let q:=λ y:Int=>IntKind.u64.wrap (y.tdiv 256);let b:=λ y:Int=>IntKind.u8.wrap (y.tmod 256);bytesS [b (q (q (q (q (q (q (q x))))))),b (q (q (q (q (q (q x)))))),b (q (q (q (q (q x))))),b (q (q (q (q x)))),b (q (q (q x))),b (q (q x)),b (q x),b x]):=by kernel_rfl
theorem big4(x:Int):gO_ x 4=some (let q:=λ y:Int=>IntKind.u64.wrap (y.tdiv 256);let b:=λ y:Int=>IntKind.u8.wrap (y.tmod 256);bytesS [b (q (q (q x))),b (q (q x)),b (q x),b x]):=by kernel_rfl
theorem q_eq{x:Int}(h0:0<=x)(h:x<18446744073709551616):IntKind.u64.wrap (x.tdiv 256)=x/256:=by
 rw[Int.tdiv_eq_ediv_of_nonneg h0,wu64];omega
theorem b_eq{x:Int}(h0:0<=x):IntKind.u8.wrap (x.tmod 256)=x%256:=by
 rw[Int.tmod_eq_emod_of_nonneg h0,wu8];omega
theorem fdiv_pos(x:Int)(n:Nat):x.fdiv (2^n)=x/2^n:=Int.fdiv_eq_ediv_of_nonneg _ (Int.le_of_lt (Int.pow_pos (by decide)))
theorem big8_eq{x:Int}(h0:0<=x)(h:x<18446744073709551616):gO_ x 8=some (bytesS ((List.range 8).map λ j=>IntKind.u8.wrap (x.fdiv (2^(56-8*j))))):=by
 have hd:∀y:Int,0<=y->y<18446744073709551616->0<=y/256/\y/256<18446744073709551616:=λ y h1 h2=>by omega
 have a1:=hd x h0 h;have a2:=hd _ a1.1 a1.2;have a3:=hd _ a2.1 a2.2;have a4:=hd _ a3.1 a3.2;have a5:=hd _ a4.1 a4.2;have a6:=hd _ a5.1 a5.2;have a7:=hd _ a6.1 a6.2;rw[big8];simp only[q_eq h0 h,q_eq a1.1 a1.2,q_eq a2.1 a2.2,q_eq a3.1 a3.2,q_eq a4.1 a4.2,q_eq a5.1 a5.2,q_eq a6.1 a6.2,b_eq h0,b_eq a1.1,b_eq a2.1,b_eq a3.1,b_eq a4.1,b_eq a5.1,b_eq a6.1,b_eq a7.1];have e:((List.range 8).map λ j=>IntKind.u8.wrap (x.fdiv (2^(56-8*j))))=[x/72057594037927936%256,x/281474976710656%256,x/1099511627776%256,x/4294967296%256,x/16777216%256,x/65536%256,x/256%256,x/1%256]:=by
  simp only[wu8,fdiv_pos];rfl
 rw[e];have e2:x/256/256=x/65536:=by omega
 have e3:x/65536/256=x/16777216:=by omega
 have e4:x/16777216/256=x/4294967296:=by omega
 have e5:x/4294967296/256=x/1099511627776:=by omega
 have e6:x/1099511627776/256=x/281474976710656:=by omega
 have e7:x/281474976710656/256=x/72057594037927936:=by omega
 simp only[e2,e3,e4,e5,e6,e7,Int.ediv_one]
theorem padded_eq(s:Str)(hs:s.length<1099511627776):ji_ s=some (padS s):=by
 have hz:cV_ s.length<64:=by unfold cV_;omega
 have hlen:IntKind.u64.wrap ((IntKind.u64.wrap (s.length:Int))*8)=IntKind.u64.wrap (8*(IntKind.u64.wrap (s.length:Int))):=by rw[Int.mul_comm]
 have hP:bytesS (padL s)=s++[128]++List.replicate (cV_ s.length) 0:=by
  unfold padL;rw[iu_,iu_,bytesS_strI]
  congr 1
  simp[bytesS]
 have hl:∀k:Nat,(s++[128]++List.replicate k (0:UInt8)).length=s.length+1+k:=λ k=>by simp;omega
 unfold ji_;refine aa_ (a:=s++[128]) (cy_ (by simp;omega)) (aa_ (a:=bytesS (padL s)) ?_ (aa_ (a:=bytesS (lenL s.length)) ?_ (aa_ (a:=padS s) ?_ rfl)))
 .rw[hP];rw[show ak_ eX_ BIG (s++[128])=ak_ eX_ BIG (s++[128]++List.replicate 0 (0:UInt8))by simp];refine bd_ (T:=λ k=>s++[128]++List.replicate k (0:UInt8)) (cV_ s.length) (Nat.lt_trans hz (by decide)) (λ k hk => ?_) ?_
  .unfold eX_;refine ah_ ?_ (aa_ (a:=s++[128]++List.replicate (k+1) (0:UInt8)) ?_ rfl)
   .rw[hl,tmod64];have:=zeros_lt s.length hk;simp only[qDe];omega
   .rw[cy_ (by rw[hl];simp;omega),List.replicate_succ',List.append_assoc]
  .unfold eX_;refine ac_ ?_ rfl;rw[hl,tmod64];have:=qT_ s.length;simp only[qDf];omega
 .rw[hlen];have hb:0<=IntKind.u64.wrap (8*(IntKind.u64.wrap (s.length:Int)))/\IntKind.u64.wrap (8*(IntKind.u64.wrap (s.length:Int)))<18446744073709551616:=by
   rw[wu64];omega
  rw[big8_eq hb.1 hb.2];rfl
 .unfold padS;rw[iu_];refine cy_ ?_;rw[jN_,jN_,sD_];simp[lenL];omega
def init:Yh:=Yh.mk 1779033703 3144134277 1013904242 2773480762 1359893119 2600822924 528734635 1541459225
def sums(t:Str):Nat->Yh | 0=>init|k+1=>mixS (sums t k) ((t.drop (64*k)).take 64)
def outL(h:Yh):List Int:=h.l.flatMap λ x=>[IntKind.u8.wrap (x.fdiv (2^24)),IntKind.u8.wrap (x.fdiv (2^16)),IntKind.u8.wrap (x.fdiv (2^8)),IntKind.u8.wrap x]
def shaS(s:Str):Str:=bytesS (outL (sums (padS s) ((padS s).length/64)))
theorem outL_len(h:Yh):(outL h).length=32:=rfl
theorem shaS_len(s:Str):(shaS s).length=32:=by
 unfold shaS;rw[jN_,outL_len]
theorem out_eq(h:Yh):ak_ (rF_ h) BIG (0,[])=some (outL h):=by
 cases h
 kernel_rfl
theorem Sum_eq(s:Str)(hs:s.length<1099511627776):o6_ s=some (shaS s):=by
 have hm:=padS_mod s;have hl:(padS s).length<1099511627900:=by
  rw[sE_];have hz:cV_ s.length<64:=by unfold cV_;omega
  omega
 unfold o6_;refine aa_ (pad_eq s hs) (aa_ (a:=sums (padS s) ((padS s).length/64)) ?_ (aa_ (a:=List.replicate 32 0) (by kernel_rfl) (aa_ (out_eq _) rfl)));generalize padS s=t at *
 have h0:(t,Yh.mk 1779033703 3144134277 1013904242 2773480762 1359893119 2600822924 528734635 1541459225)=(t.drop (64*0),sums t 0):=by simp[sums,init]
 rw[h0];refine bd_ (T:=λ k=>(t.drop (64*k),sums t k)) (t.length/64) (bQ_ (by omega)) (λ k hk => ?_) ?_
 .unfold nJ_;have hk':64*k+64<=t.length:=by omega
  have hd:(t.drop (64*k)).length=t.length-64*k:=List.length_drop;refine ah_ ?_ (aa_ (a:=(t.drop (64*k)).take 64) ?_ (aa_ (mix_eq (by rw[List.length_take,hd];omega) _) (aa_ (a:=t.drop (64*(k+1))) ?_ rfl)))
  .have:t.drop (64*k)≠[]:=λ e=>by rw[e]at hd;simp at hd;omega
   cases h:t.drop (64*k)with
   | nil=>exact absurd h this
   | cons x l=>rfl
  .show bz_ (t.drop (64*k)) 0 64=_;rw[cf_ (by omega) (by omega) (by omega)];rfl
  .show bz_ (t.drop (64*k)) 64 ((t.drop (64*k)).length:Int)=_;rw[cf_ (by omega) (by omega) (by omega),qTn,List.take_length];show some ((t.drop (64*k)).drop 64)=_;rw[List.drop_drop];rfl
 .unfold nJ_;have:t.drop (64*(t.length/64))=[]:=List.drop_of_length_le (by omega);rw[this];exact ac_ rfl rfl
theorem word_bound(h:Yh)(p:Str):∀x∈(mixS h p).l,0<=x/\x<4294967296:=by
 have hw:∀n:Int,0<=IntKind.u32.wrap n/\IntKind.u32.wrap n<4294967296:=λ n=>by
  rw[IntKind.wrap_u32];omega
 intro x hx;simp only[mixS,Yh.l,List.mem_cons,List.not_mem_nil,or_false]at hx;rcases hx with rfl|rfl|rfl|rfl|rfl|rfl|rfl|rfl<;>exact hw _
theorem sums_bound(t:Str):∀k,∀x∈(sums t k).l,0<=x/\x<4294967296
 | 0=>by
  intro x hx;simp only[sums,init,Yh.l,List.mem_cons,List.not_mem_nil,or_false]at hx;omega
 | k+1=>word_bound _ _
theorem big4_eq{x:Int}(h0:0<=x)(h:x<4294967296):gO_ (IntKind.u64.wrap x) 4=some (bytesS [IntKind.u8.wrap (x.fdiv (2^24)),IntKind.u8.wrap (x.fdiv (2^16)),IntKind.u8.wrap (x.fdiv (2^8)),IntKind.u8.wrap x]):=by
 have hx:IntKind.u64.wrap x=x:=by rw[wu64];omega
 have hd:∀y:Int,0<=y->y<18446744073709551616->0<=y/256/\y/256<18446744073709551616:=λ y h1 h2=>by omega
 have a1:=hd x h0 (by omega);have a2:=hd _ a1.1 a1.2;have a3:=hd _ a2.1 a2.2;rw[hx,big4];simp only[q_eq h0 (show x<18446744073709551616 by omega),q_eq a1.1 a1.2,q_eq a2.1 a2.2,b_eq h0,b_eq a1.1,b_eq a2.1,b_eq a3.1];have e:[IntKind.u8.wrap (x.fdiv (2^24)),IntKind.u8.wrap (x.fdiv (2^16)),IntKind.u8.wrap (x.fdiv (2^8)),IntKind.u8.wrap x]=[x/16777216%256,x/65536%256,x/256%256,x%256]:=by
  simp only[wu8,fdiv_pos];rfl
 rw[e];have e2:x/256/256=x/65536:=by omega
 have e3:x/65536/256=x/16777216:=by omega
 simp only[e2,e3]
theorem ref_Sum_eq(s:Str)(hs:s.length<1099511627776):ng_ s=some (shaS s):=by
 have hm:=padS_mod s;have hl:(padS s).length<1099511627900:=by
  rw[sE_];have hz:cV_ s.length<64:=by unfold cV_;omega
  omega
 unfold ng_ shaS;refine aa_ (padded_eq s hs) ?_;generalize padS s=t at *
 refine aa_ (a:=(sums t (t.length/64)).l) ?_ (aa_ (a:=bytesS (outL (sums t (t.length/64)))) ?_ rfl)
 .refine bd_ (T:=λ k=>(((64*k:Nat):Int),(sums t k).l)) (t.length/64) (bQ_ (by omega)) (λ k hk => ?_) ?_
  .unfold my_;have e64:w64 (((64*k:Nat):Int)+64)=((64*(k+1):Nat):Int):=by rw[ap_ ⟨by omega,by omega⟩];omega
   refine ah_ (by simp;omega) (aa_ (a:=(t.drop (64*k)).take 64) ?_ (aa_ (block_eq (by rw[List.length_take,List.length_drop];omega) _) (by rw[e64];rfl)));show bz_ t ((64*k:Nat):Int) (w64 (((64*k:Nat):Int)+64))=_;rw[e64,cf_ (by omega) (by omega) (by omega),qTn,qTn,List.drop_take]
   congr 2
   omega
  .unfold my_;exact ac_ (by simp;omega) rfl
 .have hb:=sums_bound t (t.length/64);generalize sums t (t.length/64)=h at *
  refine bd_ (T:=λ k=>(bytesS ((h.l.take k).flatMap λ x=>[IntKind.u8.wrap (x.fdiv (2^24)),IntKind.u8.wrap (x.fdiv (2^16)),IntKind.u8.wrap (x.fdiv (2^8)),IntKind.u8.wrap x]),(k:Int),h.l)) 8 (by decide) (λ k hk => ?_) ?_
  .unfold mz_;have hl8:h.l.length=8:=rfl;have hk8:k<h.l.length:=by omega
   have hx:=hb h.l[k] (List.getElem_mem hk8);refine ah_ (by simp;omega) (aa_ (as_ hk8) (aa_ (big4_eq hx.1 hx.2) (aa_ (a:=bytesS ((h.l.take (k+1)).flatMap λ x=>[IntKind.u8.wrap (x.fdiv (2^24)),IntKind.u8.wrap (x.fdiv (2^16)),IntKind.u8.wrap (x.fdiv (2^8)),IntKind.u8.wrap x])) ?_ (by rw[au_ (by omega)]))));rw[List.take_add_one,List.getElem?_eq_getElem hk8,List.flatMap_append,iu_];have hle:(bytesS ((h.l.take k).flatMap λ x=>[IntKind.u8.wrap (x.fdiv (2^24)),IntKind.u8.wrap (x.fdiv (2^16)),IntKind.u8.wrap (x.fdiv (2^8)),IntKind.u8.wrap x])).length<=32:=by
    rw[jN_];have hf:∀l:List Int,(l.flatMap λ x=>[IntKind.u8.wrap (x.fdiv (2^24)),IntKind.u8.wrap (x.fdiv (2^16)),IntKind.u8.wrap (x.fdiv (2^8)),IntKind.u8.wrap x]).length=4*l.length:=λ l=>by
     induction l with
     | nil=>rfl
     | cons a l ih=>rw[List.flatMap_cons,qLa,ih];simp;omega
    rw[hf,List.length_take];omega
   rw[cy_ (by
    have h4:(bytesS [IntKind.u8.wrap (h.l[k].fdiv (2^24)),IntKind.u8.wrap (h.l[k].fdiv (2^16)),IntKind.u8.wrap (h.l[k].fdiv (2^8)),IntKind.u8.wrap h.l[k]]).length=4:=rfl;exact Nat.le_trans (Nat.add_le_add hle (Nat.le_of_eq h4)) (by decide))]
   rfl
  .unfold mz_;refine ac_ (by simp) ?_;rfl
def cr_(k:Int)(d:Str):Str:=shaS (bytesS [IntKind.u8.wrap k]++d)
theorem l6_(k:Int)(d:Str):(cr_ k d).length=32:=shaS_len _
theorem Score_eq(k:Int){d:Str}(hd:d.length<=1073741824):lW_ k d=some (cr_ k d):=by
 unfold lW_;have h1:(bytesS [IntKind.u8.wrap k]).length=1:=rfl;exact aa_ (cy_ (by rw[h1];omega)) (aa_ (Sum_eq _ (by rw[qLa,h1];omega)) rfl)
theorem ref_Score_eq{k:Int}(h0:0<=k)(h4:k<256){d:Str}(hd:d.length<=1073741824):kG_ k d=some (cr_ k d):=by
 unfold kG_;have e:(w64 (k.tmod 256+256)).tmod 256=k:=by
  rw[Int.tmod_eq_emod_of_nonneg h0,ap_ ⟨by omega,by omega⟩,Int.tmod_eq_emod_of_nonneg (by omega)];omega
 rw[e];have h1:(bytesS [IntKind.u8.wrap k]).length=1:=rfl;exact aa_ (cy_ (by rw[h1];omega)) (aa_ (ref_Sum_eq _ (by rw[qLa,h1];omega)) rfl)
def mk(k:Int)(d:Str):Yk:=Yk.mk (cr_ k d) k d
theorem made_eq(k:Int){d:Str}(hd:d.length<=1073741824):hj_ k d=some (mk k d):=by
 unfold hj_;exact aa_ (Score_eq k hd) rfl
def ed_(sc:Str)(b:Yk):Bool:=b.Yq==sc
theorem at_loop{l:List Yk}(sc:Str)(hl:l.length<=9223372036854775807):mx_ l sc=some (at_ (ed_ sc) l):=by
 unfold mx_;have h:=aU_ (body:=kE_ l sc) l (λ i x=>if ed_ sc x then some ((i:Nat):Int)else none) (Nat.lt_of_le_of_lt hl (by decide)) (λ i hi => ?_) ?_
 .rw[bl_ h (λ r=>rfl) (x := -1) rfl,i3_]
 .unfold kE_;refine ah_ (br_ hi) (aa_ (as_ hi) ?_);unfold ed_;cases hb:l[i].Yq==sc with
  | true=>rfl
  | false =>
   rw[au_ (by omega)];rfl
 .unfold kE_;exact ac_ (bA_ _) rfl
theorem index_eq{s:Xj}(sc:Str)(hl:s.Xd.length<=9223372036854775807):gf_ s sc=some (at_ (ed_ sc) s.Xd):=by
 unfold gf_;refine aa_ (a:=at_ (ed_ sc) s.Xd) ?_ rfl;unfold cE_;generalize s.Xd=l at *
 have h:=aU_ (body:=bJ_ l (fun(u1:Yk)=>Option.bind (lk_ u1 sc) fun(v1:Bool)=>some v1)) l (λ i x=>if ed_ sc x then some ((i:Nat):Int)else none) (Nat.lt_of_le_of_lt hl (by decide)) (λ i hi => ?_) ?_
 .rw[bl_ h (λ r=>rfl) (x := -1) rfl,i3_]
 .unfold bJ_;refine ah_ (br_ hi) (aa_ (as_ hi) (aa_ (a:=ed_ sc l[i]) rfl ?_));cases hb:ed_ sc l[i]with
  | true=>rfl
  | false =>
   rw[au_ (by omega)];rfl
 .unfold bJ_;exact ac_ (bA_ _) rfl
def cW_(s:Xj)(sc:Str):Option Yk:=s.Xd.find? (ed_ sc)
theorem l7_{s:Xj}{sc:Str}{b:Yk}(h:cW_ s sc=some b):b∈s.Xd/\b.Yq=sc:=by
 unfold cW_ at h;refine⟨List.mem_of_find?_eq_some h,?_⟩;have:=List.find?_some h;unfold ed_ at this;exact eq_of_beq this
theorem at_ge{l:List Yk}(sc:Str):decide (at_ (ed_ sc) l>=0)=(l.find? (ed_ sc)).isSome:=by
 rcases kg_ (ed_ sc) l with⟨h1,h2⟩|⟨i,x,h1,h2,_⟩
 .rw[h1,h2];rfl
 .rw[h1,h2];simp
def aN_(s:Xj)(k:Int)(d:Str):Xj×Str×Int :=
 if d.length>1024 then(s,[],4)else match cW_ s (cr_ k d)with
  | some b=>if b=mk k d then(s,cr_ k d,0)else(s,[],34)
  | none=>if(s.Xd.length:Int)>=s.Ya then(s,[],22)else(Xj.mk s.Ya (s.Xd++[mk k d]),cr_ k d,0)
theorem sF_{l:List Yk}(hl:l.length<=1073741824):aW_ l=some l:=gV_ (by omega) (by omega)
theorem Put_eq{s:Xj}{k:Int}{d:Str}(hk:1<=k/\k<=4)(hs:s.Xd.length<=1073741824)(hd:d.length<=1073741824):gS_ s k d=some (aN_ s k d):=by
 unfold gS_ aN_;refine aa_ (a:=s) (aa_ (sF_ hs) rfl) (aa_ (a:=true) (by unfold kK_;simp;omega) (ac_ rfl ?_));by_cases h1:d.length>1024
 .rw[if_pos h1];exact ah_ (by simp;omega) rfl
 .rw [if_neg h1];refine ac_ (by simp;omega) (aa_ (made_eq k hd) (aa_ (index_eq (mk k d).Yq (by omega)) ?_));rw[at_ge];show(bif(cW_ s (cr_ k d)).isSome then _ else _)=_;cases hf:cW_ s (cr_ k d)with
  | some b =>
   refine ah_ rfl (aa_ (a:=b) ?_ ?_)
   .have:=mN_ (ed_ (mk k d).Yq) s.Xd (by show(cW_ s (cr_ k d)).isNone=false;rw[hf];rfl);rw[this];exact hf
   .simp only;by_cases hb:b=mk k d
    .rw[if_pos hb];exact ac_ (by simp[hb]) rfl
    .rw[if_neg hb];exact ah_ (by simp[hb]) rfl
  | none =>
   refine ac_ rfl ?_;simp only;by_cases hc:(s.Xd.length:Int)>=s.Ya
   .rw[if_pos hc];exact ah_ (by simpa using hc) rfl
   .rw[if_neg hc];exact ac_ (by simpa using hc) (aa_ (cx_ (by simp;omega) (by simp;omega)) rfl)
def getB(s:Xj)(sc:Str)(k:Int):Str×Int:=match cW_ s sc with|none=>([],35)|some b=>if b.Yu≠k then([],1)else if cr_ k b.Xl=sc then(b.Xl,0)else([],34)
theorem Get_eq{s:Xj}{k:Int}{sc:Str}(hs:s.Xd.length<=1073741824)(hd:∀b∈s.Xd,b.Xl.length<=1073741824):nk_ s sc k=some (getB s sc k):=by
 unfold nk_ getB;refine aa_ (index_eq sc (by omega)) ?_;rw[ju_];show(bif(cW_ s sc).isNone then _ else _)=_;cases hf:cW_ s sc with
 | none=>exact ah_ rfl rfl
 | some b =>
  obtain⟨h1,h2⟩:=l7_ hf;have hg:al_ s.Xd (at_ (ed_ sc) s.Xd)=some b:=by
   rw[mN_ (ed_ sc) s.Xd (by show(cW_ s sc).isNone=false;rw[hf];rfl)];exact hf
  refine ac_ rfl (aa_ hg ?_);simp only;by_cases hk:b.Yu≠k
  .rw[if_pos hk];exact ah_ (by simpa using hk) rfl
  .rw[if_neg hk];refine ac_ (by simpa using hk) (aa_ hg (aa_ hg (aa_ (made_eq k (hd b h1)) ?_)));have hk':b.Yu=k:=Classical.not_not.1 hk;by_cases hc:cr_ k b.Xl=sc
   .rw[if_pos hc];refine ac_ ?_ (aa_ hg rfl);have:b=mk k b.Xl:=by
     cases b
     simp only[mk,Yk.mk.injEq]at *
     exact⟨h2.trans hc.symm,hk',trivial⟩
    simp[←this]
   .rw[if_neg hc];refine ah_ ?_ rfl;have:b≠mk k b.Xl:=λ e=>hc (by
     have:=congrArg Yk.Yq e;rw[h2]at this;exact this.symm)
    simp[this]
theorem ref_Get_eq{s:Xj}{k:Int}{sc:Str}(hk:0<=k/\k<256)(hs:s.Xd.length<=1073741824)(hd:∀b∈s.Xd,b.Xl.length<=1073741824):nh_ s sc k=some (getB s sc k):=by
 unfold nh_ getB;refine aa_ (at_loop sc (by omega)) ?_;rw[ju_];show(bif(cW_ s sc).isNone then _ else _)=_;cases hf:cW_ s sc with
 | none=>exact ah_ rfl rfl
 | some b =>
  obtain⟨h1,h2⟩:=l7_ hf;have hg:al_ s.Xd (at_ (ed_ sc) s.Xd)=some b:=by
   rw[mN_ (ed_ sc) s.Xd (by show(cW_ s sc).isNone=false;rw[hf];rfl)];exact hf
  refine ac_ rfl (aa_ hg ?_);simp only;by_cases hk':b.Yu≠k
  .rw[if_pos hk'];exact ah_ (by simpa using hk') rfl
  .rw[if_neg hk'];refine ac_ (by simpa using hk') (aa_ (ref_Score_eq hk.1 hk.2 (hd b h1)) ?_);by_cases hc:cr_ k b.Xl=sc
   .rw[if_pos hc];exact ac_ (by simp[hc]) rfl
   .rw[if_neg hc];exact ah_ (by simp[hc]) rfl
def BlOK(b:Yk):Prop:=1<=b.Yu/\b.Yu<=4/\b.Xl.length<=1024/\b.Yq.length=32
structure StOK(s:Xj):Prop where
 cap1:1<=s.Ya
 cap2:s.Ya<=4096
 len:(s.Xd.length:Int)<=s.Ya
 all:∀b∈s.Xd,BlOK b
 nd:(s.Xd.map (·.Yq)).Nodup
theorem StOK.size{s:Xj}(h:StOK s):s.Xd.length<=4096:=by
 have:=h.len;have:=h.cap2;omega
def badB(l:List Yk)(i:Nat)(b:Yk):Bool:=((!(decide (b.Yu>=1)&&decide (b.Yu<=4)))||decide ((b.Xl.length:Int)>1024))||((b.Yq.length:Int) != 32)||decide (at_ (ed_ b.Yq) (l.take i)>=0)
theorem Right_scan{s:Xj}(hl:s.Xd.length<=9223372036854775807):h0_ s=some (!(decide (s.Ya<1)||decide (s.Ya>4096)||decide ((s.Xd.length:Int)>s.Ya))&&((aL_ (λ i b=>if badB s.Xd i b then some false else none) 0 s.Xd).getD true)):=by
 unfold h0_;cases hc:(decide (s.Ya<1)||decide (s.Ya>4096)||decide ((s.Xd.length:Int)>s.Ya))with
 | true=>rfl
 | false =>
  refine ac_ rfl ?_;have h:=aU_ (body:=hc_ s) s.Xd (λ i b=>if badB s.Xd i b then some false else none) (Nat.lt_of_le_of_lt hl (by decide)) (λ i hi => ?_) ?_
  .rw[bl_ h (λ r=>rfl) (x:=true) rfl];simp
  .unfold hc_;refine ah_ (br_ hi) (aa_ (as_ hi) (aa_ (a:=decide (s.Xd[i].Yu>=1)&&decide (s.Xd[i].Yu<=4)) rfl ?_));refine aa_ (a:=badB s.Xd i s.Xd[i]) ?_ ?_
   .unfold badB;cases hc2:((!(decide (s.Xd[i].Yu>=1)&&decide (s.Xd[i].Yu<=4)))||decide ((s.Xd[i].Xl.length:Int)>1024))||((s.Xd[i].Yq.length:Int) != 32)with
    | true=>rfl
    | false =>
     refine ac_ rfl (aa_ (a:=s.Xd.take i) ?_ (aa_ (at_loop _ (by rw[List.length_take];omega)) rfl));rw[cf_ (by omega) (by omega) (by omega)];rfl
   .cases hb:badB s.Xd i s.Xd[i]with
    | true=>rfl
    | false =>
     rw[au_ (by omega)];rfl
  .unfold hc_;exact ac_ (bA_ _) rfl
theorem nodup_iff{α:Type}{l:List α}:l.Nodup↔∀i x,l[i]? = some x->x∉l.take i:=by
  constructor
  .intro h i x hx hm;obtain⟨j,hj,e⟩:=List.getElem_of_mem hm;rw[List.length_take]at hj;rw[List.getElem_take]at e;have hi:i<l.length:=by
    rcases Nat.lt_or_ge i l.length with h'|h'
    .exact h'
    .rw[List.getElem?_eq_none h']at hx;cases hx
   rw[List.getElem?_eq_getElem hi]at hx;have:=(List.nodup_iff_pairwise_ne.1 h);have h2:=List.pairwise_iff_getElem.1 this j i (by omega) hi (by omega);exact h2 (e.trans (qSj hx).symm)
  .intro h;refine List.nodup_iff_pairwise_ne.2 (List.pairwise_iff_getElem.2 λ i j hi hj hij e => ?_);refine h j l[j] (List.getElem?_eq_getElem hj) ?_;rw[←e];have:i<(l.take j).length:=by rw[List.length_take];omega
   have h3:=List.getElem_mem this
   rwa [List.getElem_take]at h3
theorem Right_iff{s:Xj}(hl:s.Xd.length<=9223372036854775807):∃b,h0_ s=some b/\(b=true↔StOK s):=by
 refine⟨_,Right_scan hl,?_⟩;have hs:(aL_ (λ i b=>if badB s.Xd i b then some false else none) 0 s.Xd).getD true=true↔∀i x,s.Xd[i]? = some x->badB s.Xd i x=false:=by
  cases h:aL_ (λ i b=>if badB s.Xd i b then some false else none) 0 s.Xd with
  | none =>
   refine⟨λ _ i x hx => ?_,λ _=>rfl⟩;have:=scan_none.1 h i x hx;rw[Nat.zero_add]at this;cases hb:badB s.Xd i x with
   | false=>rfl
   | true=>rw[hb]at this;simp at this
  | some r =>
   obtain⟨i,x,h1,h2,_⟩:=qu_ h;rw[Nat.zero_add]at h2;refine⟨λ e => ?_,λ h' => ?_⟩
   .split at h2
    .obtain rfl:=qSj h2;cases e
    .cases h2
   .rw[h' i x h1]at h2;simp at h2
 rw[qAn,hs];have hbad:∀i x,badB s.Xd i x=false↔BlOK x/\x.Yq∉(s.Xd.take i).map (·.Yq):=λ i x=>by
  unfold badB BlOK;rw[at_ge];have hf:((s.Xd.take i).find? (ed_ x.Yq)).isSome=false↔x.Yq∉(s.Xd.take i).map (·.Yq):=by
   rw[←Bool.not_eq_true,List.find?_isSome];simp only[ed_,List.mem_map,beq_iff_eq]
  rw[Bool.or_eq_false_iff,hf];refine and_congr ?_ Iff.rfl;simp only[Bool.or_eq_false_iff,Bool.not_eq_false',qAn,qDe,qDf,bne_eq_false_iff_eq];omega
 simp only[hbad];constructor
 .intro⟨h1,h2⟩;simp only[Bool.not_eq_true',Bool.or_eq_false_iff,qDf]at h1;refine⟨by omega,by omega,by omega,λ b hb => ?_,nodup_iff.2 λ i x hx => ?_⟩
  .obtain⟨i,hi,e⟩:=List.getElem_of_mem hb;exact(h2 i b (by rw[List.getElem?_eq_getElem hi,e])).1
  .rw[List.getElem?_map]at hx;cases hy:s.Xd[i]? with
   | none=>rw[hy]at hx;cases hx
   | some y =>
    rw[hy]at hx;obtain rfl:=qSj hx;rw[←List.map_take];exact(h2 i y hy).2
 .intro h;refine⟨?_,λ i x hx=>⟨h.all x (List.mem_of_getElem? hx),?_⟩⟩
  .have:=h.cap1;have:=h.cap2;have:=h.len;simp only[Bool.not_eq_true',Bool.or_eq_false_iff,qDf];omega
  .have:=nodup_iff.1 h.nd i x.Yq (by rw[List.getElem?_map,hx];rfl)
   rwa [←List.map_take]at this
theorem findB_app{s:Xj}{sc:Str}(l:List Yk)(b:Yk)(h:cW_ s sc=some b):cW_ (Xj.mk s.Ya (s.Xd++l)) sc=some b:=by
 unfold cW_ at *
 rw[List.find?_append,h];rfl
def StLe(s t:Xj):Prop:=t.Ya=s.Ya/\∃l,t.Xd=s.Xd++l
theorem StLe.refl(s:Xj):StLe s s:=⟨rfl,[],by simp⟩
theorem StLe.trans{a b c:Xj}(h:StLe a b)(k:StLe b c):StLe a c:=by
 obtain⟨h1,l,h2⟩:=h;obtain⟨k1,m,k2⟩:=k;exact⟨k1.trans h1,l++m,by rw[k2,h2,List.append_assoc]⟩
theorem StLe.find{s t:Xj}(h:StLe s t){sc:Str}{b:Yk}(hf:cW_ s sc=some b):cW_ t sc=some b:=by
 obtain⟨h1,l,h2⟩:=h;have:t=Xj.mk s.Ya (s.Xd++l):=by cases t;simp only at h1 h2;rw[h1,h2]
 rw[this];exact findB_app l b hf
theorem putB_ok{s:Xj}{k:Int}{d:Str}(hs:StOK s)(hk:1<=k/\k<=4):StOK (aN_ s k d).1/\StLe s (aN_ s k d).1/\((aN_ s k d).2.2=0->(aN_ s k d).2.1=cr_ k d/\d.length<=1024/\cW_ (aN_ s k d).1 (cr_ k d)=some (mk k d)):=by
 unfold aN_;split
 .exact⟨hs,StLe.refl s,λ e=>by cases e⟩
 .rename_i hd;split
  .rename_i b hb;split
   .rename_i e;exact⟨hs,StLe.refl s,λ _=>⟨rfl,by omega,by rw[hb,e]⟩⟩
   .exact⟨hs,StLe.refl s,λ e=>by cases e⟩
  .rename_i hb;split
   .exact⟨hs,StLe.refl s,λ e=>by cases e⟩
   .rename_i hc;refine⟨⟨hs.cap1,hs.cap2,by simp;omega,λ b hb' => ?_,?_⟩,⟨rfl,_,rfl⟩,λ _=>⟨rfl,by omega,?_⟩⟩
    .rcases List.mem_append.1 hb' with h|h
     .exact hs.all b h
     .rw[List.mem_singleton]at h;subst h;exact⟨hk.1,hk.2,by show d.length<=1024;omega,l6_ k d⟩
    .simp only[List.map_append,List.map_cons,List.map_nil];refine List.nodup_append.2 ⟨hs.nd,by simp,λ a ha b hb' e => ?_⟩;rw[List.mem_singleton]at hb';obtain⟨c,hc1,hc2⟩:=List.mem_map.1 ha;have:=List.find?_eq_none.1 hb c hc1
     apply this;unfold ed_;rw[hc2,e,hb'];exact beq_self_eq_true _
    .unfold cW_;rw[List.find?_append];have hb':s.Xd.find? (ed_ (cr_ k d))=none:=hb;rw[hb'];show List.find? _ [mk k d]=_;simp[ed_,mk]
def runE{α σ β:Type}(f:σ->α->σ ⊕ β)(fin:σ->β):σ->List α->β
 | s,[]=>fin s
 | s,x::l=>match f s x with
  | .inl s'=>runE f fin s' l
  | .inr b=>b
def stepE{σ τ β:Type}(mk:σ->τ):σ ⊕ β->Step τ β | .inl s => .next (mk s) | .inr b => .done b
theorem loop_runE{α σ τ β:Type}{body:τ->Option (Step τ β)}(xs:List α)(f:σ->α->σ ⊕ β)(mk:Nat->σ->τ)(Inv:Nat->σ->Prop)(fin:σ->β)(s0:σ)(hn:xs.length<BIG)(h0:Inv 0 s0)
  (hb:∀i s (h:i<xs.length),Inv i s->body (mk i s)=some (stepE (mk (i+1)) (f s xs[i]))/\∀s',f s xs[i] = .inl s'->Inv (i+1) s')
  (he:∀s,Inv xs.length s->body (mk xs.length s)=some (.done (fin s))):ak_ body BIG (mk 0 s0)=some (runE f fin s0 xs):=by
 refine fe_ (J:=λ i t b=>∃s,Inv i s/\t=mk i s/\b=runE f fin s (xs.drop i)) xs.length hn (λ t b hJ => ?_) (λ i t b hi hJ => ?_) ⟨s0,h0,rfl,by simp⟩
 .obtain⟨s,hI,rfl,rfl⟩:=hJ;rw[he s hI];simp[runE]
 .obtain⟨s,hI,rfl,rfl⟩:=hJ;obtain⟨h1,h2⟩:=hb i s hi hI;rw[List.drop_eq_getElem_cons hi];simp only[runE];cases hf:f s xs[i]with
  | inl s' =>
   rw[hf]at h1;exact .inr ⟨_,h1,s',h2 s' hf,rfl,rfl⟩
  | inr b =>
   rw[hf]at h1;exact .inl h1
def nP(n:Nat):Nat:=max 1 ((n+1023)/1024)
def piece(s:Str)(j:Nat):Str:=(s.drop (1024*j)).take 1024
def pieces(s:Str):List Str:=(List.range (nP s.length)).map (piece s)
theorem dH_(s:Str):(pieces s).length=nP s.length:=by simp[pieces]
theorem ua_(s:Str){i:Nat}(h:i<(pieces s).length):(pieces s)[i]=piece s i:=by simp[pieces]
theorem piece_len(s:Str)(j:Nat):(piece s j).length=min 1024 (s.length-1024*j):=by simp[piece]
theorem chunks_eq{s:Str}(hs:s.length<=1099511627776):ds_ s 1024=some (pieces s):=by
 unfold ds_;have hm:1<=nP s.length:=Nat.le_max_left _ _;obtain⟨m,hm⟩:∃m,nP s.length=m+1:=⟨nP s.length-1,by omega⟩;have hm':max 1 ((s.length+1023)/1024)=m+1:=hm;have hlast:piece s m=s.drop (1024*m):=by
  unfold piece;rw[List.take_of_length_le];rw[List.length_drop];omega
 refine aa_ (a:=(s.drop (1024*m),(List.range m).map (piece s))) ?_ (aa_ (a:=pieces s) ?_ rfl)
 .have h0:(s,([]:List Str))=(s.drop (1024*0),(List.range 0).map (piece s)):=by simp
  rw[h0];refine bd_ (T:=λ i=>(s.drop (1024*i),(List.range i).map (piece s))) m (bQ_ (by omega)) (λ i hi => ?_) ?_
  .unfold hI_;have hd:(s.drop (1024*i)).length=s.length-1024*i:=List.length_drop;have hi':1024*i+1024<s.length:=by omega
   refine ah_ (by show decide (((s.drop (1024*i)).length:Int)>1024)=true;rw[hd];simp;omega) (aa_ (a:=piece s i) ?_ (aa_ (a:=(List.range (i+1)).map (piece s)) ?_ (aa_ (a:=s.drop (1024*(i+1))) ?_ rfl)))
   .show bz_ (s.drop (1024*i)) 0 1024=_;rw[cf_ (by omega) (by omega) (by omega)];rfl
   .show room 16 ((List.range i).map (piece s)) [piece s i]=_;rw[cx_ (by simp;omega) (by simp;omega),List.range_succ,List.map_append];rfl
   .show bz_ (s.drop (1024*i)) 1024 ((s.drop (1024*i)).length:Int)=_;rw[cf_ (by omega) (by omega) (by omega),qTn,List.take_length];show some ((s.drop (1024*i)).drop 1024)=_;rw[List.drop_drop];rfl
  .unfold hI_;refine ac_ ?_ rfl;show decide (((s.drop (1024*m)).length:Int)>1024)=false;rw[List.length_drop];simp;omega
 .show room 16 ((List.range m).map (piece s)) [s.drop (1024*m)]=_;rw[cx_ (by simp;omega) (by simp;omega)];unfold pieces;rw[hm,List.range_succ,List.map_append,←hlast];rfl
def aD_(k:Int):Xj->List Str->Xj×List Str×Int|s,[]=>(s,[],0)|s,p::ps=>if(aN_ s k p).2.2=0 then((aD_ k (aN_ s k p).1 ps).1,(aN_ s k p).2.1::(aD_ k (aN_ s k p).1 ps).2.1,(aD_ k (aN_ s k p).1 ps).2.2)else(s,[],(aN_ s k p).2.2)
theorem hz_{k:Int}(hk:1<=k/\k<=4):∀{ps:List Str} {s:Xj},StOK s->StOK (aD_ k s ps).1/\StLe s (aD_ k s ps).1/\((aD_ k s ps).2.2=0->(aD_ k s ps).2.1=ps.map (cr_ k)/\∀p∈ps,p.length<=1024/\cW_ (aD_ k s ps).1 (cr_ k p)=some (mk k p))
 | [],s,hs=>⟨hs,StLe.refl s,λ _=>⟨rfl,λ _ h=>nomatch h⟩⟩
 | p::ps,s,hs=>by
  obtain⟨h1,h2,h3⟩:=putB_ok (d:=p) hs hk;obtain⟨i1,i2,i3⟩:=hz_ hk (ps:=ps) h1;unfold aD_;split
  .rename_i he;obtain⟨h4,h5,h6⟩:=h3 he;refine⟨i1,h2.trans i2,λ e => ?_⟩;obtain⟨i4,i5⟩:=i3 e;refine⟨by rw[List.map_cons,h4,i4],λ q hq => ?_⟩;rcases List.mem_cons.1 hq with rfl|hq
   .exact⟨h5,i2.find h6⟩
   .exact i5 q hq
  .rename_i he;exact⟨hs,StLe.refl s,λ e=>absurd e he⟩
theorem kt_{k:Int}(hk:1<=k/\k<=4){ps:List Str}{s:Xj}(hs:StOK s)(he:(aD_ k s ps).2.2=0):(aD_ k s ps).2.1.length=ps.length/\∀x∈(aD_ k s ps).2.1,x.length=32:=by
 rw[((hz_ hk hs).2.2 he).1];refine⟨List.length_map _,λ x hx => ?_⟩;obtain⟨p,_,rfl⟩:=List.mem_map.1 hx;exact l6_ k p
abbrev kU_:Xp:=Xp.mk [] 0 0
def fP(k:Int)(t:Str×Xj×Xp)(p:Str):(Str×Xj×Xp) ⊕ Out (Str×Xj×Xp×List Str) (Xj×Xp×Int):=if(aN_ t.2.1 k p).2.2=0 then .inl (t.1++(aN_ t.2.1 k p).2.1,(aN_ t.2.1 k p).1,Xp.mk (aN_ t.2.1 k p).2.1 t.2.2.Xi t.2.2.Yi)else .inr (.ret (t.2.1,kU_,(aN_ t.2.1 k p).2.2))
theorem fP_run(k:Int)(ps:List Str):∀(l:List Str) (acc:Str) (s:Xj) (r:Xp),runE (fP k) (λ t => .fall (t.1,t.2.1,t.2.2,ps)) (acc,s,r) l=(if(aD_ k s l).2.2=0 then .fall (acc++(aD_ k s l).2.1.flatten,(aD_ k s l).1,Xp.mk ((aD_ k s l).2.1.getLastD r.Yq) r.Xi r.Yi,ps)else .ret ((λ o=>o) (runE (fP k) (λ t => .fall (t.1,t.2.1,t.2.2,ps)) (acc,s,r) l |> λ o=>match o with | .ret q=>q.1 | .fall q=>q.2.1),kU_,(aD_ k s l).2.2))
 | [],acc,s,r=>by simp[runE,aD_]
 | p::l,acc,s,r=>by
  by_cases he:(aN_ s k p).2.2=0
  .have h1:fP k (acc,s,r) p = .inl (acc++(aN_ s k p).2.1,(aN_ s k p).1,Xp.mk (aN_ s k p).2.1 r.Xi r.Yi):=if_pos he;have h2:aD_ k s (p::l)=((aD_ k (aN_ s k p).1 l).1,(aN_ s k p).2.1::(aD_ k (aN_ s k p).1 l).2.1,(aD_ k (aN_ s k p).1 l).2.2):=if_pos he;simp only[runE,h1,h2];have ih:=fP_run k ps l (acc++(aN_ s k p).2.1) (aN_ s k p).1 (Xp.mk (aN_ s k p).2.1 r.Xi r.Yi);by_cases hz:(aD_ k (aN_ s k p).1 l).2.2=0
   .rw[if_pos hz]at ih ⊢;rw[ih];simp only[List.flatten_cons,List.append_assoc,List.getLastD_cons]
   .rw[if_neg hz]at ih ⊢;exact ih
  .have h1:fP k (acc,s,r) p = .inr (.ret (s,kU_,(aN_ s k p).2.2)):=if_neg he;have h2:aD_ k s (p::l)=(s,[],(aN_ s k p).2.2):=if_neg he;simp only[runE,h1,h2,if_neg he]
theorem passP{k:Int}(hk:1<=k/\k<=4){s:Xj}(hs:StOK s)(r:Xp){ps:List Str}(hps:∀p∈ps,p.length<=1024)(hl:ps.length<=1073741824) :
  ∃o,ak_ (dt_ (k,s,r,ps)) BIG ([],0,s.Ya,s.Xd,r,ps)=some o/\(if(aD_ k s ps).2.2=0 then o = .fall ((aD_ k s ps).2.1.flatten,(aD_ k s ps).1,Xp.mk ((aD_ k s ps).2.1.getLastD r.Yq) r.Xi r.Yi,ps)else ∃s',o = .ret (s',kU_,(aD_ k s ps).2.2)):=by
 refine⟨_,loop_runE (body:=dt_ (k,s,r,ps)) ps (fP k) (λ i t=>(t.1,(i:Int),t.2.1.Ya,t.2.1.Xd,t.2.2,ps)) (λ i t=>StOK t.2.1/\t.1.length<=32*i) (λ t => .fall (t.1,t.2.1,t.2.2,ps)) ([],s,r) (bQ_ (by omega)) ⟨hs,by simp⟩ (λ i t hi hI => ?_) (λ t hI => ?_),?_⟩
 .obtain⟨acc,u,q⟩:=t;obtain⟨h1,h2⟩:=hI;have hp:=hps ps[i] (List.getElem_mem hi);have hput:=Put_eq (s:=u) (d:=ps[i]) hk (by have:=(show StOK u from h1).size;omega) (by omega);obtain⟨p1,p2,p3⟩:=putB_ok (d:=ps[i]) h1 hk;constructor
  .unfold dt_;refine ah_ (by show decide ((i:Int)<(ps.length:Int))=true;exact br_ hi) (aa_ (as_ hi) (aa_ hput ?_));unfold fP;simp only;by_cases he:(aN_ u k ps[i]).2.2=0
   .rw[if_pos he];refine ac_ (by simp[he]) (aa_ (cy_ ?_) ?_)
    .rw[(p3 he).1,l6_];simp only at h2 ⊢;omega
    .rw[au_ (by omega)];rfl
   .rw[if_neg he];exact ah_ (by simp[he]) rfl
  .intro t' ht;unfold fP at ht;simp only at ht;split at ht
   .rename_i he;injection ht with ht;subst ht;refine⟨p1,?_⟩;simp only[qLa,(p3 he).1,l6_];simp only at h2;omega
   .cases ht
 .obtain⟨acc,u,q⟩:=t;unfold dt_;exact ac_ (by show decide ((ps.length:Int)<(ps.length:Int))=false;exact bA_ _) rfl
 .rw[fP_run];split
  .simp
  .exact⟨_,rfl⟩
def all32(l:List Str):Prop:=∀x∈l,x.length=32
theorem l8_:∀{l:List Str},all32 l->l.flatten.length=32*l.length
 | [],_=>rfl
 | x::l,h=>by
  rw[List.flatten_cons,qLa,h x List.mem_cons_self,l8_ (l:=l) λ y hy=>h y (List.mem_cons_of_mem _ hy),qLc];omega
theorem rT_:∀{l:List Str} (n:Nat),all32 l->l.flatten.drop (32*n)=(l.drop n).flatten
 | [],n,_=>by simp
 | x::l,0,_=>by simp
 | x::l,n+1,h=>by
  have hx:=h x List.mem_cons_self;rw[List.flatten_cons,List.drop_append,List.drop_of_length_le (show x.length<=32*(n+1)by omega),List.nil_append,hx,show 32*(n+1)-32=32*n by omega,rT_ n λ y hy=>h y (List.mem_cons_of_mem _ hy)];rfl
theorem rU_:∀{l:List Str} (n:Nat),all32 l->l.flatten.take (32*n)=(l.take n).flatten
 | [],n,_=>by simp
 | x::l,0,_=>by simp
 | x::l,n+1,h=>by
  have hx:=h x List.mem_cons_self;rw[List.flatten_cons,List.take_append,List.take_of_length_le (show x.length<=32*(n+1)by omega),hx,show 32*(n+1)-32=32*n by omega,rU_ n λ y hy=>h y (List.mem_cons_of_mem _ hy)];rfl
theorem piece32{l:List Str}(h:all32 l)(i:Nat):piece l.flatten i=((l.drop (32*i)).take 32).flatten:=by
 unfold piece;rw[show 1024*i=32*(32*i)by omega,rT_ _ h,show 1024=32*32 by rfl,rU_ _ λ y hy=>h y (List.mem_of_mem_drop hy)]
structure Up where (store:Xj) (score:Str) (levels err:Int)
def upF:Nat->Int->Xj->List Str->Up | 0,_,s,_=>⟨s,[],0,2⟩|f+1,k,s,ps=>if(aD_ k s ps).2.2=0 then(if ps.length=1 then⟨(aD_ k s ps).1,(aD_ k s ps).2.1.getLastD [],0,0⟩else⟨(upF f 2 (aD_ k s ps).1 (pieces (aD_ k s ps).2.1.flatten)).store,(upF f 2 (aD_ k s ps).1 (pieces (aD_ k s ps).2.1.flatten)).score,(upF f 2 (aD_ k s ps).1 (pieces (aD_ k s ps).2.1.flatten)).levels+1,(upF f 2 (aD_ k s ps).1 (pieces (aD_ k s ps).2.1.flatten)).err⟩)else⟨s,[],0,(aD_ k s ps).2.2⟩
theorem hA_{σ β:Type}{body:σ->Option (Step σ β)}{b:β}:∀{n m:Nat} {s:σ},ak_ body n s=some b->n<=m->ak_ body m s=some b
 | 0,_,_,h,_=>by cases h
 | n+1,0,_,_,hm=>by omega
 | n+1,m+1,s,h,hm=>by
  simp only[ak_]at h ⊢;cases hb:body s with
  | none=>rw[hb]at h;cases h
  | some x =>
   rw[hb]at h;cases x with
   | done b'=>exact h
   | next s'=>exact hA_ (n:=n) (m:=m) (s:=s') h (by omega)
theorem nP_up{n f:Nat}(h:n<=32^(f+1)):nP (32*n)<=32^f:=by
 have h1:1<=32^f:=Nat.pos_of_ne_zero (by simp);rw[Nat.pow_succ]at h;unfold nP;omega
theorem upP:∀(f:Nat) {k:Int} {s:Xj} (r:Xp) {ps:List Str},1<=k/\k<=4->StOK s->(∀p∈ps,p.length<=1024)->1<=ps.length->ps.length<=32^f->ps.length<=1073741824 ->
  ∃q,ak_ eq_ (f+1) (k,s,r,ps)=some (.ret q)/\if(upF (f+1) k s ps).err=0 then q=((upF (f+1) k s ps).store,Xp.mk (upF (f+1) k s ps).score r.Xi r.Yi,0)else ∃s',q=(s',kU_,(upF (f+1) k s ps).err)
 | f, k,s,r,ps,hk,hs,hps,h1,hf,hn=>by
  obtain⟨o,ho,hc⟩:=passP hk hs r hps hn;by_cases he:(aD_ k s ps).2.2=0
  .rw [if_pos he]at hc;subst hc;obtain⟨l1,l2⟩:=kt_ hk hs he;obtain⟨ok1,_,_⟩:=hz_ hk (ps:=ps) hs;by_cases h1':ps.length=1
   .have hu:upF (f+1) k s ps=⟨(aD_ k s ps).1,(aD_ k s ps).2.1.getLastD [],0,0⟩:=by unfold upF;rw[if_pos he,if_pos h1']
    rw[hu];refine⟨_,aZ_ (body:=eq_) (b := .ret ((aD_ k s ps).1,Xp.mk ((aD_ k s ps).2.1.getLastD r.Yq) r.Xi r.Yi,0)) (aa_ ho (ah_ (by simp[h1']) rfl)),?_⟩
    .rw[if_pos rfl];obtain⟨x,hx⟩:=List.length_eq_one_iff.1 (l1.trans h1');rw[hx];rfl
   .obtain⟨f,rfl⟩:∃f',f=f'+1:=⟨f-1,by
     rcases f with _|f
     .simp at hf;omega
     .rfl⟩
    have hfl:(aD_ k s ps).2.1.flatten.length=32*ps.length:=by rw[l8_ l2,l1]
    have hp2:∀p∈pieces (aD_ k s ps).2.1.flatten,p.length<=1024:=λ p hp=>by
     obtain⟨j,_,rfl⟩:=List.mem_map.1 hp;rw[piece_len];omega
    have hpl:(pieces (aD_ k s ps).2.1.flatten).length=nP (32*ps.length):=by rw[dH_,hfl]
    have hb:nP (32*ps.length)<=32^f:=nP_up hf;obtain⟨q,hq,hq'⟩:=upP f (k:=2) (s:=(aD_ k s ps).1) (Xp.mk ((aD_ k s ps).2.1.getLastD r.Yq) r.Xi r.Yi) (ps:=pieces (aD_ k s ps).2.1.flatten) (by omega) ok1 hp2 (by rw[hpl];exact Nat.le_max_left _ _) (by rw[hpl];exact hb) (by rw[hpl];unfold nP;omega);refine⟨q,bL_ (s':=(2,(aD_ k s ps).1,Xp.mk ((aD_ k s ps).2.1.getLastD r.Yq) r.Xi r.Yi,pieces (aD_ k s ps).2.1.flatten)) ?_ hq,?_⟩
    .refine aa_ ho (ac_ (by simp;omega) (aa_ (chunks_eq (by rw[hfl];omega)) rfl))
    .have hu:upF (f+1+1) k s ps=⟨(upF (f+1) 2 (aD_ k s ps).1 (pieces (aD_ k s ps).2.1.flatten)).store,(upF (f+1) 2 (aD_ k s ps).1 (pieces (aD_ k s ps).2.1.flatten)).score,(upF (f+1) 2 (aD_ k s ps).1 (pieces (aD_ k s ps).2.1.flatten)).levels+1,(upF (f+1) 2 (aD_ k s ps).1 (pieces (aD_ k s ps).2.1.flatten)).err⟩:=by
      rw[upF,if_pos he,if_neg h1']
     rw[hu];exact hq'
  .rw[if_neg he]at hc;obtain⟨s',rfl⟩:=hc;have hu:upF (f+1) k s ps=⟨s,[],0,(aD_ k s ps).2.2⟩:=by unfold upF;rw[if_neg he]
   rw[hu];refine⟨_,aZ_ (body:=eq_) (b := .ret (s',kU_,(aD_ k s ps).2.2)) (aa_ ho rfl),?_⟩;rw[if_neg he];exact⟨_,rfl⟩
def bA:Nat->Nat->Nat|n,0=>n|n,l+1=>(bA n l+31)/32
theorem pt_{n:Nat}(h:n<=1073741824):∀l,bA n l<=1073741824
 | 0=>h
 | l+1=>by have:=pt_ h l;unfold bA;omega
theorem quo32{n:Nat}(h:n<=1073741824):IntKind.i64.wrap ((w64 ((w64 ((n:Int)+32))-1)).tdiv 32)=(((n+31)/32:Nat):Int):=by
 rw[ap_ (n:=(n:Int)+32) ⟨by omega,by omega⟩,ap_ ⟨by omega,by omega⟩,Int.tdiv_eq_ediv_of_nonneg (by omega),eN_ ⟨by omega,by omega⟩];omega
theorem quo1024{n:Nat}(h:n<=1073741824):IntKind.i64.wrap ((w64 ((w64 ((n:Int)+1024))-1)).tdiv 1024)=(((n+1023)/1024:Nat):Int):=by
 rw[ap_ (n:=(n:Int)+1024) ⟨by omega,by omega⟩,ap_ ⟨by omega,by omega⟩,Int.tdiv_eq_ediv_of_nonneg (by omega),eN_ ⟨by omega,by omega⟩];omega
theorem max_nP(n:Nat):cv_ 1 (((n+1023)/1024:Nat):Int)=((nP n:Nat):Int):=by
 unfold cv_ nP;split<;>omega
theorem nV_{n:Nat}(hn:n<=1073741824){l:Nat}(hl:l<=1073741824):ev_ (n:Int) (l:Int)=some ((bA (nP n) l:Nat):Int):=by
 unfold ev_;rw[quo1024 hn,max_nP];have hb:=pt_ (n:=nP n) (by unfold nP;omega);refine aa_ (a:=((bA (nP n) l:Nat):Int)) ?_ rfl;refine bd_ (T:=λ i=>(((bA (nP n) i:Nat):Int),(i:Int))) l (bQ_ (by omega)) (λ i hi => ?_) ?_
 .unfold gm_;refine ah_ (by simp;omega) ?_;show some (Step.next (IntKind.i64.wrap ((w64 ((w64 (((bA (nP n) i:Nat):Int)+32))-1)).tdiv 32),w64 ((i:Int)+1)))=_;rw[quo32 (hb i),au_ (by omega)];rfl
 .unfold gm_;exact ac_ (by simp) rfl
def hN(n:Nat):Nat:=if n<=1 then 0 else if n<=32 then 1 else 2
theorem nP_le{n:Nat}(h:n<=1048576):1<=nP n/\nP n<=1024:=by unfold nP;omega
theorem bA_gt{n i:Nat}(h:n<=1024)(hi:i<hN n):1<bA n i:=by
 unfold hN at hi;split at hi
 .omega
 .split at hi
  .obtain rfl:i=0:=by omega
   show 1<n;omega
  .have:i=0\/i=1:=by omega
   rcases this with rfl|rfl
   .show 1<n;omega
   .show 1<(n+31)/32;omega
theorem bA_one{n:Nat}(h1:1<=n)(h:n<=1024):bA n (hN n)=1:=by
 unfold hN;split
 .show n=1;omega
 .split
  .show(n+31)/32=1;omega
  .show((n+31)/32+31)/32=1;omega
theorem hN_le(n:Nat):hN n<=2:=by unfold hN;split<;>(try split)<;>omega
theorem hN_up{n:Nat}(h:1<n)(h2:n<=1024):hN n=hN ((n+31)/32)+1:=by
 unfold hN;by_cases h3:n<=32
 .rw[if_neg (by omega),if_pos h3,if_pos (by omega)]
 .rw[if_neg (by omega),if_neg h3,if_neg (by omega),if_pos (by omega)]
theorem height_eq{n:Nat}(hn:n<=1048576):en_ (n:Int)=some ((hN (nP n):Nat):Int):=by
 unfold en_;obtain⟨n1,n2⟩:=nP_le hn;have h2:=hN_le (nP n);refine aa_ (a:=((hN (nP n):Nat):Int)) ?_ rfl;refine bd_ (T:=λ i=>(i:Int)) (hN (nP n)) (bQ_ (by omega)) (λ i hi => ?_) ?_
 .unfold hF_;refine aa_ (nV_ (by omega) (by omega)) (ah_ ?_ (by rw[au_ (by omega)]));have:=bA_gt n2 hi;simp only[qDe];omega
 .unfold hF_;refine aa_ (nV_ (by omega) (by omega)) (ac_ ?_ rfl);rw[bA_one n1 n2];rfl
theorem levels_ref{n:Nat}(hn:n<=1048576):jk_ (n:Int)=some ((hN (nP n):Nat):Int):=by
 unfold jk_;rw[quo1024 (by omega),max_nP];obtain⟨n1,n2⟩:=nP_le hn;have h2:=hN_le (nP n);refine aa_ (a:=((hN (nP n):Nat):Int)) ?_ rfl;refine bd_ (T:=λ i=>(((bA (nP n) i:Nat):Int),(i:Int))) (hN (nP n)) (bQ_ (by omega)) (λ i hi => ?_) ?_
 .unfold jj_;have:=bA_gt n2 hi;refine ah_ (by simp only[qDe];omega) ?_;have hb:=pt_ (n:=nP n) (by omega) i;simp only[quo32 hb,au_ (show i<9223372036854775807 by omega)];rfl
 .unfold jj_;refine ac_ ?_ rfl;simp only[bA_one n1 n2];rfl
def putS(s:Xj)(k:Int)(d:Str):Up:=upF 3 k s (pieces d)
theorem ub_:∀(f:Nat) {k:Int} {s:Xj} {ps:List Str},1<=k/\k<=4->StOK s->(upF f k s ps).err=0->1<=ps.length->ps.length<=1024->(upF f k s ps).levels=((hN ps.length:Nat):Int)
 | 0,k,s,ps,_,_,h,_,_=>by simp[upF]at h
 | f+1,k,s,ps,hk,hs,h,h1,hn=>by
  unfold upF at h ⊢;split at h
  .rename_i he;obtain⟨l1,l2⟩:=kt_ hk hs he;obtain⟨ok1,_,_⟩:=hz_ hk (ps:=ps) hs;rw[if_pos he];split at h
   .rename_i h1';rw[if_pos h1',h1'];rfl
   .rename_i h1';rw[if_neg h1'];simp only at h ⊢;have hpl:(pieces (aD_ k s ps).2.1.flatten).length=nP (32*ps.length):=by rw[dH_,l8_ l2,l1]
    have hu:nP (32*ps.length)=(ps.length+31)/32:=by unfold nP;omega
    rw[ub_ f (by omega) ok1 h (by rw[hpl,hu];omega) (by rw[hpl,hu];omega),hpl,hu];rw[hN_up (by omega) hn];rfl
  .rename_i he;exact absurd h he
theorem putP{s:Xj}{k:Int}{d:Str}(hk:1<=k/\k<=4)(hs:StOK s)(hd:d.length<=1048576) :
  ∃q,ek_ s k d=some q/\if(putS s k d).err=0 then q=((putS s k d).store,Xp.mk (putS s k d).score (d.length:Int) ((hN (nP d.length):Nat):Int),0)else ∃s',q=(s',kU_,(putS s k d).err):=by
 have hpl:(pieces d).length=nP d.length:=dH_ d;obtain⟨n1,n2⟩:=nP_le hd;obtain⟨q,h1,h2⟩:=upP 2 (Xp.mk [] (d.length:Int) ((hN (nP d.length):Nat):Int)) (ps:=pieces d) hk hs (λ p hp=>by
  obtain⟨j,_,rfl⟩:=List.mem_map.1 hp;rw[piece_len];omega) (by omega) (by rw[hpl];exact n2) (by omega)
 refine⟨q,?_,h2⟩;unfold ek_;exact aa_ (height_eq hd) (aa_ (chunks_eq (by omega)) (aa_ (hA_ h1 (by decide)) rfl))
theorem own_eq{s:Xj}(h:s.Xd.length<=1073741824):ei_ s=some s:=by
 unfold ei_;exact aa_ (sF_ h) rfl
theorem upF_ok:∀(f:Nat) {k:Int} {s:Xj} {ps:List Str},1<=k/\k<=4->StOK s->StOK (upF f k s ps).store/\StLe s (upF f k s ps).store
 | 0,k,s,ps,_,hs=>⟨hs,StLe.refl s⟩
 | f+1,k,s,ps,hk,hs=>by
  obtain⟨h1,h2,_⟩:=hz_ hk (ps:=ps) hs;unfold upF;split
  .split
   .exact⟨h1,h2⟩
   .obtain⟨h3,h4⟩:=upF_ok f (k:=2) (ps:=pieces (aD_ k s ps).2.1.flatten) (by omega) h1;exact⟨h3,h2.trans h4⟩
  .exact⟨hs,StLe.refl s⟩
def bD_{α σ ε:Type}(f:σ->α->σ ⊕ ε):σ->List α->σ ⊕ ε
 | s,[] => .inl s
 | s,x::l=>match f s x with
  | .inl s'=>bD_ f s' l
  | .inr e => .inr e
def outS{σ ε β:Type}(fin:σ->β)(err:ε->β):σ ⊕ ε->β | .inl s=>fin s | .inr e=>err e
def stepS{σ ε τ β:Type}(mk:σ->τ)(err:ε->β):σ ⊕ ε->Step τ β | .inl s => .next (mk s) | .inr e => .done (err e)
theorem qU_{α σ ε τ β:Type}{body:τ->Option (Step τ β)}(xs:List α)(f:σ->α->σ ⊕ ε)(mk:Nat->σ->τ)(Inv:Nat->σ->Prop)(fin:σ->β)(err:ε->β)(s0:σ)(hn:xs.length<BIG)(h0:Inv 0 s0)
  (hb:∀i s (h:i<xs.length),Inv i s->body (mk i s)=some (stepS (mk (i+1)) err (f s xs[i]))/\∀s',f s xs[i] = .inl s'->Inv (i+1) s')
  (he:∀s,Inv xs.length s->body (mk xs.length s)=some (.done (fin s))):ak_ body BIG (mk 0 s0)=some (outS fin err (bD_ f s0 xs)):=by
 refine fe_ (J:=λ i t b=>∃s,Inv i s/\t=mk i s/\b=outS fin err (bD_ f s (xs.drop i))) xs.length hn (λ t b hJ => ?_) (λ i t b hi hJ => ?_) ⟨s0,h0,rfl,by simp⟩
 .obtain⟨s,hI,rfl,rfl⟩:=hJ;rw[he s hI];simp[bD_,outS]
 .obtain⟨s,hI,rfl,rfl⟩:=hJ;obtain⟨h1,h2⟩:=hb i s hi hI;rw[List.drop_eq_getElem_cons hi];simp only[bD_];cases hf:f s xs[i]with
  | inl s' =>
   rw[hf]at h1;exact .inr ⟨_,h1,s',h2 s' hf,rfl,rfl⟩
  | inr b =>
   rw[hf]at h1;exact .inl h1
theorem runS_inv'{σ ε:Type}{f:σ->Nat->σ ⊕ ε}(Inv:Nat->σ->Prop)(Q:ε->Prop):∀{m k:Nat} {s0:σ},Inv k s0->(∀i s,k<=i->i<k+m->Inv i s->(∀s',f s i = .inl s'->Inv (i+1) s')/\∀e,f s i = .inr e->Q e) ->
  (∀s,bD_ f s0 (List.range' k m) = .inl s->Inv (k+m) s)/\∀e,bD_ f s0 (List.range' k m) = .inr e->Q e
 | 0,k,s0,h0,_=>⟨λ s e=>by simp only[List.range',bD_,Sum.inl.injEq]at e;subst e;exact h0,λ e h=>by simp[bD_]at h⟩
 | m+1,k,s0,h0,h=>by
  obtain⟨h1,h2⟩:=h k s0 (Nat.le_refl _) (by omega) h0;simp only[List.range'_succ,bD_];cases hf:f s0 k with
  | inl s' =>
   obtain⟨i1,i2⟩:=runS_inv' Inv Q (m:=m) (h1 s' hf) λ i s hi hi2=>h i s (by omega) (by omega)
   refine⟨λ s e => ?_,i2⟩;have:=i1 s e
   rwa [show k+1+m=k+(m+1)by omega]at this
  | inr e =>
   refine⟨λ s e'=>(by cases e'),λ e' h' => ?_⟩;obtain rfl:=Sum.inr.inj h';exact h2 e hf
theorem pu_{σ ε:Type}{f:σ->Nat->σ ⊕ ε}(Inv:Nat->σ->Prop)(Q:ε->Prop){n:Nat}{s0:σ}(h0:Inv 0 s0)(h:∀i s,i<n->Inv i s->(∀s',f s i = .inl s'->Inv (i+1) s')/\∀e,f s i = .inr e->Q e) :
  (∀s,bD_ f s0 (List.range n) = .inl s->Inv n s)/\∀e,bD_ f s0 (List.range n) = .inr e->Q e:=by
 have:=runS_inv' (f:=f) Inv Q (m:=n) (k:=0) (s0:=s0) h0 λ i s _ hi=>h i s (by omega)
 rwa [Nat.zero_add,←List.range_eq_range']at this
def blk(s:Xj)(sc:Str)(k:Int):Str×Int:=if(getB s sc k).2=1 then([],2)else getB s sc k
theorem me_{s:Xj}(hs:StOK s)(sc:Str)(k:Int):(blk s sc k).1.length<=1024:=by
 unfold blk;split
 .simp
 .unfold getB;split
  .simp
  .rename_i b hb;split
   .simp
   .split
    .exact(hs.all b (l7_ hb).1).2.2.1
    .simp
theorem mZ_{s:Xj}(hs:StOK s)(sc:Str){k:Int}(hk:0<=k/\k<256):gc_ s sc k=some (blk s sc k):=by
 unfold gc_ blk;refine aa_ (ref_Get_eq hk (by have:=hs.size;omega) λ b hb=>by have:=(hs.all b hb).2.2.1;omega) ?_;by_cases h:(getB s sc k).2=1
 .rw[if_pos h];exact ah_ (by simp[h]) rfl
 .rw[if_neg h];exact ac_ (by simp[h]) rfl
theorem e6_{s:Xj}(hs:StOK s)(sc:Str)(k:Int){seen:List Str}(hn:seen.length<=1073741824) :
  b7_ (Xg.mk s seen) sc k=some (if(blk s sc k).2=0 then((blk s sc k).1,0,Xg.mk s (seen++[sc]))else([],(blk s sc k).2,Xg.mk s seen)):=by
 unfold b7_;refine aa_ (Get_eq (by have:=hs.size;show s.Xd.length<=_;omega) λ b hb=>by have:=(hs.all b hb).2.2.1;omega) (aa_ (a:=(blk s sc k).2) ?_ ?_)
 .unfold blk;by_cases h:(getB s sc k).2=1
  .rw[if_pos h];exact ah_ (by simp[h]) rfl
  .rw[if_neg h];exact ac_ (by simp[h]) rfl
 .by_cases h:(blk s sc k).2=0
  .rw[if_pos h];refine ac_ (by simp[h]) (aa_ (cx_ (by simp;omega) (by simp;omega)) ?_);have:(getB s sc k).1=(blk s sc k).1:=by
    unfold blk at h ⊢;split
    .rename_i h1;rw[if_pos h1]at h;cases h
    .rfl
   rw[this]
  .rw[if_neg h];exact ah_ (by simp[h]) rfl
def ae_(l:Nat):Nat:=1024*32^l
theorem ld_(l:Nat):1024<=ae_ l:=by
 unfold ae_;have:1<=32^l:=Nat.pos_of_ne_zero (by simp);omega
theorem pv_(l:Nat):ae_ (l+1)=32*ae_ l:=by unfold ae_;rw[Nat.pow_succ];omega
abbrev Rd:=Str×List Str×Int
def ax_(u len i:Nat):Nat:=min u (len-i*u)
def fRd(rec:Str->Nat->Nat->Nat->Rd)(d:Str)(u len a b:Nat)(acc:Str×List Str)(i:Nat):(Str×List Str) ⊕ Rd :=
 if min (b-i*u) (ax_ u len i)<=min (a-i*u) (ax_ u len i)then .inl acc else
  (λ r:Rd=>if r.2.2=0 then .inl (acc.1++r.1,acc.2++r.2.1)else .inr ([],acc.2++r.2.1,r.2.2)) (rec ((d.drop (32*i)).take 32) (ax_ u len i) (min (a-i*u) (ax_ u len i)) (min (b-i*u) (ax_ u len i)))
def rdF(s:Xj)(k:Int):Nat->Str->Nat->Nat->Nat->Rd | 0,sc,len,a,b=>if(blk s sc k).2=0 then(if(blk s sc k).1.length=len then(((blk s sc k).1.take b).drop a,[sc],0)else([],[sc],2))else([],[],(blk s sc k).2)|l+1,sc,len,a,b=>if(blk s sc 2).2=0 then(if(blk s sc 2).1.length=32*((len+ae_ l-1)/ae_ l)then outS (λ acc=>(acc.1,acc.2,0)) (λ r=>r) (bD_ (fRd (rdF s k l) (blk s sc 2).1 (ae_ l) len a b) ([],[sc]) (List.range ((len+ae_ l-1)/ae_ l)))else([],[sc],2))else([],[],(blk s sc 2).2)
def cZ_:Nat->Nat | 0=>1|l+1=>1+32*cZ_ l
theorem nt_ {s:Xj} (hs:StOK s) (k:Int):∀(l:Nat) (sc:Str) (len a b:Nat),(rdF s k l sc len a b).1.length<=ae_ l/\(rdF s k l sc len a b).2.1.length<=cZ_ l
 | 0,sc,len,a,b=>by
  have:=me_ hs sc k;unfold rdF;split
  .split
   .simp only[List.length_drop,List.length_take,List.length_singleton,cZ_];unfold ae_;omega
   .simp[cZ_]
  .simp[cZ_]
 | l + 1,sc,len,a,b=>by
  have hb:=me_ hs sc 2;unfold rdF;split
  .split
   .rename_i hl;have hn:(len+ae_ l-1)/ae_ l<=32:=by omega
    generalize(len+ae_ l-1)/ae_ l=n at *
    have h:=pu_ (f:=fRd (rdF s k l) (blk s sc 2).1 (ae_ l) len a b) (λ i acc=>acc.1.length<=i*ae_ l/\acc.2.length<=1+i*cZ_ l) (λ r=>r.1.length<=ae_ (l+1)/\r.2.1.length<=cZ_ (l+1)) (n:=n) (s0:=([],[sc])) ⟨by simp,by simp⟩ λ i acc hi ⟨h3,h4⟩ => ?_
    .obtain⟨h1,h2⟩:=h;cases hr:bD_ (fRd (rdF s k l) (blk s sc 2).1 (ae_ l) len a b) ([],[sc]) (List.range n)with
     | inl acc =>
      obtain⟨h3,h4⟩:=h1 acc hr;simp only[outS,pv_,cZ_];exact⟨Nat.le_trans h3 (Nat.mul_le_mul_right _ hn),Nat.le_trans h4 (Nat.add_le_add_left (Nat.mul_le_mul_right _ hn) 1)⟩
     | inr r=>exact h2 r hr
    .obtain⟨r1,r2⟩:=nt_ hs k l (((blk s sc 2).1.drop (32*i)).take 32) (ax_ (ae_ l) len i) (min (a-i*ae_ l) (ax_ (ae_ l) len i)) (min (b-i*ae_ l) (ax_ (ae_ l) len i));have e1:(i+1)*ae_ l=i*ae_ l+ae_ l:=Nat.succ_mul _ _;have e2:(i+1)*cZ_ l=i*cZ_ l+cZ_ l:=Nat.succ_mul _ _;have e3:(i+1)*cZ_ l<=32*cZ_ l:=Nat.mul_le_mul_right _ (by omega);unfold fRd;refine⟨λ s' he => ?_,λ e he => ?_⟩
     .split at he
      .obtain rfl:=Sum.inl.inj he;constructor<;>omega
      .simp only at he;split at he
       .obtain rfl:=Sum.inl.inj he;simp only[qLa];constructor<;>omega
       .cases he
     .split at he
      .cases he
      .simp only at he;split at he
       .cases he
       .obtain rfl:=Sum.inr.inj he;simp only[qLa,List.length_nil,cZ_];constructor<;>omega
   .simp only[List.length_nil,List.length_singleton,cZ_];omega
  .simp[cZ_]
theorem unit_eq{l:Nat}(hl:l<=2):he_ (l:Int)=some ((ae_ l:Nat):Int):=by
 have:l=0\/l=1\/l=2:=by omega
 rcases this with rfl|rfl|rfl
 .exact(by kernel_rfl:he_ 0=some 1024)
 .exact(by kernel_rfl:he_ 1=some 32768)
 .exact(by kernel_rfl:he_ 2=some 1048576)
theorem sG_{l:Nat}(hl:l<=2):ct_ (l:Int)=some ((ae_ l:Nat):Int):=by
 have:l=0\/l=1\/l=2:=by omega
 rcases this with rfl|rfl|rfl
 .exact(by kernel_rfl:ct_ 0=some 1024)
 .exact(by kernel_rfl:ct_ 1=some 32768)
 .exact(by kernel_rfl:ct_ 2=some 1048576)
theorem sH_{l:Nat}(hl:l<=2):ae_ l<=1048576:=by
 have:l=0\/l=1\/l=2:=by omega
 rcases this with rfl|rfl|rfl<;>decide
theorem ow_(a b:Nat):ck_ (a:Int) (b:Int)=((min a b:Nat):Int):=by
 unfold ck_;split<;>omega
theorem max_sub(a b:Nat):cv_ ((a:Int)-(b:Int)) 0=((a-b:Nat):Int):=by
 unfold cv_;split<;>omega
theorem rV_ {s:Xj} (hs:StOK s) {k:Int} (hk:0<=k/\k<256) (whole:Bool):∀(l n:Nat) {sc:Str} {len a b:Nat},l<=2->l<n->len<=1048576->a<=b->b<=len->(whole=true->a=0/\b=len) ->
  eY_ n s sc k (l:Int) (len:Int) (a:Int) (b:Int) whole=some ((rdF s k l sc len a b).1,(rdF s k l sc len a b).2.2)
 | 0,n,sc,len,a,b,_,hn,hlen,hab,hb,hw=>by
  obtain⟨n,rfl⟩:∃m,n=m+1:=⟨n-1,by omega⟩;show fu_ (eY_ n) s sc k 0 len a b whole=_;unfold fu_ rdF;refine ah_ rfl (aa_ (mZ_ hs sc hk) ?_);by_cases h:(blk s sc k).2=0
  .rw[if_pos h];refine ac_ (by simp[h]) ?_;by_cases h2:(blk s sc k).1.length=len
   .rw[if_pos h2];refine ac_ (by simp[h2]) (aa_ (cf_ (by omega) (by omega) (by omega)) ?_);rw[qTn,qTn]
   .rw[if_neg h2];exact ah_ (by simp;omega) rfl
  .rw[if_neg h];exact ah_ (by simp[h]) rfl
 | l + 1,n,sc,len,a,b,hl,hn,hlen,hab,hb,hw=>by
  obtain⟨n,rfl⟩:∃m,n=m+1:=⟨n-1,by omega⟩;show fu_ (eY_ n) s sc k ((l+1:Nat):Int) len a b whole=_;have hu:=sH_ (l:=l) (by omega);have hu1:=ld_ l;have hd:=me_ hs sc 2;have el:w64 (((l+1:Nat):Int)-1)=(l:Int):=by rw[ap_ ⟨by omega,by omega⟩];omega
  have eq:quoI .i64 (w64 ((w64 ((len:Int)+((ae_ l:Nat):Int)))-1)) ((ae_ l:Nat):Int)=some ((((len+ae_ l-1)/ae_ l:Nat)):Int):=by
   unfold quoI;rw[if_neg (by omega),ap_ (n:=(len:Int)+((ae_ l:Nat):Int)) ⟨by omega,by omega⟩,ap_ ⟨by omega,by omega⟩,Int.tdiv_eq_ediv_of_nonneg (by omega)];have e:((len:Int)+((ae_ l:Nat):Int)-1)=((len+ae_ l-1:Nat):Int):=by omega
   have:(len+ae_ l-1)/ae_ l<=len+ae_ l-1:=Nat.div_le_self _ _;rw[e,←Int.natCast_ediv];generalize(len+ae_ l-1)/ae_ l=q at *
   rw[eN_ ⟨by omega,by omega⟩]
  unfold fu_;rw[rdF];refine ac_ (by simp;omega) (aa_ (mZ_ hs sc (by omega)) ?_);by_cases h:(blk s sc 2).2=0
  .rw [if_pos h];refine ac_ (by simp[h]) (aa_ (by rw[el];exact unit_eq (by omega)) (aa_ eq ?_));have hnb:(len+ae_ l-1)/ae_ l<=1048576:=by
    have h3:(len+ae_ l-1)/ae_ l<=(len+ae_ l-1)/1024:=Nat.div_le_div_left hu1 (by omega);omega
   have e32:w64 (32*(((len+ae_ l-1)/ae_ l:Nat):Int))=((32*((len+ae_ l-1)/ae_ l):Nat):Int):=by
    generalize(len+ae_ l-1)/ae_ l=q at *
    rw[ap_ ⟨by omega,by omega⟩];omega
   by_cases h2:(blk s sc 2).1.length=32*((len+ae_ l-1)/ae_ l)
   .rw [if_pos h2];refine ac_ (by rw[e32,h2];simp) ?_;have hn32:(len+ae_ l-1)/ae_ l<=32:=by omega
    have hcov:∀i,i<(len+ae_ l-1)/ae_ l->i*ae_ l<len:=λ i hi=>by
     have h3:(i+1)*ae_ l<=len+ae_ l-1:=Nat.le_trans (Nat.mul_le_mul_right _ (by omega:i+1<=(len+ae_ l-1)/ae_ l)) (Nat.div_mul_le_self _ _);rw[Nat.succ_mul]at h3;omega
    generalize(len+ae_ l-1)/ae_ l=N at *
    have hsz:∀i,i<N->ck_ ((ae_ l:Nat):Int) (w64 ((len:Int)-w64 ((i:Int)*((ae_ l:Nat):Int))))=((ax_ (ae_ l) len i:Nat):Int)/\1<=ax_ (ae_ l) len i/\ax_ (ae_ l) len i<=len:=λ i hi=>by
     have h3:=hcov i hi;have e1:(i:Int)*((ae_ l:Nat):Int)=((i*ae_ l:Nat):Int):=by simp
     rw[e1,ap_ (n:=((i*ae_ l:Nat):Int)) ⟨by omega,by omega⟩,ap_ ⟨by omega,by omega⟩];have e2:(len:Int)-((i*ae_ l:Nat):Int)=((len-i*ae_ l:Nat):Int):=by omega
     rw[e2,ow_];unfold ax_;exact⟨rfl,by omega,by omega⟩
    have hcl:∀i,i<N->∀c:Nat,c<=len->ck_ (cv_ (w64 ((c:Int)-w64 ((i:Int)*((ae_ l:Nat):Int)))) 0) (ck_ ((ae_ l:Nat):Int) (w64 ((len:Int)-w64 ((i:Int)*((ae_ l:Nat):Int)))))=((min (c-i*ae_ l) (ax_ (ae_ l) len i):Nat):Int):=λ i hi c hc=>by
     have h3:=hcov i hi;rw[(hsz i hi).1];have e1:(i:Int)*((ae_ l:Nat):Int)=((i*ae_ l:Nat):Int):=by simp
     rw[e1,ap_ (n:=((i*ae_ l:Nat):Int)) ⟨by omega,by omega⟩,ap_ ⟨by omega,by omega⟩,max_sub,ow_]
    have hrec:=fun(i:Nat) (hi:i<N)=>rV_ hs hk whole l n (sc:=((blk s sc 2).1.drop (32*i)).take 32) (len:=ax_ (ae_ l) len i) (a:=min (a-i*ae_ l) (ax_ (ae_ l) len i)) (b:=min (b-i*ae_ l) (ax_ (ae_ l) len i)) (by omega) (by omega) (by have:=(hsz i hi).2.2;omega) (by omega) (by omega)
     (λ hw'=>by
      obtain⟨w1,w2⟩:=hw hw';have h3:=hcov i hi;subst w1;subst w2;unfold ax_;omega)
    have hlp:=qU_ (body:=ie_ ((N:Nat):Int) (a:Int) ((ae_ l:Nat):Int) (len:Int) (b:Int) whole ((blk s sc 2)) (eY_ n) s k ((l+1:Nat):Int)) (List.range N) (fRd (rdF s k l) (blk s sc 2).1 (ae_ l) len a b) (λ i acc=>(acc.1,(i:Int))) (λ i acc=>acc.1.length<=i*ae_ l) (λ acc=>Out.fall acc.1) (λ r=>Out.ret (([]:Str),r.2.2)) ([],[sc]) (bQ_ (by simp;omega)) (by simp) (λ i acc hi hI => ?_) (λ acc hI => ?_)
    .refine aa_ hlp ?_;have hq:=pu_ (f:=fRd (rdF s k l) (blk s sc 2).1 (ae_ l) len a b) (λ _ _=>True) (λ r=>r.1=[]) (n:=N) (s0:=([],[sc])) trivial λ i acc hi _=>⟨λ _ _=>trivial,λ e he=>by
      unfold fRd at he;split at he
      .cases he
      .simp only at he;split at he
       .cases he
       .obtain rfl:=Sum.inr.inj he;rfl⟩
     cases hr:bD_ (fRd (rdF s k l) (blk s sc 2).1 (ae_ l) len a b) ([],[sc]) (List.range N)with
     | inl acc=>rfl
     | inr r =>
      simp only[outS];rw[hq.2 r hr]
    .have hi':i<N:=by simpa using hi
     rw[List.getElem_range];obtain⟨z1,z2,z3⟩:=hsz i hi';obtain⟨r1,_⟩:=nt_ hs k l (((blk s sc 2).1.drop (32*i)).take 32) (ax_ (ae_ l) len i) (min (a-i*ae_ l) (ax_ (ae_ l) len i)) (min (b-i*ae_ l) (ax_ (ae_ l) len i));have e1:(i+1)*ae_ l=i*ae_ l+ae_ l:=Nat.succ_mul _ _;have e2:i*ae_ l<=32*ae_ l:=Nat.mul_le_mul_right _ (by omega);constructor
     .unfold ie_;refine ah_ (by simp;omega) ?_;rw[hcl i hi' a (by omega),hcl i hi' b hb,z1];unfold fRd;by_cases hsk:min (b-i*ae_ l) (ax_ (ae_ l) len i)<=min (a-i*ae_ l) (ax_ (ae_ l) len i)
      .rw[if_pos hsk];have hwf:whole=false:=by
        cases hwh:whole with
        | false=>rfl
        | true =>
         obtain⟨w1,w2⟩:=hw hwh;have h3:=hcov i hi';subst w1;subst w2;unfold ax_ at hsk;omega
       refine aa_ (a:=Out.fall acc.1) (ah_ (by rw[hwf];simp;omega) rfl) ?_;show some (Step.next (acc.1,w64 ((i:Int)+1)))=_;rw[au_ (by omega)];rfl
      .rw[if_neg hsk];have es:w64 (32*(i:Int))=((32*i:Nat):Int):=by rw[ap_ ⟨by omega,by omega⟩];omega
       have es2:w64 (((32*i:Nat):Int)+32)=((32*i+32:Nat):Int):=by rw[ap_ ⟨by omega,by omega⟩];omega
       have hsub:bz_ (blk s sc 2).1 (w64 (32*(i:Int))) (w64 ((w64 (32*(i:Int)))+32))=some (((blk s sc 2).1.drop (32*i)).take 32):=by
        rw[es,es2,cf_ (by omega) (by omega) (by omega),qTn,qTn,List.drop_take,Nat.add_sub_cancel_left]
       have hb1:∀X:Option (Out Str (Str×Int)),(bif(decide (((min (a-i*ae_ l) (ax_ (ae_ l) len i):Nat):Int)>=((min (b-i*ae_ l) (ax_ (ae_ l) len i):Nat):Int)) && !whole)then some (Out.fall acc.1)else X)=X:=λ X=>ac_ (by simp;omega) rfl
       rw[hb1];have hr:=hrec i hi';generalize rdF s k l (((blk s sc 2).1.drop (32*i)).take 32) (ax_ (ae_ l) len i) (min (a-i*ae_ l) (ax_ (ae_ l) len i)) (min (b-i*ae_ l) (ax_ (ae_ l) len i))=r at *
       have hl1:w64 (((l+1:Nat):Int)-1)=(l:Int):=el;rw[hl1];by_cases he:r.2.2=0
       .simp only[if_pos he];refine aa_ (a:=Out.fall (acc.1++r.1)) (aa_ hsub (aa_ hr (ac_ (by simp[he]) (aa_ (cy_ ?_) rfl)))) ?_
        .show acc.1.length+r.1.length<=_;omega
        .show some (Step.next (acc.1++r.1,w64 ((i:Int)+1)))=_;rw[au_ (by omega)];rfl
       .simp only[if_neg he];exact aa_ (a:=Out.ret ([],r.2.2)) (aa_ hsub (aa_ hr (ah_ (by simp[he]) rfl))) rfl
     .intro s' he;unfold fRd at he;split at he
      .obtain rfl:=Sum.inl.inj he;omega
      .simp only at he;split at he
       .obtain rfl:=Sum.inl.inj he;simp only[qLa];omega
       .cases he
    .unfold ie_;exact ac_ (by simp) rfl
   .rw[if_neg h2];refine ah_ ?_ rfl;rw[e32];simp only[bne_iff_ne,ne_eq];omega
  .rw[if_neg h];exact ah_ (by simp[h]) rfl
theorem exp_eq{l L i:Nat}(hl:l<=1)(h1:1<=L)(h2:L<=1048576)(hi:i*ae_ (l+1)<L):min 32 (bA (nP L) l-32*i)=(ax_ (ae_ (l+1)) L i+ae_ l-1)/ae_ l/\32*i<bA (nP L) l:=by
 have hl:l=0\/l=1:=by omega
 rcases hl with rfl|rfl
 .have e1:ae_ 1=32768:=rfl;have e0:ae_ 0=1024:=rfl;rw[e1]at hi;simp only[e1,e0,ax_,bA,nP];omega
 .have e1:ae_ 2=1048576:=rfl;have e0:ae_ 1=32768:=rfl;rw[e1]at hi;simp only[e1,e0,ax_,bA,nP];omega
theorem cntN_le{l:Nat}(hl:l<=2):cZ_ l<=1057:=by
 have:l=0\/l=1\/l=2:=by omega
 rcases this with rfl|rfl|rfl<;>decide
def le_(s:Xj)(k:Int)(l:Nat)(sc:Str)(L lo hi i:Nat):Rd:=rdF s k l sc (ax_ (ae_ l) L i) (min (lo-i*ae_ l) (ax_ (ae_ l) L i)) (min (hi-i*ae_ l) (ax_ (ae_ l) L i))
theorem part_eq {s:Xj} (hs:StOK s) (k:Int) {L lo hi:Nat} (hL:L<=1048576) (h1:lo<hi) (h2:hi<=L):∀(l n:Nat) {sc:Str} {i:Nat} {seen:List Str},l<=2->l<n->i*ae_ l<hi->lo<i*ae_ l+ae_ l->seen.length+cZ_ l<=1073741824 ->
  bT_ n (Xg.mk s seen) (Zz.mk k (L:Int) (lo:Int) (hi:Int)) sc (l:Int) (i:Int)=some ((le_ s k l sc L lo hi i).1,(le_ s k l sc L lo hi i).2.2,Xg.mk s (seen++(le_ s k l sc L lo hi i).2.1))
 | 0,n,sc,i,seen,_,hn,h3,h4,h5=>by
  obtain⟨n,rfl⟩:∃m,n=m+1:=⟨n-1,by omega⟩;show cn_ (bT_ n) (Xg.mk s seen) _ sc 0 (i:Int)=_;have e0:ae_ 0=1024:=rfl;rw[e0]at h3 h4;have ei:w64 ((i:Int)*1024)=((i*1024:Nat):Int):=by rw[ap_ ⟨by omega,by omega⟩];omega
  have hexp:cm_ (Zz.mk k (L:Int) (lo:Int) (hi:Int)) 0 (i:Int)=some ((ax_ 1024 L i:Nat):Int):=by
   unfold cm_;refine ah_ rfl ?_;show some (ck_ 1024 (w64 ((L:Int)-w64 ((i:Int)*1024))))=_;have e2:(L:Int)-((i*1024:Nat):Int)=((L-i*1024:Nat):Int):=by omega
   rw[ei,e2,ap_ ⟨by omega,by omega⟩];exact congrArg some (ow_ 1024 (L-i*1024))
  unfold cn_ le_ rdF;rw[e0];refine aa_ (a:=k) (ah_ rfl rfl) (aa_ (e6_ hs sc k (by simp[cZ_]at h5;omega)) ?_);by_cases h:(blk s sc k).2=0
  .simp only[if_pos h];refine ac_ rfl (aa_ hexp ?_);by_cases h6:(blk s sc k).1.length=ax_ 1024 L i
   .rw[if_pos h6];refine ac_ (by simp[h6]) (aa_ (a:=1024) (by kernel_rfl) (ah_ rfl (aa_ (a:=((blk s sc k).1.take (min (hi-i*1024) (ax_ 1024 L i))).drop (min (lo-i*1024) (ax_ 1024 L i))) ?_ rfl)));show bz_ (blk s sc k).1 (cv_ 0 (w64 ((lo:Int)-w64 ((i:Int)*1024)))) (ck_ ((blk s sc k).1.length:Int) (w64 ((hi:Int)-w64 ((i:Int)*1024))))=_;have e3:cv_ 0 ((lo:Int)-((i*1024:Nat):Int))=((lo-i*1024:Nat):Int):=by
     unfold cv_;split<;>omega
    have e4:(hi:Int)-((i*1024:Nat):Int)=((hi-i*1024:Nat):Int):=by omega
    rw[ei,ap_ (n:=(lo:Int)-((i*1024:Nat):Int)) ⟨by omega,by omega⟩,e3,e4,ap_ ⟨by omega,by omega⟩,ow_,h6];have e5:min (lo-i*1024) (ax_ 1024 L i)=lo-i*1024:=by unfold ax_;omega
    rw[e5,Nat.min_comm,cf_ (by omega) (by unfold ax_;omega) (by rw[h6];omega),qTn,qTn]
   .rw[if_neg h6];exact ah_ (by simp;omega) rfl
  .simp only[if_neg h];refine ah_ (by simp[h]) ?_;rw[List.append_nil]
 | l + 1,n,sc,i,seen,hl,hn,h3,h4,h5=>by
  obtain⟨n,rfl⟩:∃m,n=m+1:=⟨n-1,by omega⟩;show cn_ (bT_ n) (Xg.mk s seen) _ sc ((l+1:Nat):Int) (i:Int)=_;have hu:=sH_ (l:=l) (by omega);have hu1:=ld_ l;have hus:=pv_ l;have hc:=cntN_le (l:=l) (by omega);have hd:=me_ hs sc 2;have el:w64 (((l+1:Nat):Int)-1)=(l:Int):=by rw[ap_ ⟨by omega,by omega⟩];omega
  obtain⟨x1,x2⟩:=exp_eq (l:=l) (L:=L) (i:=i) (by omega) (by omega) hL (by omega);have hiL:i<=i*ae_ (l+1):=Nat.le_mul_of_pos_right i (by omega);have hbb:=pt_ (n:=nP L) (by unfold nP;omega) l;have hexp:cm_ (Zz.mk k (L:Int) (lo:Int) (hi:Int)) ((l+1:Nat):Int) (i:Int)=some ((32*((ax_ (ae_ (l+1)) L i+ae_ l-1)/ae_ l):Nat):Int):=by
   unfold cm_;refine ac_ (by simp;omega) (aa_ (by rw[el];exact nV_ (by omega) (by omega)) ?_);have e1:w64 ((i:Int)*32)=((i*32:Nat):Int):=by rw[ap_ ⟨by omega,by omega⟩];omega
   have e2:((bA (nP L) l:Nat):Int)-((i*32:Nat):Int)=((bA (nP L) l-32*i:Nat):Int):=by omega
   rw[e1,e2,ap_ (n:=((bA (nP L) l-32*i:Nat):Int)) ⟨by omega,by omega⟩];have e3:ck_ 32 ((bA (nP L) l-32*i:Nat):Int)=((min 32 (bA (nP L) l-32*i):Nat):Int):=ow_ 32 _;have hle:(ax_ (ae_ (l+1)) L i+ae_ l-1)/ae_ l<=32:=by rw[←x1];omega
   rw[e3,x1];generalize(ax_ (ae_ (l+1)) L i+ae_ l-1)/ae_ l=q at *
   rw[ap_ ⟨by omega,by omega⟩];rfl
  unfold cn_ le_;rw[rdF];refine aa_ (a:=2) (ac_ (by simp;omega) rfl) (aa_ (e6_ hs sc 2 (by simp[cZ_]at h5;omega)) ?_);by_cases h:(blk s sc 2).2=0
  .simp only[if_pos h];refine ac_ rfl (aa_ hexp ?_);by_cases h6:(blk s sc 2).1.length=32*((ax_ (ae_ (l+1)) L i+ae_ l-1)/ae_ l)
   .rw [if_pos h6];refine ac_ (by rw[h6];simp) (aa_ (sG_ hl) (ac_ (by simp;omega) ?_));have hlen:ax_ (ae_ (l+1)) L i=min (32*ae_ l) (L-i*ae_ (l+1)):=by unfold ax_;rw[hus]
    have hcov:∀j,j<(ax_ (ae_ (l+1)) L i+ae_ l-1)/ae_ l->j*ae_ l<ax_ (ae_ (l+1)) L i:=λ j hj=>by
     have h7:(j+1)*ae_ l<=ax_ (ae_ (l+1)) L i+ae_ l-1:=Nat.le_trans (Nat.mul_le_mul_right _ (by omega:j+1<=(ax_ (ae_ (l+1)) L i+ae_ l-1)/ae_ l)) (Nat.div_mul_le_self _ _);rw[Nat.succ_mul]at h7;omega
    have hN:(ax_ (ae_ (l+1)) L i+ae_ l-1)/ae_ l<=32:=by rw[←x1];omega
    generalize hlenG:ax_ (ae_ (l+1)) L i=len at *
    generalize(len+ae_ l-1)/ae_ l=N at *
    have hfrom:(32*i)*ae_ l=i*ae_ (l+1):=by rw[hus,Nat.mul_comm 32 i,Nat.mul_assoc]
    have hat:∀j,(32*i+j)*ae_ l=i*ae_ (l+1)+j*ae_ l:=λ j=>by rw[Nat.add_mul,hfrom]
    have hju:∀j,j<N->j*ae_ l+ae_ l<=32*ae_ l:=λ j hj=>by
     have:(j+1)*ae_ l<=32*ae_ l:=Nat.mul_le_mul_right _ (by omega)
     rwa [Nat.succ_mul]at this
    -- what a part of the part is
    have hsub:∀j,j<N->ax_ (ae_ l) len j=ax_ (ae_ l) L (32*i+j):=λ j hj=>by
     have:=hju j hj;unfold ax_;rw[hat j];omega
    have hab:∀j,j<N->∀c,min (min (c-i*ae_ (l+1)) len-j*ae_ l) (ax_ (ae_ l) len j)=min (c-(32*i+j)*ae_ l) (ax_ (ae_ l) L (32*i+j)):=λ j hj c=>by
     have:=hju j hj;rw[←hsub j hj,hat j];unfold ax_;omega
    have hskip:∀j,j<N->(min (hi-(32*i+j)*ae_ l) (ax_ (ae_ l) L (32*i+j))<=min (lo-(32*i+j)*ae_ l) (ax_ (ae_ l) L (32*i+j))↔hi<=(32*i+j)*ae_ l\/(32*i+j)*ae_ l+ae_ l<=lo):=λ j hj=>by
     have h7:=hcov j hj;have h8:=hsub j hj;have h9:(32*i+j)*ae_ l<L:=by rw[hat j];omega
     unfold ax_;omega
    have hlp:=qU_ (body:=dC_ ((blk s sc 2).1,0,Xg.mk s (seen++[sc])) ((l+1:Nat):Int) (i:Int) (Zz.mk k (L:Int) (lo:Int) (hi:Int)) (bT_ n)) (List.range N) (fRd (rdF s k l) (blk s sc 2).1 (ae_ l) len (min (lo-i*ae_ (l+1)) len) (min (hi-i*ae_ (l+1)) len)) (λ j acc=>(acc.1,(j:Int),s.Ya,s.Xd,seen++acc.2)) (λ j acc=>acc.1.length<=j*ae_ l/\acc.2.length<=1+j*cZ_ l) (λ acc=>Out.fall (acc.1,s.Ya,s.Xd,seen++acc.2)) (λ r=>Out.ret (([]:Str),r.2.2,Xg.mk s (seen++r.2.1))) ([],[sc]) (bQ_ (by simp;omega)) (by simp) (λ j acc hj hI => ?_) (λ acc hI => ?_)
    .refine aa_ hlp ?_;have hq:=pu_ (f:=fRd (rdF s k l) (blk s sc 2).1 (ae_ l) len (min (lo-i*ae_ (l+1)) len) (min (hi-i*ae_ (l+1)) len)) (λ _ _=>True) (λ r=>r.1=[]) (n:=N) (s0:=([],[sc])) trivial λ i acc hi _=>⟨λ _ _=>trivial,λ e he=>by
      unfold fRd at he;split at he
      .cases he
      .simp only at he;split at he
       .cases he
       .obtain rfl:=Sum.inr.inj he;rfl⟩
     cases hr:bD_ (fRd (rdF s k l) (blk s sc 2).1 (ae_ l) len (min (lo-i*ae_ (l+1)) len) (min (hi-i*ae_ (l+1)) len)) ([],[sc]) (List.range N)with
     | inl acc=>rfl
     | inr r =>
      simp only[outS];rw[hq.2 r hr]
    .have hj':j<N:=by simpa using hj
     rw[List.getElem_range];obtain⟨hI1,hI2⟩:=hI;have hjl:j*cZ_ l+cZ_ l<=32*cZ_ l:=by
      have:(j+1)*cZ_ l<=32*cZ_ l:=Nat.mul_le_mul_right _ (by omega)
      rwa [Nat.succ_mul]at this
     have e1:(j+1)*ae_ l=j*ae_ l+ae_ l:=Nat.succ_mul _ _;have e1c:(j+1)*cZ_ l=j*cZ_ l+cZ_ l:=Nat.succ_mul _ _;have hjj:=hju j hj';have hc5:seen.length+(1+32*cZ_ l)<=1073741824:=h5;have hatL:(32*i+j)*ae_ l<=2097152:=by
      have h7:=hcov j hj';rw[hat j];omega
     have hrec:=fun(h8:(32*i+j)*ae_ l<hi) (h9:lo<(32*i+j)*ae_ l+ae_ l)=>part_eq hs k hL h1 h2 l n (sc:=((blk s sc 2).1.drop (32*j)).take 32) (i:=32*i+j) (seen:=seen++acc.2) (by omega) (by omega) h8 h9 (by rw[qLa];omega)
     obtain⟨r1,r2⟩:=nt_ hs k l (((blk s sc 2).1.drop (32*j)).take 32) (ax_ (ae_ l) len j) (min (min (lo-i*ae_ (l+1)) len-j*ae_ l) (ax_ (ae_ l) len j)) (min (min (hi-i*ae_ (l+1)) len-j*ae_ l) (ax_ (ae_ l) len j));have hwj:w64 (w64 ((i:Int)*32)+(j:Int))=((32*i+j:Nat):Int):=by
      rw[ap_ (n:=(i:Int)*32) ⟨by omega,by omega⟩,ap_ ⟨by omega,by omega⟩];omega
     have hwat:w64 (((32*i+j:Nat):Int)*((ae_ l:Nat):Int))=(((32*i+j)*ae_ l:Nat):Int):=by
      rw[←Int.natCast_mul,ap_ ⟨by omega,by omega⟩]
     constructor
     .unfold dC_;have hquo:IntKind.i64.wrap (((blk s sc 2).1.length:Int).tdiv 32)=((N:Nat):Int):=by
       rw[h6,Int.tdiv_eq_ediv_of_nonneg (by omega),eN_ ⟨by omega,by omega⟩];omega
      refine ah_ (by simp only[hquo,qDe];omega) ?_;simp only[el,hwj];have hskipB:∀X:Option (Out (Str×Int×List Yk×List Str) (Str×Int×Xg)),((ct_ (l:Int)).bind λ y11=>Option.bind (bif decide (w64 (((32*i+j:Nat):Int)*y11)>=(hi:Int))then some true else(ct_ (l:Int)).bind λ y12=>some (decide (w64 (w64 (((32*i+j:Nat):Int)*y11)+y12)<=(lo:Int)))) fun(y13:Bool)=>bif y13 then some (Out.fall (acc.1,s.Ya,s.Xd,seen++acc.2))else X)=if hi<=(32*i+j)*ae_ l\/(32*i+j)*ae_ l+ae_ l<=lo then some (Out.fall (acc.1,s.Ya,s.Xd,seen++acc.2))else X:=λ X=>by
       refine aa_ (sG_ (by omega)) ?_;rw[hwat,sG_ (by omega)];have e7:w64 ((((32*i+j)*ae_ l:Nat):Int)+((ae_ l:Nat):Int))=(((32*i+j)*ae_ l+ae_ l:Nat):Int):=by rw[ap_ ⟨by omega,by omega⟩];omega
       simp only[qBs,e7];by_cases h8:hi<=(32*i+j)*ae_ l
       .rw[if_pos (.inl h8)];exact aa_ (a:=true) (ah_ (by simp only[qDe];omega) rfl) rfl
       .by_cases h9:(32*i+j)*ae_ l+ae_ l<=lo
        .rw[if_pos (.inr h9)];exact aa_ (a:=true) (ac_ (by simp only[qDf];omega) (by congr 1;simp only[qDe];omega)) rfl
        .rw[if_neg (by omega)];exact aa_ (a:=false) (ac_ (by simp only[qDf];omega) (by congr 1;simp only[qDf];omega)) rfl
      rw[hskipB];unfold fRd;rw[hab j hj' hi,hab j hj' lo];by_cases hsk:min (hi-(32*i+j)*ae_ l) (ax_ (ae_ l) L (32*i+j))<=min (lo-(32*i+j)*ae_ l) (ax_ (ae_ l) L (32*i+j))
      .rw[if_pos ((hskip j hj').1 hsk)];rw[hsub j hj',if_pos hsk];show some (Step.next (acc.1,w64 ((j:Int)+1),s.Ya,s.Xd,seen++acc.2))=_;rw[au_ (by omega)];rfl
      .have hsk':=λ h=>hsk ((hskip j hj').2 h)
       rw[if_neg hsk'];rw[hsub j hj',if_neg hsk];have es:w64 ((j:Int)*32)=((32*j:Nat):Int):=by rw[ap_ ⟨by omega,by omega⟩];omega
       have es2:w64 (w64 ((j:Int)+1)*32)=((32*j+32:Nat):Int):=by rw[au_ (by omega),ap_ ⟨by omega,by omega⟩];omega
       have hsubI:bz_ (blk s sc 2).1 (w64 ((j:Int)*32)) (w64 (w64 ((j:Int)+1)*32))=some (((blk s sc 2).1.drop (32*j)).take 32):=by
        rw[es,es2,cf_ (by omega) (by omega) (by omega),qTn,qTn,List.drop_take,Nat.add_sub_cancel_left]
       have hr:=hrec (Nat.lt_of_not_le λ h=>hsk' (.inl h)) (Nat.lt_of_not_le λ h=>hsk' (.inr h));have hrr:le_ s k l (((blk s sc 2).1.drop (32*j)).take 32) L lo hi (32*i+j)=rdF s k l (((blk s sc 2).1.drop (32*j)).take 32) (ax_ (ae_ l) L (32*i+j)) (min (lo-(32*i+j)*ae_ l) (ax_ (ae_ l) L (32*i+j))) (min (hi-(32*i+j)*ae_ l) (ax_ (ae_ l) L (32*i+j))):=rfl;rw[hrr]at hr;rw[hab j hj' hi,hab j hj' lo,hsub j hj']at r1 r2;generalize rdF s k l (((blk s sc 2).1.drop (32*j)).take 32) (ax_ (ae_ l) L (32*i+j)) (min (lo-(32*i+j)*ae_ l) (ax_ (ae_ l) L (32*i+j))) (min (hi-(32*i+j)*ae_ l) (ax_ (ae_ l) L (32*i+j)))=r at *
       by_cases he:r.2.2=0
       .simp only[if_pos he];refine aa_ (a:=Out.fall (acc.1++r.1,s.Ya,s.Xd,seen++(acc.2++r.2.1))) (aa_ hsubI (aa_ hr (ac_ (by simp[he]) (aa_ (cy_ ?_) ?_)))) ?_
        .show acc.1.length+r.1.length<=_;omega
        .rw[List.append_assoc]
        .show some (Step.next (acc.1++r.1,w64 ((j:Int)+1),s.Ya,s.Xd,seen++(acc.2++r.2.1)))=_;rw[au_ (by omega)];rfl
       .simp only[if_neg he];refine aa_ (a:=Out.ret ([],r.2.2,Xg.mk s (seen++(acc.2++r.2.1)))) (aa_ hsubI (aa_ hr (ah_ (by simp[he]) ?_))) rfl;rw[List.append_assoc]
     .intro s' he;unfold fRd at he;split at he
      .obtain rfl:=Sum.inl.inj he;omega
      .simp only at he;split at he
       .obtain rfl:=Sum.inl.inj he;simp only[qLa];omega
       .cases he
    .have hquo:IntKind.i64.wrap (((blk s sc 2).1.length:Int).tdiv 32)=((N:Nat):Int):=by
      rw[h6,Int.tdiv_eq_ediv_of_nonneg (by omega),eN_ ⟨by omega,by omega⟩];omega
     unfold dC_;refine ac_ ?_ rfl;simp only[hquo,List.length_range,qDf];omega
   .rw[if_neg h6];refine ah_ ?_ rfl;simp only[bne_iff_ne,ne_eq];omega
  .simp only[if_neg h];refine ah_ (by simp[h]) ?_;rw[List.append_nil]
def f8_(r:Xp):Bool:=(((r.Yq.length:Int)==32)&&decide (r.Xi>=0))&&decide (r.Xi<=1048576)&&(r.Yi==((hN (nP r.Xi.toNat):Nat):Int))
theorem valid_eq(r:Xp):ij_ r=some (f8_ r):=by
 unfold ij_ f8_;cases h:(((r.Yq.length:Int)==32)&&decide (r.Xi>=0))&&decide (r.Xi<=1048576)with
 | false=>rfl
 | true =>
  simp only[qAn,qDe]at h;refine aa_ (a:=(r.Yi==((hN (nP r.Xi.toNat):Nat):Int))) (ah_ rfl ?_) rfl;have e:r.Xi=((r.Xi.toNat:Nat):Int):=by omega
  have hh:=height_eq (n:=r.Xi.toNat) (by omega);rw[←e]at hh;exact aa_ hh rfl
theorem m0_(r:Xp):h1_ r=some (f8_ r):=by
 unfold h1_ f8_;cases h:(((r.Yq.length:Int)==32)&&decide (r.Xi>=0))&&decide (r.Xi<=1048576)with
 | false=>rfl
 | true =>
  simp only[qAn,qDe]at h;refine aa_ (a:=(r.Yi==((hN (nP r.Xi.toNat):Nat):Int))) (ah_ rfl ?_) rfl;have e:r.Xi=((r.Xi.toNat:Nat):Int):=by omega
  have hh:=levels_ref (n:=r.Xi.toNat) (by omega);rw[←e]at hh;exact aa_ hh rfl
theorem uc_{r:Xp}(h:f8_ r=true):∃n:Nat,r.Xi=(n:Int)/\n<=1048576/\r.Yi=((hN (nP n):Nat):Int)/\r.Yq.length=32:=by
 unfold f8_ at h;simp only[qAn,qDe,beq_iff_eq]at h;exact⟨r.Xi.toNat,by omega,by omega,h.2,by omega⟩
def aB_(s:Xj)(k:Int)(r:Xp):Rd:=if f8_ r then rdF s k (hN (nP r.Xi.toNat)) r.Yq r.Xi.toNat 0 r.Xi.toNat else([],[],2)
theorem hN_zero:hN (nP 0)=0:=by decide
theorem top_size{n:Nat}(hn:n<=1048576):ax_ (ae_ (hN (nP n))) n 0=n:=by
 have:n<=ae_ (hN (nP n)):=by
  unfold hN nP;split
  .show n<=1024;omega
  .split
   .show n<=32768;omega
   .exact hn
 unfold ax_;omega
theorem contents_eq{s:Xj}(hs:StOK s)(k:Int)(r:Xp){seen:List Str}(hn:seen.length<=1073000000) :
  de_ (Xg.mk s seen) r k=some ((aB_ s k r).1,(aB_ s k r).2.2,Xg.mk s (seen++(aB_ s k r).2.1)):=by
 unfold de_ aB_;refine aa_ (valid_eq r) ?_;by_cases hr:f8_ r=true
 .rw [hr,if_pos rfl];obtain⟨n,e1,e2,e3,e4⟩:=uc_ hr;refine ac_ rfl ?_;have hl2:=hN_le (nP n);by_cases hz:n=0
  .subst hz;have hq:rdF s k (hN (nP r.Xi.toNat)) r.Yq r.Xi.toNat 0 r.Xi.toNat=rdF s k 0 r.Yq 0 0 0:=by rw[e1,qTn,hN_zero]
   refine ah_ (by rw[e1];rfl) ?_;rw[hq];unfold rdF;refine aa_ (e6_ hs r.Yq k (by omega)) ?_;by_cases h:(blk s r.Yq k).2=0
   .simp only[if_pos h];by_cases h6:(blk s r.Yq k).1.length=0
    .rw[if_pos h6];have h7:(blk s r.Yq k).1=[]:=List.length_eq_zero_iff.1 h6;refine aa_ (a:=0) (ac_ (by rw[h7];rfl) rfl) ?_;rw[h7];rfl
    .rw[if_neg h6];refine aa_ (a:=2) (ah_ ?_ rfl) rfl;have h7:(blk s r.Yq k).1≠[]:=λ e=>h6 (by rw[e];rfl)
     simp[h7]
   .simp only[if_neg h];refine aa_ (a:=(blk s r.Yq k).2) (ac_ (by simp) rfl) ?_;rw[List.append_nil]
  .refine ac_ (by rw[e1];simp;omega) ?_;rw[e1,e3,qTn];have hc:=cntN_le hl2;have h:=part_eq hs k (L:=n) (lo:=0) (hi:=n) e2 (by omega) (Nat.le_refl _) (hN (nP n)) BIG (sc:=r.Yq) (i:=0) (seen:=seen) hl2 (bQ_ (by omega)) (by omega) (by have:=ld_ (hN (nP n));omega) (by omega);have hp:le_ s k (hN (nP n)) r.Yq n 0 n 0=rdF s k (hN (nP n)) r.Yq n 0 n:=by
    unfold le_;rw[top_size e2];simp
   rw[hp]at h;exact aa_ h rfl
 .rw[if_neg hr];have:f8_ r=false:=by simpa using hr
  rw[this];refine ah_ rfl ?_;rw[List.append_nil]
theorem nu_{s:Xj}(hs:StOK s){k:Int}(hk:0<=k/\k<256)(r:Xp):do_ s k r=some ((aB_ s k r).1,(aB_ s k r).2.2):=by
 unfold do_ aB_;refine aa_ (m0_ r) ?_;by_cases hr:f8_ r=true
 .rw[hr,if_pos rfl];obtain⟨n,e1,e2,e3,e4⟩:=uc_ hr;have hl2:=hN_le (nP n);refine ac_ rfl ?_;rw[e1,e3,qTn];exact aa_ (rV_ hs hk true (hN (nP n)) BIG (len:=n) (a:=0) (b:=n) hl2 (bQ_ (by omega)) e2 (Nat.zero_le _) (Nat.le_refl _) λ _=>⟨rfl,rfl⟩) rfl
 .rw[if_neg hr];have:f8_ r=false:=by simpa using hr
  rw[this];exact ah_ rfl rfl
theorem blk_found{u:Xj}{k:Int}{p:Str}(h:cW_ u (cr_ k p)=some (mk k p)):blk u (cr_ k p) k=(p,0):=by
 have:getB u (cr_ k p) k=(p,0):=by
  unfold getB;rw[h];simp[mk]
 unfold blk;rw[this];rfl
theorem blk_some{u:Xj}{sc:Str}{k:Int}(h:(blk u sc k).2=0):∃b,cW_ u sc=some b:=by
 cases hf:cW_ u sc with
 | some b=>exact⟨b,rfl⟩
 | none =>
  have hg:getB u sc k=([],35):=by unfold getB;rw[hf]
  unfold blk at h;rw[hg]at h;cases h
theorem StLe.blk{s t:Xj}(h:StLe s t){sc:Str}{k:Int}(hb:(blk s sc k).2=0):blk t sc k=blk s sc k:=by
 obtain⟨b,hf⟩:=blk_some hb;have hf':=h.find hf;have:getB t sc k=getB s sc k:=by
  unfold getB;rw[hf,hf']
 unfold Go.Proofs.YtebokaoegomboaaGreatDoor.blk;rw[this]
def f9_(u:Nat)(d:Str)(i:Nat):Str:=(d.drop (i*u)).take u
def Sto(u:Xj)(k:Int):Nat->Str->Str->Prop | 0,sc,d=>d.length<=1024/\blk u sc k=(d,0)|l+1,sc,d=>∃scs:List Str,all32 scs/\scs.length=(d.length+ae_ l-1)/ae_ l/\blk u sc 2=(scs.flatten,0)/\∀(i:Nat) (h:i<scs.length),Sto u k l scs[i] (f9_ (ae_ l) d i)
theorem Sto.le{s t:Xj}{k:Int}(hle:StLe s t):∀{l:Nat} {sc d:Str},Sto s k l sc d->Sto t k l sc d
 | 0,sc,d,h=>⟨h.1,by rw[hle.blk (by rw[h.2])];exact h.2⟩
 | l+1,sc,d,⟨scs,h1,h2,h3,h4⟩=>⟨scs,h1,h2,by rw[hle.blk (by rw[h3])];exact h3,λ i hi=>Sto.le hle (h4 i hi)⟩
structure Lev(u:Xj)(k:Int)(l:Nat)(d:Str)(scs:List Str):Prop where
 a32:all32 scs
 len:scs.length=max 1 ((d.length+ae_ l-1)/ae_ l)
 sto:∀(i:Nat) (h:i<scs.length),Sto u k l scs[i] (f9_ (ae_ l) d i)
theorem Lev.one{u:Xj}{k:Int}{l:Nat}{d:Str}{scs:List Str}(h:Lev u k l d scs)(h1:scs.length=1):Sto u k l (scs.getLastD []) d:=by
 obtain⟨x,rfl⟩:=List.length_eq_one_iff.1 h1;have h2:=h.sto 0 (by simp);have hl:=h.len;have hu1:=ld_ l;have h3:d.length<=ae_ l:=by
  rcases Nat.lt_or_ge (ae_ l) d.length with h'|h'
  .have:2<=(d.length+ae_ l-1)/ae_ l:=(Nat.le_div_iff_mul_le (by omega)).2 (by omega);simp at hl;omega
  .exact h'
 have e:f9_ (ae_ l) d 0=d:=by
  unfold f9_;rw[Nat.zero_mul,List.drop_zero,List.take_of_length_le h3]
 rw[e]at h2;exact h2
theorem lev_zero{s:Xj}{k:Int}(hk:1<=k/\k<=4)(hs:StOK s){d:Str}(he:(aD_ k s (pieces d)).2.2=0):Lev (aD_ k s (pieces d)).1 k 0 d (aD_ k s (pieces d)).2.1:=by
 obtain⟨_,_,h3⟩:=hz_ hk (ps:=pieces d) hs;obtain⟨l1,l2⟩:=kt_ hk hs he;obtain⟨h4,h5⟩:=h3 he;refine⟨l2,by rw[l1,dH_];rfl,λ i hi => ?_⟩;have hi':i<(pieces d).length:=by rw[←l1];exact hi
 have e1:(aD_ k s (pieces d)).2.1[i]=cr_ k (pieces d)[i]:=by simp[h4]
 obtain⟨p1,p2⟩:=h5 (pieces d)[i] (List.getElem_mem hi');rw[e1];have e2:f9_ (ae_ 0) d i=(pieces d)[i]:=by
  rw[ua_];unfold f9_ piece;rw[show ae_ 0=1024 from rfl,Nat.mul_comm]
 rw[e2];exact⟨p1,blk_found p2⟩
theorem lev_next{s:Xj}{k:Int}{l:Nat}{d:Str}{scs:List Str}(hs:StOK s)(h:Lev s k l d scs)(h1:1<scs.length)(he:(aD_ 2 s (pieces scs.flatten)).2.2=0):Lev (aD_ 2 s (pieces scs.flatten)).1 k (l+1) d (aD_ 2 s (pieces scs.flatten)).2.1:=by
 obtain⟨_,hle,h3⟩:=hz_ (k:=2) (by omega) (ps:=pieces scs.flatten) hs;obtain⟨l1,l2⟩:=kt_ (k:=2) (by omega) hs he;obtain⟨h4,h5⟩:=h3 he;have hu1:=ld_ l;have hus:=pv_ l;have hpl:(pieces scs.flatten).length=nP (32*scs.length):=by rw[dH_,l8_ h.a32]
 have hlen:=h.len;generalize hq:(d.length+ae_ l-1)/ae_ l=q at hlen;have hq1:q*ae_ l<=d.length+ae_ l-1:=by rw[←hq];exact Nat.div_mul_le_self _ _
 have hq2:d.length<=q*ae_ l:=by
  have h5:=Nat.div_add_mod (d.length+ae_ l-1) (ae_ l);have h6:=Nat.mod_lt (d.length+ae_ l-1) (show ae_ l>0 by omega);rw[hq,Nat.mul_comm]at h5;omega
 have hq3:scs.length=q:=by omega
 have hup:(d.length+ae_ (l+1)-1)/ae_ (l+1)=(q+31)/32:=by
  rw[hus];refine Nat.div_eq_of_lt_le ?_ ?_
  .have:(q+31)/32*32<=q+31:=Nat.div_mul_le_self _ _;have h6:(q+31)/32*32*ae_ l<=(q+31)*ae_ l:=Nat.mul_le_mul_right _ this;rw[Nat.mul_assoc]at h6;have h7:(q+31)*ae_ l=q*ae_ l+31*ae_ l:=Nat.add_mul _ _ _;omega
  .have:q<((q+31)/32+1)*32:=by omega
   have h6:(q+1)*ae_ l<=((q+31)/32+1)*32*ae_ l:=Nat.mul_le_mul_right _ (by omega);have h8:q<=(q+31)/32*32:=by omega
   have h9:q*ae_ l<=(q+31)/32*32*ae_ l:=Nat.mul_le_mul_right _ h8;have h10:((q+31)/32+1)*(32*ae_ l)=(q+31)/32*32*ae_ l+32*ae_ l:=by rw[Nat.succ_mul,Nat.mul_assoc]
   omega
 refine⟨l2,?_,λ i hi => ?_⟩
 .rw[l1,hpl,hup,hq3];unfold nP;omega
 .have hi':i<(pieces scs.flatten).length:=by rw[←l1];exact hi
  have hi2:32*i<scs.length:=by
   rw[hpl]at hi';unfold nP at hi';omega
  have e1:(aD_ 2 s (pieces scs.flatten)).2.1[i]=cr_ 2 (pieces scs.flatten)[i]:=by simp[h4]
  obtain⟨p1,p2⟩:=h5 (pieces scs.flatten)[i] (List.getElem_mem hi');rw[e1];have e2:(pieces scs.flatten)[i]=((scs.drop (32*i)).take 32).flatten:=by rw[ua_,piece32 h.a32]
  have hcl:(f9_ (ae_ (l+1)) d i).length=min (ae_ (l+1)) (d.length-i*ae_ (l+1)):=by simp[f9_]
  have hgl:((scs.drop (32*i)).take 32).length=min 32 (q-32*i):=by simp[hq3]
  have hiu:i*ae_ (l+1)=32*i*ae_ l:=by rw[hus,←Nat.mul_assoc,Nat.mul_comm i 32]
  refine⟨(scs.drop (32*i)).take 32,λ x hx=>h.a32 x (List.mem_of_mem_drop (List.mem_of_mem_take hx)),?_,?_,λ j hj => ?_⟩
  .rw[hgl,hcl,hiu,hus]
   -- ceil of a piece
   symm;have hqi:q*ae_ l=(q-32*i)*ae_ l+32*i*ae_ l:=by rw[←Nat.add_mul];congr 1;omega
   rcases Nat.le_total 32 (q-32*i)with h'|h'
   .rw[Nat.min_eq_left h'];have h6:32*ae_ l<=(q-32*i)*ae_ l:=Nat.mul_le_mul_right _ h';have h7:31*ae_ l<d.length-32*i*ae_ l:=by
     have:(q-32*i)*ae_ l+ae_ l>=32*ae_ l+ae_ l:=by omega
     omega
    have h33:(32+1)*ae_ l=32*ae_ l+ae_ l:=by omega
    refine Nat.div_eq_of_lt_le ?_ ?_
    .omega
    .rw[h33];omega
   .rw[Nat.min_eq_right h'];have h6:(q-32*i)*ae_ l<=32*ae_ l:=Nat.mul_le_mul_right _ h';have h33:(q-32*i+1)*ae_ l=(q-32*i)*ae_ l+ae_ l:=Nat.succ_mul _ _;refine Nat.div_eq_of_lt_le ?_ ?_
    .omega
    .rw[h33];omega
  .rw[←e2];exact blk_found p2
  .have hj2:j<32:=by rw[hgl]at hj;omega
   have hj3:32*i+j<scs.length:=by rw[hgl]at hj;omega
   have e3:((scs.drop (32*i)).take 32)[j]=scs[32*i+j]:=by simp
   rw[e3];have e4:f9_ (ae_ l) (f9_ (ae_ (l+1)) d i) j=f9_ (ae_ l) d (32*i+j):=by
    have hju:j*ae_ l+ae_ l<=32*ae_ l:=by
     have:(j+1)*ae_ l<=32*ae_ l:=Nat.mul_le_mul_right _ (by omega)
     rwa [Nat.succ_mul]at this
    unfold f9_;rw[List.drop_take,List.take_take,List.drop_drop,hiu,Nat.add_mul,hus,Nat.min_eq_left (by omega)]
   rw[e4];exact(h.sto (32*i+j) hj3).le hle
theorem up_sto{k:Int}{d:Str}:∀(f:Nat) {s:Xj} {l:Nat} {scs:List Str},StOK s->Lev s k l d scs->1<scs.length->(upF f 2 s (pieces scs.flatten)).err=0->∃n:Nat,(upF f 2 s (pieces scs.flatten)).levels=(n:Int)/\Sto (upF f 2 s (pieces scs.flatten)).store k (l+1+n) (upF f 2 s (pieces scs.flatten)).score d
 | 0,s,l,scs,_,_,_,h=>by simp[upF]at h
 | f+1,s,l,scs,hs,hl,h1,h=>by
  unfold upF at h ⊢;split at h
  .rename_i he;rw[if_pos he];have hn:=lev_next hs hl h1 he;obtain⟨l1,l2⟩:=kt_ (k:=2) (by omega) hs he;obtain⟨ok1,_,_⟩:=hz_ (k:=2) (by omega) (ps:=pieces scs.flatten) hs;split at h
   .rename_i h2;rw[if_pos h2];exact⟨0,rfl,hn.one (l1.trans h2)⟩
   .rename_i h2;rw[if_neg h2];have hge:1<=(pieces scs.flatten).length:=by rw[dH_];exact Nat.le_max_left _ _
    obtain⟨n,e1,e2⟩:=up_sto f ok1 hn (by omega) h;refine⟨n+1,by simp only[e1];rfl,?_⟩;rw[show l+1+(n+1)=l+1+1+n by omega];exact e2
  .rename_i he;exact absurd h he
theorem put_sto{s:Xj}{k:Int}{d:Str}(hk:1<=k/\k<=4)(hs:StOK s)(hd:d.length<=1048576)(he:(putS s k d).err=0):Sto (putS s k d).store k (hN (nP d.length)) (putS s k d).score d:=by
 obtain⟨n1,n2⟩:=nP_le hd;have hlev:=ub_ 3 hk hs he (by rw[dH_];exact n1) (by rw[dH_];exact n2);rw[dH_]at hlev;unfold putS at he ⊢;have hz:(aD_ k s (pieces d)).2.2=0:=by
  rcases Decidable.em ((aD_ k s (pieces d)).2.2=0)with h|h
  .exact h
  .unfold upF at he;rw[if_neg h]at he;exact absurd he h
 have h0:=lev_zero hk hs hz;obtain⟨l1,l2⟩:=kt_ hk hs hz;obtain⟨ok1,_,_⟩:=hz_ hk (ps:=pieces d) hs;by_cases h1:(pieces d).length=1
 .have hu:upF 3 k s (pieces d)=⟨(aD_ k s (pieces d)).1,(aD_ k s (pieces d)).2.1.getLastD [],0,0⟩:=by unfold upF;rw[if_pos hz,if_pos h1]
  rw[hu]at hlev ⊢;have:hN (nP d.length)=0:=by
   simp only at hlev;omega
  rw[this];exact h0.one (l1.trans h1)
 .have hu:upF 3 k s (pieces d)=⟨(upF 2 2 (aD_ k s (pieces d)).1 (pieces (aD_ k s (pieces d)).2.1.flatten)).store,(upF 2 2 (aD_ k s (pieces d)).1 (pieces (aD_ k s (pieces d)).2.1.flatten)).score,(upF 2 2 (aD_ k s (pieces d)).1 (pieces (aD_ k s (pieces d)).2.1.flatten)).levels+1,(upF 2 2 (aD_ k s (pieces d)).1 (pieces (aD_ k s (pieces d)).2.1.flatten)).err⟩:=by
   rw[upF,if_pos hz,if_neg h1]
  rw[hu]at hlev he ⊢;simp only at hlev he ⊢;have hge:1<=(pieces d).length:=by rw[dH_];exact n1
  obtain⟨n,e1,e2⟩:=up_sto 2 ok1 h0 (by omega) he;have:hN (nP d.length)=0+1+n:=by
   rw[e1]at hlev;omega
  rw[this];exact e2
theorem sto_score{u:Xj}(hu:StOK u){k:Int}:∀{l:Nat} {sc d:Str},Sto u k l sc d->sc.length=32:=by
 intro l sc d h;have hb:∃k',(blk u sc k').2=0:=by
  cases l with
  | zero=>exact⟨k,by rw[h.2]⟩
  | succ l =>
   obtain⟨scs,_,_,h3,_⟩:=h;exact⟨2,by rw[h3]⟩
 obtain⟨k',hb⟩:=hb;obtain⟨b,hf⟩:=blk_some hb;obtain⟨h1,h2⟩:=l7_ hf;rw[←h2];exact(hu.all b h1).2.2.2
def encE(n:Xq)(r:Xp):Str:=leB n.Id_ 4++leB n.Xw 4++leB n.Xo 4++leB n.Xv 4++leB n.Xu 8++leB n.Xa 8++bY_ n.Xy++bY_ n.Yw++bY_ n.Yv++bY_ n.Yg++leB r.Xi 4++leB r.Yi 1++r.Yq
structure EntOK(n:Xq)(r:Xp):Prop where
 id:0<=n.Id_/\n.Id_<4294967296
 par:0<=n.Xw/\n.Xw<4294967296
 vers:0<=n.Xo/\n.Xo<4294967296
 mode:0<=n.Xv/\n.Xv<4294967296
 atime:0<=n.Xu
 mtime:0<=n.Xa
 name:n.Xy.length<=64
 uid:n.Yw.length<=64
 gid:n.Yv.length<=64
 muid:n.Yg.length<=64
 len:0<=r.Xi/\r.Xi<4294967296
 lev:0<=r.Yi/\r.Yi<256
 score:r.Yq.length=32
theorem m1_{n:Xq}{r:Xp}(h:EntOK n r):(encE n r).length<=333/\77<=(encE n r).length:=by
 have h1:=h.name;have h2:=h.uid;have h3:=h.gid;have h4:=h.muid;have h5:=h.score;simp only[encE,qLa,dv_,fK_];omega
theorem pw_{n:Int}{w:Nat}(h1:1<=w)(h8:w<=8)(h0:0<=n)(hn:w<8->n<2^(8*w)){s:Str}(hs:s.length<=1000000):bw_ n (w:Int) s=some (s++leB n w):=by
 unfold bw_;exact aa_ (jM_ n w h1 h8 h0 hn) (aa_ (cy_ (by rw[dv_];omega)) rfl)
theorem encode_eq{n:Xq}{r:Xp}(h:EntOK n r):ep_ (Xr.mk n r)=some (encE n r):=by
 unfold ep_;have hn:=h.name;have hu:=h.uid;have hg:=h.gid;have hm:=h.muid;have hsc:=h.score;have e4:∀{x:Int},0<=x/\x<4294967296->∀{s:Str},s.length<=1000000->bw_ x 4 s=some (s++leB x 4):=λ hx _ hs=>pw_ (w:=4) (by omega) (by omega) hx.1 (λ _=>by show _<(4294967296:Int);exact hx.2) hs
 have e8:∀{x:Int},0<=x->∀{s:Str},s.length<=1000000->bw_ x 8 s=some (s++leB x 8):=λ hx _ hs=>pw_ (w:=8) (by omega) (by omega) hx (λ h=>by omega) hs
 have e1:∀{x:Int},0<=x/\x<256->∀{s:Str},s.length<=1000000->bw_ x 1 s=some (s++leB x 1):=λ hx _ hs=>pw_ (w:=1) (by omega) (by omega) hx.1 (λ _=>by show _<(256:Int);exact hx.2) hs
 refine aa_ (a:=leB n.Id_ 4++leB n.Xw 4++leB n.Xo 4++leB n.Xv 4) ?_ ?_
 .refine bd_ (T:=λ i=>((i:Int),(match i with | 0=>[] | 1=>leB n.Id_ 4 | 2=>leB n.Id_ 4++leB n.Xw 4 | 3=>leB n.Id_ 4++leB n.Xw 4++leB n.Xo 4|_=>leB n.Id_ 4++leB n.Xw 4++leB n.Xo 4++leB n.Xv 4),[n.Id_,n.Xw,n.Xo,n.Xv])) 4 (by decide) (λ i hi => ?_) ?_
  .unfold hG_;have:i=0\/i=1\/i=2\/i=3:=by omega
   rcases this with rfl|rfl|rfl|rfl
   .exact ah_ rfl (aa_ (a:=n.Id_) rfl (aa_ (e4 h.id (by simp)) rfl))
   .exact ah_ rfl (aa_ (a:=n.Xw) rfl (aa_ (e4 h.par (by simp[dv_])) rfl))
   .exact ah_ rfl (aa_ (a:=n.Xo) rfl (aa_ (e4 h.vers (by simp[dv_])) rfl))
   .exact ah_ rfl (aa_ (a:=n.Xv) rfl (aa_ (e4 h.mode (by simp[dv_])) rfl))
  .unfold hG_;exact ac_ rfl rfl
 refine aa_ (e8 h.atime (by simp[dv_])) (aa_ (e8 h.mtime (by simp[dv_])) ?_);generalize hpre:leB n.Id_ 4++leB n.Xw 4++leB n.Xo 4++leB n.Xv 4++leB n.Xu 8++leB n.Xa 8=pre;have hpl:pre.length=32:=by rw[←hpre];simp[dv_]
 refine aa_ (a:=pre++bY_ n.Xy++bY_ n.Yw++bY_ n.Yv++bY_ n.Yg) ?_ ?_
 .refine bd_ (T:=λ i=>((i:Int),(match i with | 0=>pre | 1=>pre++bY_ n.Xy | 2=>pre++bY_ n.Xy++bY_ n.Yw | 3=>pre++bY_ n.Xy++bY_ n.Yw++bY_ n.Yv|_=>pre++bY_ n.Xy++bY_ n.Yw++bY_ n.Yv++bY_ n.Yg),[n.Xy,n.Yw,n.Yv,n.Yg])) 4 (by decide) (λ i hi => ?_) ?_
  .unfold hH_;have:i=0\/i=1\/i=2\/i=3:=by omega
   have t:∀{s:Str},s.length<=64->f2_ s=some (bY_ s,0):=λ hs=>text_put _ (by omega)
   rcases this with rfl|rfl|rfl|rfl
   .exact ah_ rfl (aa_ (a:=n.Xy) rfl (aa_ (t hn) (aa_ (cy_ (by show pre.length+(bY_ n.Xy).length<=_;simp[fK_];omega)) rfl)))
   .exact ah_ rfl (aa_ (a:=n.Yw) rfl (aa_ (t hu) (aa_ (cy_ (by show(pre++bY_ n.Xy).length+(bY_ n.Yw).length<=_;simp[fK_];omega)) rfl)))
   .exact ah_ rfl (aa_ (a:=n.Yv) rfl (aa_ (t hg) (aa_ (cy_ (by show(pre++bY_ n.Xy++bY_ n.Yw).length+(bY_ n.Yv).length<=_;simp[fK_];omega)) rfl)))
   .exact ah_ rfl (aa_ (a:=n.Yg) rfl (aa_ (t hm) (aa_ (cy_ (by show(pre++bY_ n.Xy++bY_ n.Yw++bY_ n.Yv).length+(bY_ n.Yg).length<=_;simp[fK_];omega)) rfl)))
  .unfold hH_;exact ac_ rfl rfl
 refine aa_ (e4 h.len (by simp[fK_];omega)) (aa_ (e1 h.lev (by simp[fK_,dv_];omega)) (aa_ (cy_ (by simp[fK_,dv_];omega)) ?_));rw[←hpre];rfl
theorem px_{n:Xq}(h:aM_ n=true):aI_ n.Xv=true/\(0<=n.Xo/\n.Xo<=2147483647)/\(0<=n.Xu/\n.Xu<=1099511627776)/\(0<=n.Xa/\n.Xa<=1099511627776)/\n.Yw.length<=64/\n.Yv.length<=64/\n.Yg.length<=64/\n.Xl.length<=65536/\(an_ n.Xv 31=true->n.Xl=[]):=by
 unfold aM_ at h;simp only[qAn,qDe,Bool.or_eq_true,Bool.not_eq_true',beq_iff_eq]at h;obtain⟨⟨⟨⟨⟨⟨h1,h2⟩,h3⟩,h4⟩,h5⟩,h6⟩,h7⟩:=h;refine⟨h1,h2,h3,h4,?_,?_,?_,?_,λ hd => ?_⟩
 all_goals first|omega|(rcases h7 with h7|h7<;>simp_all)
theorem OkT.name{l:List Xq}{next:Int}(h:OkT l next){n:Xq}(hn:n∈l):n.Xy.length<=64:=by
 by_cases h1:n.Id_=1
 .obtain⟨r,q,rfl,h2,_,h3,_⟩:=h.root;have:n=r:=ok_ h.srt hn List.mem_cons_self (by rw[h1,h2]);rw[this,h3]
  decide
 .have:=h.nam n hn h1;unfold bM_ at this;simp only[qAn,qDe]at this;exact this.1.1.1.2
theorem OkT.parent{l:List Xq}{next:Int}(h:OkT l next){n:Xq}(hn:n∈l):1<=n.Xw/\n.Xw<=n.Id_:=by
 by_cases h1:n.Id_=1
 .obtain⟨r,q,rfl,h2,h4,h3,_⟩:=h.root;have:n=r:=ok_ h.srt hn List.mem_cons_self (by rw[h1,h2]);rw[this,h2,h4]
  decide
 .obtain⟨p,hp,e,hlt,_⟩:=h.par n hn h1;have:=h.ge hp;omega
theorem OkT.ent{l:List Xq}{next:Int}(h:OkT l next){n:Xq}(hn:n∈l){r:Xp}(hr:(0<=r.Xi/\r.Xi<=1048576)/\(0<=r.Yi/\r.Yi<=2)/\r.Yq.length=32):EntOK n r:=by
 obtain⟨_,h2,h3,h4,h5,h6,h7,_,_⟩:=px_ (h.flds n hn);have hi:=h.ge hn;have hx:=h.nxt n hn;have h8:=h.nx2;have hp:=h.parent hn;have hm:=h.mode hn;exact⟨by omega,by omega,by omega,hm,h3.1,h4.1,h.name hn,h5,h6,h7,by omega,by omega,hr.2.2⟩
def finP(s:Xj)(k:Int)(d:Str):Xj×Xp×Int:=if(putS s k d).err=0 then((putS s k d).store,Xp.mk (putS s k d).score (d.length:Int) ((hN (nP d.length):Nat):Int),0)else(s,kU_,(putS s k d).err)
def fPN(l:List Xq)(rec:Xj->Xq->Xj×Xp×Int)(a:Str×Xj)(id:Int):(Str×Xj) ⊕ Int:=if(rec a.2 (ai_ l id).1).2.2=0 then .inl (a.1++encE (ai_ l id).1 (rec a.2 (ai_ l id).1).2.1,(rec a.2 (ai_ l id).1).1)else .inr (rec a.2 (ai_ l id).1).2.2
def d2_(l:List Xq):Nat->Xj->Xq->Xj×Xp×Int | 0,s,_=>(s,kU_,2)|f+1,s,n=>if an_ n.Xv 31 then outS (λ a=>finP a.2 3 a.1) (λ e=>(s,kU_,e)) (bD_ (fPN l (d2_ l f)) ([],s) (cS_ l n.Id_))else finP s 1 n.Xl
def RootF(r:Xp):Prop:=(0<=r.Xi/\r.Xi<=1048576)/\(0<=r.Yi/\r.Yi<=2)/\r.Yq.length=32
theorem finP_ok{s:Xj}{k:Int}{d:Str}(hk:1<=k/\k<=4)(hs:StOK s)(hd:d.length<=1048576):StOK (finP s k d).1/\StLe s (finP s k d).1/\((finP s k d).2.2=0->RootF (finP s k d).2.1):=by
 unfold finP;split
 .rename_i he;obtain⟨h1,h2⟩:=upF_ok 3 hk hs (ps:=pieces d);have h3:=put_sto hk hs hd he;have h4:=sto_score h1 h3;have:=hN_le (nP d.length);exact⟨h1,h2,λ _=>⟨by simp only;omega,by simp only;omega,h4⟩⟩
 .rename_i he;exact⟨hs,StLe.refl s,λ e=>absurd e he⟩
theorem child_of{l:List Xq}{next:Int}(h:OkT l next){id c:Int}(hc:c∈cS_ l id):∃n∈l,n.Id_=c/\n.Xw=id/\n.Id_≠1/\ai_ l c=(n,true)/\id<c:=by
 unfold cS_ at hc;obtain⟨n,hn,rfl⟩:=List.mem_map.1 hc;obtain⟨h1,h2⟩:=List.mem_filter.1 hn;simp only[qAn,beq_iff_eq,bne_iff_ne,ne_eq]at h2;obtain⟨p,_,e,hlt,_⟩:=h.par n h1 h2.2;exact⟨n,h1,rfl,h2.1,h2.2,iI_ h.srt h1,by omega⟩
theorem ud_(l:List Xq)(id:Int):(cS_ l id).length<=l.length:=by
 unfold cS_;rw[List.length_map];exact List.length_filter_le _ _
theorem i6_{α σ ε:Type}{f:σ->α->σ ⊕ ε}(Inv:Nat->σ->Prop)(Q:ε->Prop):∀{xs:List α} {k:Nat} {s0:σ},Inv k s0->(∀i s x,x∈xs->Inv i s->(∀s',f s x = .inl s'->Inv (i+1) s')/\∀e,f s x = .inr e->Q e) ->
  (∀s,bD_ f s0 xs = .inl s->Inv (k+xs.length) s)/\∀e,bD_ f s0 xs = .inr e->Q e
 | [],k,s0,h0,_=>⟨λ s e=>by simp only[bD_,Sum.inl.injEq]at e;subst e;exact h0,λ e h=>by simp[bD_]at h⟩
 | x::l,k,s0,h0,h=>by
  obtain⟨h1,h2⟩:=h k s0 x List.mem_cons_self h0;simp only[bD_];cases hf:f s0 x with
  | inl s' =>
   obtain⟨i1,i2⟩:=i6_ Inv Q (xs:=l) (h1 s' hf) λ i s y hy=>h i s y (List.mem_cons_of_mem _ hy)
   refine⟨λ s e => ?_,i2⟩;have:=i1 s e
   rwa [show k+1+l.length=k+(x::l).length by simp;omega]at this
  | inr e =>
   refine⟨λ s e'=>(by cases e'),λ e' h' => ?_⟩;obtain rfl:=Sum.inr.inj h';exact h2 e hf
theorem ox_{l:List Xq}{next:Int}(h:OkT l next):∀(f:Nat) {s:Xj} {n:Xq},n∈l->StOK s->StOK (d2_ l f s n).1/\StLe s (d2_ l f s n).1/\((d2_ l f s n).2.2=0->RootF (d2_ l f s n).2.1)
 | 0,s,n,_,hs=>⟨hs,StLe.refl s,λ e=>by cases e⟩
 | f + 1,s,n,hn,hs=>by
  have hok:=px_ (h.flds n hn);unfold d2_;split
  .have hr:=i6_ (f:=fPN l (d2_ l f)) (λ i a=>StOK a.2/\StLe s a.2/\a.1.length<=333*i) (λ e=>e≠0) (xs:=cS_ l n.Id_) (k:=0) (s0:=([],s)) ⟨hs,StLe.refl s,by simp⟩ λ i a id hid ⟨a1,a2,a3⟩=>by
    obtain⟨c,hc,_,_,_,hnode,_⟩:=child_of h hid;obtain⟨b1,b2,b3⟩:=ox_ h f (s:=a.2) hc a1;unfold fPN;rw[hnode];simp only;refine⟨λ s' he => ?_,λ e he => ?_⟩
    .split at he
     .rename_i h0;obtain rfl:=Sum.inl.inj he;have:=(m1_ (h.ent hc (b3 h0))).1;refine⟨b1,a2.trans b2,?_⟩;simp only[qLa];omega
     .cases he
    .split at he
     .cases he
     .rename_i h0;obtain rfl:=Sum.inr.inj he;exact h0
   cases hq:bD_ (fPN l (d2_ l f)) ([],s) (cS_ l n.Id_)with
   | inl a =>
    obtain⟨a1,a2,a3⟩:=hr.1 a hq;have:=ud_ l n.Id_;have:=h.len;obtain⟨c1,c2,c3⟩:=finP_ok (s:=a.2) (k:=3) (d:=a.1) (by omega) a1 (by omega);exact⟨c1,a2.trans c2,c3⟩
   | inr e=>exact⟨hs,StLe.refl s,λ h0=>absurd h0 (hr.2 e hq)⟩
  .exact finP_ok (by omega) hs (by omega)
theorem finP_P{s:Xj}{k:Int}{d:Str}(hk:1<=k/\k<=4)(hs:StOK s)(hd:d.length<=1048576):∃q,ek_ s k d=some q/\q.2.2=(finP s k d).2.2/\((finP s k d).2.2=0->q=finP s k d):=by
 obtain⟨q,h1,h2⟩:=putP hk hs hd;refine⟨q,h1,?_⟩;unfold finP;split
 .rename_i he;rw[if_pos he]at h2;exact⟨by rw[h2],λ _=>h2⟩
 .rename_i he;rw[if_neg he]at h2;obtain⟨s',rfl⟩:=h2;exact⟨rfl,λ e=>absurd e he⟩
def bare(n:Xq):Xq:=Xq.mk n.Id_ n.Xw n.Xo n.Xy n.Xv n.Yw n.Yv n.Yg n.Xu n.Xa []
theorem encE_bare(n:Xq)(r:Xp):encE (bare n) r=encE n r:=rfl
theorem EntOK.bare{n:Xq}{r:Xp}(h:EntOK n r):EntOK (bare n) r:=⟨h.id,h.par,h.vers,h.mode,h.atime,h.mtime,h.name,h.uid,h.gid,h.muid,h.len,h.lev,h.score⟩
theorem putNode_P{t:Xk}(h:OkT t.Xz t.Xt):∀(f m:Nat) {s:Xj} {n:Xq},f<=m->n∈t.Xz->(t.Xt-n.Id_).toNat<f->StOK s ->
  ∃q,ci_ m s t n.Id_=some q/\q.2.2=(d2_ t.Xz f s n).2.2/\((d2_ t.Xz f s n).2.2=0->q.1=(d2_ t.Xz f s n).1/\q.2.1=Xr.mk (bare n) (d2_ t.Xz f s n).2.1)
 | 0,_,s,n,_,_,hf,_=>by omega
 | f + 1,m,s,n,hm,hn,hf,hs=>by
  obtain⟨m,rfl⟩:∃m',m=m'+1:=⟨m-1,by omega⟩;have hok:=px_ (h.flds n hn);have hlen:=h.len;show ∃q,cA_ (ci_ m) s t n.Id_=some q/\_;unfold cA_ d2_;have hnode:b0_ t n.Id_=some (n,true):=by rw[cG_ t n.Id_ (by omega),iI_ h.srt hn]
  have hdir:ca_ (bare n)=some (an_ n.Xv 31):=by
   unfold ca_;rw[←iH_ hok.1];rfl
  have fin:∀{s1:Xj} {k:Int} {d:Str},1<=k/\k<=4->StOK s1->d.length<=1048576->∃q,((ek_ s1 k d).bind λ y12=>some ((y12.1,(Xr.mk (bare n) y12.2.1),y12.2.2)))=some q/\q.2.2=(finP s1 k d).2.2/\((finP s1 k d).2.2=0->q.1=(finP s1 k d).1/\q.2.1=Xr.mk (bare n) (finP s1 k d).2.1):=λ hk h1 hd=>by
   obtain⟨q,h2,h3,h4⟩:=finP_P hk h1 hd;exact⟨_,aa_ h2 rfl,h3,λ e=>by rw[h4 e];exact⟨rfl,rfl⟩⟩
  cases hD:an_ n.Xv 31 with
  | false =>
   obtain⟨q,h1,h2⟩:=fin (s1:=s) (k:=1) (d:=n.Xl) (by omega) hs (by omega);rw[hD]at hdir;exact⟨q,aa_ hnode (aa_ (a:=Out.fall (1,n.Xl,s)) (aa_ hdir rfl) h1),h2⟩
  | true =>
   rw[hD]at hdir;have hcl:=ud_ t.Xz n.Id_;have hstep:∀(a:Str×Xj) (id:Int),id∈cS_ t.Xz n.Id_->StOK a.2->∃c∈t.Xz,ai_ t.Xz id=(c,true)/\c.Id_=id/\(t.Xt-c.Id_).toNat<f:=λ a id hid _=>by
    obtain⟨c,hc,e,_,_,hnd,hlt⟩:=child_of h hid;have:=h.nxt c hc;exact⟨c,hc,hnd,e,by omega⟩
   have hlp:=qU_ (body:=cR_ (cS_ t.Xz n.Id_) (ci_ m) t) (cS_ t.Xz n.Id_) (fun(a:Str×Xj) id=>(match fPN t.Xz (d2_ t.Xz f) a id with | .inl a' => .inl a' | .inr e => .inr (a.2,e):(Str×Xj) ⊕ (Xj×Int))) (λ i a=>(a.1,(i:Int),a.2,cS_ t.Xz n.Id_)) (λ i a=>StOK a.2/\a.1.length<=333*i) (λ a=>Out.fall (a.1,a.2)) (λ e=>Out.ret (e.1,(Xr.mk (Xq.mk 0 0 0 [] 0 [] [] [] 0 0 []) (Xp.mk [] 0 0)),e.2)) ([],s) (bQ_ (by omega)) ⟨hs,by simp⟩ (λ i a hi hI => ?_) (λ a hI => ?_)
   .
    have hmap:∀(xs:List Int) (a:Str×Xj),(∀b,bD_ (fPN t.Xz (d2_ t.Xz f)) a xs = .inl b->bD_ (fun(a:Str×Xj) id=>(match fPN t.Xz (d2_ t.Xz f) a id with | .inl a' => .inl a' | .inr e => .inr (a.2,e):(Str×Xj) ⊕ (Xj×Int))) a xs = .inl b)/\(∀e,bD_ (fPN t.Xz (d2_ t.Xz f)) a xs = .inr e->∃s',bD_ (fun(a:Str×Xj) id=>(match fPN t.Xz (d2_ t.Xz f) a id with | .inl a' => .inl a' | .inr e => .inr (a.2,e):(Str×Xj) ⊕ (Xj×Int))) a xs = .inr (s',e)):=λ xs=>by
     induction xs with
     | nil=>exact λ a=>⟨λ b e=>by rw[show a=b from Sum.inl.inj e];rfl,λ e h=>(by cases h)⟩
     | cons x xs ih =>
      intro a;simp only[bD_];cases hf2:fPN t.Xz (d2_ t.Xz f) a x with
      | inl a'=>exact ih a'
      | inr e=>exact⟨λ b h=>(by cases h),λ e' h=>⟨a.2,by rw[Sum.inr.inj h]⟩⟩
    have hinv:=i6_ (f:=fPN t.Xz (d2_ t.Xz f)) (λ i a=>StOK a.2/\a.1.length<=333*i) (λ e=>e≠0) (xs:=cS_ t.Xz n.Id_) (k:=0) (s0:=([],s)) ⟨hs,by simp⟩ λ i a id hid ⟨a1,a3⟩=>by
     obtain⟨c,hc,hnd,_,_⟩:=hstep a id hid a1;obtain⟨b1,b2,b3⟩:=ox_ h f (s:=a.2) hc a1;unfold fPN;rw[hnd];simp only;refine⟨λ s' he => ?_,λ e he => ?_⟩
     .split at he
      .rename_i h0;obtain rfl:=Sum.inl.inj he;have:=(m1_ (h.ent hc (b3 h0))).1;refine⟨b1,?_⟩;simp only[qLa];omega
      .cases he
     .split at he
      .cases he
      .rename_i h0;obtain rfl:=Sum.inr.inj he;exact h0
    cases hq:bD_ (fPN t.Xz (d2_ t.Xz f)) ([],s) (cS_ t.Xz n.Id_)with
    | inl a =>
     rw[(hmap _ _).1 a hq]at hlp;obtain⟨a1,a2⟩:=hinv.1 a hq;obtain⟨q,h1,h2⟩:=fin (s1:=a.2) (k:=3) (d:=a.1) (by omega) a1 (by omega);exact⟨q,aa_ hnode (aa_ (a:=Out.fall (3,a.1,a.2)) (aa_ hdir (ah_ rfl (aa_ (iJ_ t n.Id_ h) (aa_ hlp rfl)))) h1),h2⟩
    | inr e =>
     obtain⟨s',hs'⟩:=(hmap _ _).2 e hq;rw[hs']at hlp;refine⟨_,aa_ hnode (aa_ (a:=Out.ret (s',(Xr.mk (Xq.mk 0 0 0 [] 0 [] [] [] 0 0 []) (Xp.mk [] 0 0)),e)) (aa_ hdir (ah_ rfl (aa_ (iJ_ t n.Id_ h) (aa_ hlp rfl)))) rfl),rfl,λ e0=>absurd e0 (hinv.2 e hq)⟩
   .obtain⟨a1,a2⟩:=hI;have hid:=List.getElem_mem hi;obtain⟨c,hc,hnd,e1,hlt⟩:=hstep a _ hid a1;obtain⟨q,q1,q2,q3⟩:=putNode_P h f m (s:=a.2) (n:=c) (by omega) hc hlt a1;obtain⟨b1,b2,b3⟩:=ox_ h f (s:=a.2) hc a1;rw[e1]at q1;unfold fPN;rw[hnd];simp only;by_cases h0:(d2_ t.Xz f a.2 c).2.2=0
    .rw[if_pos h0];obtain⟨q4,q5⟩:=q3 h0;have hent:=(h.ent hc (b3 h0)).bare;have hel:=(m1_ hent).1;constructor
     .unfold cR_;refine ah_ (br_ hi) (aa_ (as_ hi) (aa_ q1 (ac_ (by rw[q2,h0];rfl) (aa_ (a:=encE c (d2_ t.Xz f a.2 c).2.1) (by rw[q5,encode_eq hent];rfl) (aa_ (cy_ ?_) ?_)))))
      .rw[encE_bare]at hel;show a.1.length+_<=_;omega
      .rw[q4,au_ (by omega)];rfl
     .intro s' he;obtain rfl:=Sum.inl.inj he;rw[encE_bare]at hel;refine⟨b1,?_⟩;simp only[qLa];omega
    .rw[if_neg h0];constructor
     .unfold cR_;refine ah_ (br_ hi) (aa_ (as_ hi) (aa_ q1 (ah_ (by rw[q2];simpa using h0) ?_)));rw[q2];rfl
     .intro s' he;cases he
   .unfold cR_;exact ac_ (bA_ _) rfl
def l9_(t:Xk)(n:Xq)(r:Xp):Str:=leB t.Xt 4++leB (t.Xz.length:Int) 4++encE n r
def fY_(l:List Xq):Xq:=l.headD zeroN
@[irreducible] def putT (l:List Xq) (s:Xj):Xj×Xp×Int:=d2_ l BIG s (fY_ l)
theorem putT_eq(l:List Xq)(s:Xj):d2_ l BIG s (fY_ l)=putT l s:=by unfold putT;rfl
def jP_(s:Xj)(t:Xk):Xj×Str×Int :=
 if(putT t.Xz s).2.2=0 then
  (if(aN_ (putT t.Xz s).1 4 (l9_ t (fY_ t.Xz) (putT t.Xz s).2.1)).2.2=0 then aN_ (putT t.Xz s).1 4 (l9_ t (fY_ t.Xz) (putT t.Xz s).2.1)else(s,[],(aN_ (putT t.Xz s).1 4 (l9_ t (fY_ t.Xz) (putT t.Xz s).2.1)).2.2))
 else(s,[],(putT t.Xz s).2.2)
theorem triple_eta{α β:Type}{q:α×β×Int}(h:q.2.2=0):(q.1,q.2.1,(0:Int))=q:=by rw[←h]
theorem root_of{l:List Xq}{next:Int}(h:OkT l next):fY_ l∈l/\(fY_ l).Id_=1/\l[0]? = some (fY_ l)/\an_ (fY_ l).Xv 31=true:=by
 obtain⟨r,q,rfl,h2,_,_,h5⟩:=h.root;exact⟨List.mem_cons_self,h2,rfl,h5⟩
theorem headT_len{t:Xk}{n:Xq}{r:Xp}(h:EntOK n r):(l9_ t n r).length<=341:=by
 have:=(m1_ h).1;simp only[l9_,qLa,dv_];omega
theorem fuel_big{t:Xk}(h:OkT t.Xz t.Xt){n:Xq}(hn:n∈t.Xz):(t.Xt-n.Id_).toNat<BIG:=by
 have h1:=h.ge hn;have h2:=h.nx2;exact bQ_ (by omega)
theorem PutTree_eq{s:Xj}{t:Xk}(hs:StOK s)(h:OkT t.Xz t.Xt)(hr:dD_ t=some true):dR_ s t=some (jP_ s t):=by
 obtain⟨r1,r2,r3,r4⟩:=root_of h;obtain⟨q,q1,q2,q3⟩:=putNode_P h BIG BIG (s:=s) (n:=fY_ t.Xz) (Nat.le_refl _) r1 (fuel_big h r1) hs;obtain⟨b1,b2,b3⟩:=ox_ h BIG (s:=s) r1 hs;rw[putT_eq]at q2 q3 b1 b3;have hown:=own_eq (s:=s) (by have:=hs.size;omega);have hlen:=h.len;have hnx:=h.nx2;have hge:=h.ge r1;have hnt:=h.nxt _ r1;rw[r2]at q1;unfold dR_ jP_;refine aa_ hr (ac_ rfl (aa_ q1 ?_));generalize putT t.Xz s=R at *
 by_cases h0:R.2.2=0
 .rw[if_pos h0];obtain⟨q4,q5⟩:=q3 h0;have hent:=h.ent r1 (b3 h0);have hel:=(m1_ hent).1;have hput:=Put_eq (s:=R.1) (k:=4) (d:=l9_ t (fY_ t.Xz) R.2.1) (by omega) (by have:=b1.size;omega) (by have:=headT_len (t:=t) hent;omega);refine ac_ (by rw[q2,h0];rfl) (aa_ (jM_ t.Xt 4 (by omega) (by omega) (by omega) (λ _=>by show t.Xt<(4294967296:Int);omega)) (aa_ (jM_ (t.Xz.length:Int) 4 (by omega) (by omega) (by omega) (λ _=>by show(t.Xz.length:Int)<(4294967296:Int);omega)) (aa_ (a:=leB t.Xt 4++leB (t.Xz.length:Int) 4) (cy_ (by simp[dv_])) (aa_ (a:=encE (fY_ t.Xz) R.2.1) (by rw[q5,encode_eq hent.bare];rfl) (aa_ (a:=l9_ t (fY_ t.Xz) R.2.1) (cy_ (by simp only[qLa,dv_];omega)) ?_)))))
  rw[q4];refine aa_ hput ?_;generalize aN_ R.1 4 (l9_ t (fY_ t.Xz) R.2.1)=B at *
  by_cases h1:B.2.2=0
  .rw[if_pos h1];exact ac_ (by simp[h1]) (congrArg some (triple_eta h1))
  .rw[if_neg h1];exact ah_ (by simp[h1]) (aa_ hown rfl)
 .rw[if_neg h0];refine ah_ (by rw[q2];simpa using h0) (aa_ hown ?_);rw[q2]
theorem treeS_ok{s:Xj}{t:Xk}(hs:StOK s)(h:OkT t.Xz t.Xt):StOK (jP_ s t).1/\StLe s (jP_ s t).1:=by
 obtain⟨r1,_⟩:=root_of h;obtain⟨b1,b2,_⟩:=ox_ h BIG (s:=s) r1 hs;rw[putT_eq]at b1 b2;unfold jP_;generalize putT t.Xz s=R at *
 split
 .split
  .obtain⟨c1,c2,_⟩:=putB_ok (s:=R.1) (k:=4) (d:=l9_ t (fY_ t.Xz) R.2.1) b1 (by omega);exact⟨c1,b2.trans c2⟩
  .exact⟨hs,StLe.refl s⟩
 .exact⟨hs,StLe.refl s⟩
def nD(s:Str)(w a:Nat):Option (Int×Nat):=if s.length-a<w\/leV (win s a w)>9223372036854775807 then none else some ((leV (win s a w):Int),a+w)
def tD(s:Str)(a:Nat):Option (Str×Nat):=takeT s a
def sD(s:Str)(a:Nat):Option (Str×Nat):=if s.length-a<32 then none else some (win s a 32,a+32)
theorem kV_{s:Str}{w a a':Nat}{v:Int}(ha:a<=s.length)(h:nD s w a=some (v,a')):a'<=s.length/\a'=a+w/\0<=v/\v<=9223372036854775807:=by
 unfold nD at h;split at h
 .cases h
 .simp only[qOi,Prod.mk.injEq]at h;omega
theorem sD_le{s t:Str}{a a':Nat}(ha:a<=s.length)(h:sD s a=some (t,a')):a'<=s.length/\a'=a+32/\t.length=32:=by
 unfold sD at h;split at h
 .cases h
 .simp only[qOi,Prod.mk.injEq]at h;obtain⟨h1,h2⟩:=h;refine⟨by omega,by omega,?_⟩;rw[←h1,i5_ (by omega)]
def DS(s:Str)(o:Option Nat)(d:Yy):Prop:=d.s_=s/\d.Zv=o.isNone/\∃a:Nat,d.at_=(a:Int)/\a<=s.length/\∀b,o=some b->a=b
def RS(s:Str)(o:Option Nat)(d:Yc):Prop:=d.S_=s/\d.Zg=o.isNone/\∃a:Nat,d.At_=(a:Int)/\a<=s.length/\∀b,o=some b->a=b
theorem kW_{s:Str}(hs:s.length<=2000000){o:Option Nat}{d:Yy}(h:DS s o d){w:Nat}(h1:1<=w)(h8:w<=8) :
  ∃v d',aw_ d (w:Int)=some (v,d')/\DS s (o.bind λ a=>(nD s w a).map (·.2)) d'/\∀a q,o=some a->nD s w a=some q->v=q.1:=by
 obtain⟨e1,e2,a,e3,e4,e5⟩:=h;unfold aw_;rw[e1,e3];have hg:=get_eq s a w h1 h8 e4 (by omega);cases o with
 | none =>
  refine⟨_,_,aa_ hg (ah_ (by rw[e2];rfl) rfl),⟨rfl,rfl,a,rfl,e4,λ b hb=>by cases hb⟩,λ a q ha=>by cases ha⟩
 | some b =>
  obtain rfl:=e5 b rfl;simp only[qBs];unfold nD;by_cases c1:s.length-a<w
  .rw[if_pos c1]at hg;rw[if_pos (.inl c1)];exact⟨_,_,aa_ hg (ah_ (by rw[e2];rfl) rfl),⟨rfl,rfl,a,rfl,e4,λ b hb=>by cases hb⟩,λ a q ha hq=>by
    obtain rfl:=qSj ha;rw[if_pos (.inl c1)]at hq;cases hq⟩
  .rw[if_neg c1]at hg;by_cases c2:leV (win s a w)>9223372036854775807
   .rw[if_pos c2]at hg;rw[if_pos (.inr c2)];exact⟨_,_,aa_ hg (ah_ (by rw[e2];rfl) rfl),⟨rfl,rfl,a,rfl,e4,λ b hb=>by cases hb⟩,λ a q ha hq=>by
     obtain rfl:=qSj ha;rw[if_pos (.inr c2)]at hq;cases hq⟩
   .rw[if_neg c2]at hg;rw[if_neg (by omega)];exact⟨_,_,aa_ hg (ac_ (by rw[e2];rfl) rfl),⟨rfl,e2,a+w,rfl,by omega,λ b hb=>(qSj hb).symm▸rfl⟩,λ a q ha hq=>by
     obtain rfl:=qSj ha;rw[if_neg (by omega)]at hq;obtain rfl:=qSj hq;rfl⟩
theorem d_text{s:Str}(hs:s.length<=2000000){o:Option Nat}{d:Yy}(h:DS s o d) :
  ∃v d',b8_ d=some (v,d')/\DS s (o.bind λ a=>(tD s a).map (·.2)) d'/\∀a q,o=some a->tD s a=some q->v=q.1:=by
 obtain⟨e1,e2,a,e3,e4,e5⟩:=h;unfold b8_;rw[e1,e3];have hg:=gettext_eq s a e4 hs;cases o with
 | none =>
  refine⟨_,_,aa_ hg (ah_ (by rw[e2];rfl) rfl),⟨rfl,rfl,a,rfl,e4,λ b hb=>by cases hb⟩,λ a q ha=>by cases ha⟩
 | some b =>
  obtain rfl:=e5 b rfl;simp only[qBs];unfold tD;cases ht:takeT s a with
  | none =>
   rw[ht]at hg;exact⟨_,_,aa_ hg (ah_ (by rw[e2];rfl) rfl),⟨rfl,rfl,a,rfl,e4,λ b hb=>by cases hb⟩,λ a q ha hq=>by
    obtain rfl:=qSj ha;rw[ht]at hq;cases hq⟩
  | some p =>
   obtain⟨t,p⟩:=p;rw[ht]at hg;exact⟨_,_,aa_ hg (ac_ (by rw[e2];rfl) rfl),⟨rfl,e2,p,rfl,(mW_ ht).1,λ b hb=>qSj hb⟩,λ a q ha hq=>by
    obtain rfl:=qSj ha;rw[ht]at hq;obtain rfl:=qSj hq;rfl⟩
theorem d_score{s:Str}(hs:s.length<=2000000){o:Option Nat}{d:Yy}(h:DS s o d) :
  ∃v d',dQ_ d=some (v,d')/\DS s (o.bind λ a=>(sD s a).map (·.2)) d'/\∀a q,o=some a->sD s a=some q->v=q.1:=by
 obtain⟨e1,e2,a,e3,e4,e5⟩:=h;unfold dQ_;rw[e1,e3];have el:w64 ((s.length:Int)-(a:Int))=((s.length-a:Nat):Int):=by rw[ap_ ⟨by omega,by omega⟩];omega
 rw[el];cases o with
 | none =>
  refine⟨_,_,ah_ (by rw[e2];rfl) rfl,⟨rfl,rfl,a,rfl,e4,λ b hb=>by cases hb⟩,λ a q ha=>by cases ha⟩
 | some b =>
  obtain rfl:=e5 b rfl;simp only[qBs];unfold sD;by_cases c1:s.length-a<32
  .rw[if_pos c1];exact⟨_,_,ah_ (by rw[e2];simp;omega) rfl,⟨rfl,rfl,a,rfl,e4,λ b hb=>by cases hb⟩,λ a q ha hq=>by
    obtain rfl:=qSj ha;rw[if_pos c1]at hq;cases hq⟩
  .rw[if_neg c1];have w1:w64 ((a:Int)+32)=((a+32:Nat):Int):=by rw[ap_ ⟨by omega,by omega⟩];rfl
   have w2:w64 (((a+32:Nat):Int)-32)=(a:Int):=by rw[ap_ ⟨by omega,by omega⟩];omega
   have hsub:bz_ s (w64 ((w64 ((a:Int)+32))-32)) (w64 ((a:Int)+32))=some (win s a 32):=by
    rw[w1,w2,cf_ (by omega) (by omega) (by omega),qTn,qTn,List.drop_take,Nat.add_sub_cancel_left];rfl
   exact⟨_,_,ac_ (by rw[e2];simp;omega) (aa_ hsub rfl),⟨rfl,e2,a+32,w1,by omega,λ b hb=>qSj hb⟩,λ a q ha hq=>by
    obtain rfl:=qSj ha;rw[if_neg c1]at hq;obtain rfl:=qSj hq;rfl⟩
theorem jQ_{s:Str}(hs:s.length<=2000000){o:Option Nat}{d:Yc}(h:RS s o d){w:Nat}(h1:1<=w)(h8:w<=8) :
  ∃v d',aC_ d (w:Int)=some (v,d')/\RS s (o.bind λ a=>(nD s w a).map (·.2)) d'/\∀a q,o=some a->nD s w a=some q->v=q.1:=by
 obtain⟨e1,e2,a,e3,e4,e5⟩:=h;unfold aC_;have el:w64 ((s.length:Int)-(a:Int))=((s.length-a:Nat):Int):=by rw[ap_ ⟨by omega,by omega⟩];omega
 cases o with
 | none =>
  refine⟨_,_,ah_ (by rw[e2];rfl) rfl,⟨e1,rfl,a,e3,e4,λ b hb=>by cases hb⟩,λ a q ha=>by cases ha⟩
 | some b =>
  obtain rfl:=e5 b rfl;simp only[qBs];by_cases c1:s.length-a<w
  .unfold nD;rw[if_pos (.inl c1)];exact⟨_,_,ah_ (by rw[e1,e2,e3,el];simp;omega) rfl,⟨e1,rfl,a,e3,e4,λ b hb=>by cases hb⟩,λ a q ha hq=>by
    obtain rfl:=qSj ha;rw[if_pos (.inl c1)]at hq;cases hq⟩
  .have h:a+w<=s.length:=by omega
   have hc:(d.Zg||decide ((w64 ((d.S_.length:Int)-d.At_))<(w:Int)))=false:=by rw[e1,e2,e3,el];simp;omega
   have hdl:∀j,j<=w->((win s a w).drop (w-j)).length=j:=λ j hj=>by rw[List.length_drop,i5_ h];omega
   have hlv:∀j,j<=w->leV ((win s a w).drop (w-j))<2^(8*j):=λ j hj=>by
    have:=leV_lt ((win s a w).drop (w-j))
    rwa [hdl j hj]at this
   have hstep:∀j,j<w->leV ((win s a w).drop (w-j))<36028797018963968->b5_ d (((leV ((win s a w).drop (w-j)):Nat):Int),(w:Int)-1-(j:Int))=some (.next (((leV ((win s a w).drop (w-(j+1))):Nat):Int),(w:Int)-1-((j+1:Nat):Int))):=λ j hj hlt=>by
    unfold b5_;refine ah_ (by simp;omega) (ac_ (by simp;omega) ?_);have ei:w64 (d.At_+((w:Int)-1-(j:Int)))=((a+(w-1-j):Nat):Int):=by
     rw[e3,ap_ ⟨by omega,by omega⟩];omega
    show Option.bind (cg_ d.S_ (w64 (d.At_+((w:Int)-1-(j:Int))))) _=_;rw[ei,e1];refine aa_ (kf_ (by omega)) ?_;rw[pq_ h hj];simp only[leV];generalize s[a+(w-1-j)]'(by omega)=b;have hb:=b.toNat_lt;generalize leV ((win s a w).drop (w-j))=v at hlt ⊢;show some (Step.next (w64 ((w64 ((v:Int)*256))+(w64 (b.toNat:Int))),w64 ((w:Int)-1-(j:Int)-1)))=_;rw[ap_ (n:=(v:Int)*256) ⟨by omega,by omega⟩,ap_ (n:=(b.toNat:Int)) ⟨by omega,by omega⟩,ap_ (n:=(v:Int)*256+(b.toNat:Int)) ⟨by omega,by omega⟩,ap_ ⟨by omega,by omega⟩]
    congr 3
    .omega
    .omega
   have hsmall:∀j,j<w->j<=6->leV ((win s a w).drop (w-j))<36028797018963968:=λ j hj h6=>by
    have:=hlv j (by omega);have hp:2^(8*j)<=2^48:=Nat.pow_le_pow_right (by omega) (by omega);omega
   have hfull:(win s a w).drop (w-w)=win s a w:=by simp
   have e0:(win s a w).drop (w-0)=[]:=List.drop_eq_nil_of_le (by rw[i5_ h];omega);have estart:((0:Int),w64 ((w:Int)-1))=(((leV ((win s a w).drop (w-0)):Nat):Int),(w:Int)-1-((0:Nat):Int)):=by
    rw[e0,ap_ ⟨by omega,by omega⟩];simp[leV]
   by_cases c2:leV (win s a w)>9223372036854775807
   .
    have hw8:w=8:=by
     have:=hlv w (Nat.le_refl _);rw[hfull]at this;rcases Nat.lt_or_ge w 8 with h'|h'
     .have hp:2^(8*w)<=2^56:=Nat.pow_le_pow_right (by omega) (by omega);omega
     .omega
    subst hw8;have h7:¬leV ((win s a 8).drop (8-7))<36028797018963968:=by
     have hd:=pq_ (s:=s) (at_:=a) (w:=8) (j:=7) h (by omega);have e8:(win s a 8).drop (8-(7+1))=win s a 8:=by simp
     rw[e8]at hd;rw[hd]at c2;simp only[leV]at c2;have:=(s[a+(8-1-7)]'(by omega)).toNat_lt;omega
    have hl:ak_ (b5_ d) BIG (0,w64 (((8:Nat):Int)-1))=some (.ret (0,Yc.mk d.S_ d.At_ true)):=by
     rw[estart];refine bd_ (T:=λ j=>(((leV ((win s a 8).drop (8-j)):Nat):Int),((8:Nat):Int)-1-(j:Int))) 7 (by decide) (λ j hj=>hstep j (by omega) (hsmall j (by omega) (by omega))) ?_;unfold b5_;exact ah_ (by show decide (((8:Nat):Int)-1-((7:Nat):Int)>=0)=true;decide) (ah_ (by show decide (((leV ((win s a 8).drop (8-7)):Nat):Int)>=36028797018963968)=true;simp only[qDe];omega) rfl)
    unfold nD;rw[if_pos (.inr c2)];exact⟨_,_,ac_ hc (aa_ hl rfl),⟨e1,rfl,a,e3,e4,λ b hb=>by cases hb⟩,λ a q ha hq=>by
     obtain rfl:=qSj ha;rw[if_pos (.inr c2)]at hq;cases hq⟩
   .have hl:ak_ (b5_ d) BIG (0,w64 ((w:Int)-1))=some (.fall ((leV (win s a w):Nat):Int)):=by
     rw[estart];refine bd_ (T:=λ j=>(((leV ((win s a w).drop (w-j)):Nat):Int),(w:Int)-1-(j:Int))) w (bQ_ (by omega)) (λ j hj=>hstep j hj ?_) ?_
     .rcases Nat.lt_or_ge 6 j with h6|h6
      .have:j=7/\w=8:=by omega
       obtain⟨rfl,rfl⟩:=this;have hd:=pq_ (s:=s) (at_:=a) (w:=8) (j:=7) h (by omega);have e8:(win s a 8).drop (8-(7+1))=win s a 8:=by simp
       rw[e8]at hd;rw[hd]at c2;simp only[leV]at c2;omega
      .exact hsmall j hj h6
     .unfold b5_;refine ac_ (by simp;omega) ?_;rw[hfull]
    unfold nD;rw[if_neg (by omega)];refine⟨_,_,ac_ hc (aa_ hl rfl),⟨e1,e2,a+w,?_,by omega,λ b hb=>qSj hb⟩,λ a q ha hq=>by
     obtain rfl:=qSj ha;rw[if_neg (by omega)]at hq;obtain rfl:=qSj hq;rfl⟩
    show w64 (d.At_+(w:Int))=_;rw[e3,ap_ ⟨by omega,by omega⟩];rfl
theorem r_text{s:Str}(hs:s.length<=2000000){o:Option Nat}{d:Yc}(h:RS s o d)(n:Nat)(hn:n<=1000000) :
  ∃v d',bI_ d (n:Int)=some (v,d')/\RS s (o.bind λ a=>if s.length-a<n then none else some (a+n)) d'/\∀a,o=some a->¬s.length-a<n->v=win s a n:=by
 obtain⟨e1,e2,a,e3,e4,e5⟩:=h;unfold bI_;have el:w64 ((s.length:Int)-(a:Int))=((s.length-a:Nat):Int):=by rw[ap_ ⟨by omega,by omega⟩];omega
 rw[e1,e3,el];cases o with
 | none =>
  exact⟨_,_,ah_ (by rw[e2];rfl) rfl,⟨rfl,rfl,a,rfl,e4,λ b hb=>by cases hb⟩,λ a ha=>by cases ha⟩
 | some b =>
  obtain rfl:=e5 b rfl;simp only[qBs];by_cases c1:s.length-a<n
  .rw[if_pos c1];exact⟨_,_,ah_ (by rw[e2];simp;omega) rfl,⟨rfl,rfl,a,rfl,e4,λ b hb=>by cases hb⟩,λ a ha hq=>by
    obtain rfl:=qSj ha;exact absurd c1 hq⟩
  .rw[if_neg c1];have w1:w64 ((a:Int)+(n:Int))=((a+n:Nat):Int):=by rw[ap_ ⟨by omega,by omega⟩];rfl
   have w2:w64 (((a+n:Nat):Int)-(n:Int))=(a:Int):=by rw[ap_ ⟨by omega,by omega⟩];omega
   have hsub:bz_ s (w64 ((w64 ((a:Int)+(n:Int)))-(n:Int))) (w64 ((a:Int)+(n:Int)))=some (win s a n):=by
    rw[w1,w2,cf_ (by omega) (by omega) (by omega),qTn,qTn,List.drop_take,Nat.add_sub_cancel_left];rfl
   exact⟨_,_,ac_ (by rw[e2];simp;omega) (aa_ hsub rfl),⟨rfl,e2,a+n,w1,by omega,λ b hb=>qSj hb⟩,λ a ha hq=>by
    obtain rfl:=qSj ha;rfl⟩
theorem nv_{s:Str}(hs:s.length<=2000000){o:Option Nat}{d:Yc}(h:RS s o d) :
  ∃v d' t d2,aC_ d 2=some (v,d')/\bI_ d' v=some (t,d2)/\RS s (o.bind λ a=>(tD s a).map (·.2)) d2/\∀a q,o=some a->tD s a=some q->t=q.1:=by
 obtain⟨v,d',h1,h2,h3⟩:=jQ_ hs h (w:=2) (by omega) (by omega);cases o with
 | none =>
  obtain⟨e1,e2,a,e3,e4,e5⟩:=h2;have hbad:d'.Zg=true:=e2;refine⟨v,d',[],Yc.mk d'.S_ d'.At_ true,h1,?_,⟨e1,rfl,a,e3,e4,λ b hb=>by cases hb⟩,λ a q ha=>by cases ha⟩;unfold bI_;exact ah_ (by rw[hbad];rfl) rfl
 | some a =>
  have ha:a<=s.length:=by
   obtain⟨_,_,a',_,e4,e5⟩:=h;have:=e5 a rfl;omega
  simp only[qBs]at h2 ⊢;unfold tD takeT;by_cases c1:s.length<a+2
  .rw[if_pos c1];have hn:nD s 2 a=none:=by unfold nD;rw[if_pos (.inl (by omega))]
   rw[hn]at h2;obtain⟨e1,e2,b,e3,e4,e5⟩:=h2;have hbad:d'.Zg=true:=e2;refine⟨v,d',[],Yc.mk d'.S_ d'.At_ true,h1,?_,⟨e1,rfl,b,e3,e4,λ b hb=>by cases hb⟩,λ a' q ha' hq=>by
    obtain rfl:=qSj ha';rw[if_pos c1]at hq;cases hq⟩
   unfold bI_;exact ah_ (by rw[hbad];rfl) rfl
  .rw[if_neg c1];have hv2:=leV_two s a (by omega);have hn:nD s 2 a=some ((leV (win s a 2):Int),a+2):=by unfold nD;rw[if_neg (by omega)]
   rw[hn]at h2;have hv:v=(leV (win s a 2):Int):=h3 a _ rfl hn;subst hv;obtain⟨t,d2,g1,g2,g3⟩:=r_text hs h2 (leV (win s a 2)) (by omega);simp only[Option.map_some,qBs]at g2 g3;refine⟨_,d',t,d2,h1,g1,?_,λ a' q ha' hq => ?_⟩
   .by_cases c2:s.length<a+2+leV (win s a 2)
    .rw[if_pos c2];rw[if_pos (by omega)]at g2;exact g2
    .rw[if_neg c2];rw[if_neg (by omega)]at g2;exact g2
   .obtain rfl:=qSj ha';rw[if_neg c1]at hq;split at hq
    .cases hq
    .rename_i c2;obtain rfl:=qSj hq;exact g3 (a+2) rfl (by omega)
def entD(s:Str)(a:Nat):Option (Xq×Xp×Nat):=(nD s 4 a).bind λ q1=>(nD s 4 q1.2).bind λ q2=>(nD s 4 q2.2).bind λ q3=>(nD s 4 q3.2).bind λ q4=>(nD s 8 q4.2).bind λ q5=>(nD s 8 q5.2).bind λ q6=>(tD s q6.2).bind λ q7=>(tD s q7.2).bind λ q8=>(tD s q8.2).bind λ q9=>(tD s q9.2).bind λ q10=>(nD s 4 q10.2).bind λ q11=>(nD s 1 q11.2).bind λ q12=>(sD s q12.2).bind λ q13=>some (Xq.mk q1.1 q2.1 q3.1 q7.1 q4.1 q8.1 q9.1 q10.1 q5.1 q6.1 [],Xp.mk q13.1 q11.1 q12.1,q13.2)
theorem ent_steps (s:Str) (o:Option Nat):(o.bind λ a=>(entD s a).map (·.2.2))=((((((((((((((o.bind λ a=>(nD s 4 a).map (·.2)).bind λ a=>(nD s 4 a).map (·.2)).bind λ a=>(nD s 4 a).map (·.2)).bind λ a=>(nD s 4 a).map (·.2)).bind λ a=>(nD s 8 a).map (·.2)).bind λ a=>(nD s 8 a).map (·.2)).bind λ a=>(tD s a).map (·.2)).bind λ a=>(tD s a).map (·.2)).bind λ a=>(tD s a).map (·.2)).bind λ a=>(tD s a).map (·.2)).bind λ a=>(nD s 4 a).map (·.2)).bind λ a=>(nD s 1 a).map (·.2)).bind λ a=>(sD s a).map (·.2))):=by
 cases o with
 | none=>rfl
 | some a =>
  simp only[qBs];unfold entD;cases nD s 4 a with
  | none=>rfl
  | some q1 =>
   simp only[qBs,Option.map_some];cases nD s 4 q1.2 with
   | none=>rfl
   | some q2 =>
    simp only[qBs,Option.map_some];cases nD s 4 q2.2 with
    | none=>rfl
    | some q3 =>
     simp only[qBs,Option.map_some];cases nD s 4 q3.2 with
     | none=>rfl
     | some q4 =>
      simp only[qBs,Option.map_some];cases nD s 8 q4.2 with
      | none=>rfl
      | some q5 =>
       simp only[qBs,Option.map_some];cases nD s 8 q5.2 with
       | none=>rfl
       | some q6 =>
        simp only[qBs,Option.map_some];cases tD s q6.2 with
        | none=>rfl
        | some q7 =>
         simp only[qBs,Option.map_some];cases tD s q7.2 with
         | none=>rfl
         | some q8 =>
          simp only[qBs,Option.map_some];cases tD s q8.2 with
          | none=>rfl
          | some q9 =>
           simp only[qBs,Option.map_some];cases tD s q9.2 with
           | none=>rfl
           | some q10 =>
            simp only[qBs,Option.map_some];cases nD s 4 q10.2 with
            | none=>rfl
            | some q11 =>
             simp only[qBs,Option.map_some];cases nD s 1 q11.2 with
             | none=>rfl
             | some q12 =>
              simp only[qBs,Option.map_some];cases sD s q12.2<;>rfl
theorem d_entry{s:Str}(hs:s.length<=2000000){o:Option Nat}{d:Yy}(h:DS s o d) :
  ∃x d',cl_ d=some (x,d')/\DS s (o.bind λ a=>(entD s a).map (·.2.2)) d'/\∀a q,o=some a->entD s a=some q->x=Xr.mk q.1 q.2.1:=by
 obtain⟨v1,d1,a1,b1,c1⟩:=kW_ hs h (w:=4) (by omega) (by omega);obtain⟨v2,d2,a2,b2,c2⟩:=kW_ hs b1 (w:=4) (by omega) (by omega);obtain⟨v3,d3,a3,b3,c3⟩:=kW_ hs b2 (w:=4) (by omega) (by omega);obtain⟨v4,d4,a4,b4,c4⟩:=kW_ hs b3 (w:=4) (by omega) (by omega);obtain⟨v5,d5,a5,b5,c5⟩:=kW_ hs b4 (w:=8) (by omega) (by omega);obtain⟨v6,d6,a6,b6,c6⟩:=kW_ hs b5 (w:=8) (by omega) (by omega);obtain⟨v7,d7,a7,b7,c7⟩:=d_text hs b6;obtain⟨v8,d8,a8,b8,c8⟩:=d_text hs b7;obtain⟨v9,d9,a9,b9,c9⟩:=d_text hs b8;obtain⟨v10,d10,a10,b10,c10⟩:=d_text hs b9;obtain⟨v11,d11,a11,b11,c11⟩:=kW_ hs b10 (w:=4) (by omega) (by omega);obtain⟨v12,d12,a12,b12,c12⟩:=kW_ hs b11 (w:=1) (by omega) (by omega)
 obtain⟨v13,d13,a13,b13,c13⟩:=d_score hs b12;refine⟨_,d13,aa_ a1 (aa_ a2 (aa_ a3 (aa_ a4 (aa_ a5 (aa_ a6 (aa_ a7 (aa_ a8 (aa_ a9 (aa_ a10 (aa_ a11 (aa_ a12 (aa_ a13 rfl)))))))))))),?_,?_⟩
 .rw[ent_steps s o];exact b13
 .intro a q ha hq;subst ha;unfold entD at hq;obtain⟨q1,p1,hq⟩:=qOb.1 hq;obtain⟨q2,p2,hq⟩:=qOb.1 hq;obtain⟨q3,p3,hq⟩:=qOb.1 hq;obtain⟨q4,p4,hq⟩:=qOb.1 hq;obtain⟨q5,p5,hq⟩:=qOb.1 hq;obtain⟨q6,p6,hq⟩:=qOb.1 hq;obtain⟨q7,p7,hq⟩:=qOb.1 hq;obtain⟨q8,p8,hq⟩:=qOb.1 hq;obtain⟨q9,p9,hq⟩:=qOb.1 hq;obtain⟨q10,p10,hq⟩:=qOb.1 hq;obtain⟨q11,p11,hq⟩:=qOb.1 hq;obtain⟨q12,p12,hq⟩:=qOb.1 hq;obtain⟨q13,p13,hq⟩:=qOb.1 hq;obtain rfl:=qSj hq;have f1:=c1 a q1 rfl p1;have f2:=c2 q1.2 q2 (by simp[p1]) p2;have f3:=c3 q2.2 q3 (by simp[p1,p2]) p3;have f4:=c4 q3.2 q4 (by simp[p1,p2,p3]) p4;have f5:=c5 q4.2 q5 (by simp[p1,p2,p3,p4]) p5
  have f6:=c6 q5.2 q6 (by simp[p1,p2,p3,p4,p5]) p6;have f7:=c7 q6.2 q7 (by simp[p1,p2,p3,p4,p5,p6]) p7;have f8:=c8 q7.2 q8 (by simp[p1,p2,p3,p4,p5,p6,p7]) p8;have f9:=c9 q8.2 q9 (by simp[p1,p2,p3,p4,p5,p6,p7,p8]) p9;have f10:=c10 q9.2 q10 (by simp[p1,p2,p3,p4,p5,p6,p7,p8,p9]) p10;have f11:=c11 q10.2 q11 (by simp[p1,p2,p3,p4,p5,p6,p7,p8,p9,p10]) p11;have f12:=c12 q11.2 q12 (by simp[p1,p2,p3,p4,p5,p6,p7,p8,p9,p10,p11]) p12;have f13:=c13 q12.2 q13 (by simp[p1,p2,p3,p4,p5,p6,p7,p8,p9,p10,p11,p12]) p13;rw[f1,f2,f3,f4,f5,f6,f7,f8,f9,f10,f11,f12,f13]
theorem sD_text{s:Str}{a:Nat}:(sD s a).map (·.2)=if s.length-a<32 then none else some (a+32):=by
 unfold sD;split<;>rfl
theorem r_entry{s:Str}(hs:s.length<=2000000){o:Option Nat}{d:Yc}(h:RS s o d) :
  ∃n r d',et_ d=some (n,r,d')/\RS s (o.bind λ a=>(entD s a).map (·.2.2)) d'/\∀a q,o=some a->entD s a=some q->n=q.1/\r=q.2.1:=by
 obtain⟨v1,d1,a1,b1,c1⟩:=jQ_ hs h (w:=4) (by omega) (by omega);obtain⟨v2,d2,a2,b2,c2⟩:=jQ_ hs b1 (w:=4) (by omega) (by omega);obtain⟨v3,d3,a3,b3,c3⟩:=jQ_ hs b2 (w:=4) (by omega) (by omega);obtain⟨v4,d4,a4,b4,c4⟩:=jQ_ hs b3 (w:=4) (by omega) (by omega);obtain⟨v5,d5,a5,b5,c5⟩:=jQ_ hs b4 (w:=8) (by omega) (by omega);obtain⟨v6,d6,a6,b6,c6⟩:=jQ_ hs b5 (w:=8) (by omega) (by omega);obtain⟨_,_,v7,d7,a7,a7',b7,c7⟩:=nv_ hs b6;obtain⟨_,_,v8,d8,a8,a8',b8,c8⟩:=nv_ hs b7;obtain⟨_,_,v9,d9,a9,a9',b9,c9⟩:=nv_ hs b8;obtain⟨_,_,v10,d10,a10,a10',b10,c10⟩:=nv_ hs b9;obtain⟨v11,d11,a11,b11,c11⟩:=jQ_ hs b10 (w:=4) (by omega) (by omega)
 obtain⟨v12,d12,a12,b12,c12⟩:=jQ_ hs b11 (w:=1) (by omega) (by omega);obtain⟨v13,d13,a13,b13,c13⟩:=r_text hs b12 32 (by omega);refine⟨_,_,d13,aa_ a1 (aa_ a2 (aa_ a3 (aa_ a4 (aa_ a5 (aa_ a6 (aa_ a7 (aa_ a7' (aa_ a8 (aa_ a8' (aa_ a9 (aa_ a9' (aa_ a10 (aa_ a10' (aa_ a11 (aa_ a12 (aa_ a13 rfl)))))))))))))))),?_,?_⟩
 .have e:(o.bind λ a=>(entD s a).map (·.2.2))=((((((((((((((o.bind λ a=>(nD s 4 a).map (·.2)).bind λ a=>(nD s 4 a).map (·.2)).bind λ a=>(nD s 4 a).map (·.2)).bind λ a=>(nD s 4 a).map (·.2)).bind λ a=>(nD s 8 a).map (·.2)).bind λ a=>(nD s 8 a).map (·.2)).bind λ a=>(tD s a).map (·.2)).bind λ a=>(tD s a).map (·.2)).bind λ a=>(tD s a).map (·.2)).bind λ a=>(tD s a).map (·.2)).bind λ a=>(nD s 4 a).map (·.2)).bind λ a=>(nD s 1 a).map (·.2)).bind λ a=>if s.length-a<32 then none else some (a+32))):=by
   simp only[←sD_text];exact ent_steps s o
  rw[e];exact b13
 .intro a q ha hq;subst ha;unfold entD at hq;obtain⟨q1,p1,hq⟩:=qOb.1 hq;obtain⟨q2,p2,hq⟩:=qOb.1 hq;obtain⟨q3,p3,hq⟩:=qOb.1 hq;obtain⟨q4,p4,hq⟩:=qOb.1 hq;obtain⟨q5,p5,hq⟩:=qOb.1 hq;obtain⟨q6,p6,hq⟩:=qOb.1 hq;obtain⟨q7,p7,hq⟩:=qOb.1 hq;obtain⟨q8,p8,hq⟩:=qOb.1 hq;obtain⟨q9,p9,hq⟩:=qOb.1 hq;obtain⟨q10,p10,hq⟩:=qOb.1 hq;obtain⟨q11,p11,hq⟩:=qOb.1 hq;obtain⟨q12,p12,hq⟩:=qOb.1 hq;obtain⟨q13,p13,hq⟩:=qOb.1 hq;obtain rfl:=qSj hq;have f1:=c1 a q1 rfl p1;have f2:=c2 q1.2 q2 (by simp[p1]) p2;have f3:=c3 q2.2 q3 (by simp[p1,p2]) p3;have f4:=c4 q3.2 q4 (by simp[p1,p2,p3]) p4;have f5:=c5 q4.2 q5 (by simp[p1,p2,p3,p4]) p5
  have f6:=c6 q5.2 q6 (by simp[p1,p2,p3,p4,p5]) p6;have f7:=c7 q6.2 q7 (by simp[p1,p2,p3,p4,p5,p6]) p7;have f8:=c8 q7.2 q8 (by simp[p1,p2,p3,p4,p5,p6,p7]) p8;have f9:=c9 q8.2 q9 (by simp[p1,p2,p3,p4,p5,p6,p7,p8]) p9;have f10:=c10 q9.2 q10 (by simp[p1,p2,p3,p4,p5,p6,p7,p8,p9]) p10;have f11:=c11 q10.2 q11 (by simp[p1,p2,p3,p4,p5,p6,p7,p8,p9,p10]) p11;have f12:=c12 q11.2 q12 (by simp[p1,p2,p3,p4,p5,p6,p7,p8,p9,p10,p11]) p12;have h13:¬s.length-q12.2<32/\q13=(win s q12.2 32,q12.2+32):=by
   unfold sD at p13;split at p13
   .cases p13
   .rename_i hh;exact⟨hh,(qSj p13).symm⟩
  have f13:=c13 q12.2 (by simp[p1,p2,p3,p4,p5,p6,p7,p8,p9,p10,p11,p12]) h13.1;rw[f1,f2,f3,f4,f5,f6,f7,f8,f9,f10,f11,f12,f13,h13.2];exact⟨rfl,rfl⟩
end Go.Proofs.YtebokaoegomboaaGreatDoor
