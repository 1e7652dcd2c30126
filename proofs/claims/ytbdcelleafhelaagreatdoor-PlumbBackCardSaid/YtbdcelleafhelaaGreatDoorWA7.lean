/-
 What the statements of this seat hang on,part 7: Aw At.
-/
import Derived.Test.YtbdcelleafhelaaGreatDoorWA6
import Derived.KernelRfl
namespace Go.Proofs.YtbdcelleafhelaaGreatDoor
open Go.Rt Go.RowKit
noncomputable section
instance dq0:DecidableEq (List Int×List regex_thread):=instDecidableEqProd
instance dq1:DecidableEq (Int×List Int×List regex_thread):=instDecidableEqProd
instance dq2:DecidableEq (Str×Int×List Int×List regex_thread):=instDecidableEqProd
instance dq3:DecidableEq (Int×Str×Int×List Int×List regex_thread):=instDecidableEqProd
instance dq4:DecidableEq (List Xj×Int×Str×Int×List Int×List regex_thread):=instDecidableEqProd
instance dq5:DecidableEq (Int×List Xj×Int×Str×Int×List Int×List regex_thread):=instDecidableEqProd
instance dq6:DecidableEq (List Int×Int×List Xj×Int×Str×Int×List Int×List regex_thread):=instDecidableEqProd
def nilBC{α R:Type}[DecidableEq R](xs:List α)(k:Bool->Option R):Option R:=match xs with | []=>bothC (k true) (k false)|_::_=>k false
theorem e_nilB{α R:Type}[DecidableEq R] : @nilB α R=nilBC:=by
 funext xs k
 cases xs with
 | nil=>show both _ _=bothC _ _;rw[e_both]
 | cons x l=>rfl
def eM_ (x0:Xp):Option Bool :=
 Option.bind (
  (bothC (
   (bothC (
    (c3_ x0.Xc).bind λy7 =>
    (aB_ y7 x0.Xn).bind λy8 =>
    (bif(!y8)then
     some true
    else
     (bif(x0.Xd==[])then
      some true
     else
      (bif(decide ((x0.Xd.length:Int)>1024))then
       some true
      else
       (strings_Contains x0.Xd [10]).bind λy9 =>
       some y9)))) (
    (c3_ x0.Xc).bind λy4 =>
    (aB_ y4 x0.Xn).bind λy5 =>
    (bif(!y5)then
     some true
    else
     (bif(x0.Xd==[])then
      some true
     else
      (bif(decide ((x0.Xd.length:Int)>1024))then
       some true
      else
       (strings_Contains x0.Xd [10]).bind λy6 =>
       some y6)))))) (
   (c3_ x0.Xc).bind λy1 =>
   (aB_ y1 x0.Xn).bind λy2 =>
   (bif(!y2)then
    some true
   else
    (bif(x0.Xd==[])then
     some true
    else
     (bif(decide ((x0.Xd.length:Int)>1024))then
      some true
     else
      (strings_Contains x0.Xd [10]).bind λy3 =>
      some y3)))))
  ) λ(o1:Bool) =>
 (bif o1 then
  some (false)
 else
  (bif(!(x0.Xn==[109,97,116,99,104,101,115]))then
   some (true)
  else
   (aO_ x0.Xd).bind λy10 =>
   some ((y10.2.2==0))))
theorem jz_:et_=eM_:=by
 funext x0
 simp only[et_,eM_,e_both]<;>rfl
def eV_ (y1:(List Str)) (s2:Int×(List Xy)×(List Xp)):Option (Step (Int×(List Xy)×(List Xp)) (Out ((List Xy)×(List Xp)) ((List Xy)×Int×Int))) :=
 (bif (decide (s2.1<(y1.length:Int)))then
  Option.bind (
   (ai_ y1 s2.1).bind λy11 =>
   (strings_HasPrefix y11 [35]).bind λy12 =>
   (bif y12 then
    some (.fall (s2.2.1,s2.2.2))
   else
    (bif(y11==[])then
     (bif(decide ((s2.2.2.length:Int)>0))then
      (c2_ (Xy.mk s2.2.2)).bind λy13 =>
      (bif(!y13)then
       some (.ret (([],(w64 (s2.1+1)),50)))
      else
       (room 24 s2.2.1 [(Xy.mk s2.2.2)]).bind λy14 =>
       some (.fall (y14,[])))
     else
      some (.fall (s2.2.1,s2.2.2)))
    else
     (bif(((s2.2.2.length:Int)==0)&&(decide ((s2.2.1.length:Int)>=64)))then
      some (.ret (([],(w64 (s2.1+1)),22)))
     else
      (gB_ y11).bind λy15 =>
      (eM_ y15).bind λy16 =>
      Option.bind (bif(!y16)then some true else 
       (c2_ (Xy.mk s2.2.2)).bind λy17 =>
       some y17
       ) λ(y18:Bool) =>
      (bif(y18||(decide ((s2.2.2.length:Int)>=32)))then
       some (.ret (([],(w64 (s2.1+1)),50)))
      else
       (room 48 s2.2.2 [y15]).bind λy19 =>
       some (.fall (s2.2.1,y19))))))
   ) λ(wo2:Out ((List Xy)×(List Xp)) ((List Xy)×Int×Int))=>match wo2 with
  | .ret r2=>some (.done (.ret r2))
  | .fall o2 =>
   some (.next ((w64 (s2.1+1)),o2.1,o2.2))
 else
  some (.done (.fall (s2.2.1,s2.2.2))))
theorem ls_:fU_=eV_:=by
 funext y1 s2
 simp only[fU_,eV_,jz_]<;>rfl
def gD_ (x0:Str):Option ((List Xy)×Int×Int) :=
 (h8_ x0).bind λy1 =>
 Option.bind (ah_ (eV_ y1) BIG (0,[],[])) λ(wo3:Out ((List Xy)×(List Xp)) ((List Xy)×Int×Int))=>match wo3 with
 | .ret r3=>some r3
 | .fall o3 =>
  Option.bind (
   (bif(decide ((o3.2.length:Int)>0))then
    (c2_ (Xy.mk o3.2)).bind λy20 =>
    (bif(!y20)then
     some (.ret (([],(w64 ((y1.length:Int)+1)),50)))
    else
     (room 24 o3.1 [(Xy.mk o3.2)]).bind λy21 =>
     some (.fall y21))
   else
    some (.fall o3.1))
   ) λ(wo4:Out (List Xy) ((List Xy)×Int×Int))=>match wo4 with
  | .ret r4=>some r4
  | .fall o4 =>
   some ((o4,0,0))
theorem nX_:gb_=gD_:=by
 funext x0
 simp only[gb_,gD_,ls_]<;>rfl
def eW_(x0:Xy)(s2:Int):Option (Step Int (Out Unit Bool)) :=
 (bif(decide (s2<(x0.Xt.length:Int)))then
  (ai_ x0.Xt s2).bind λy3 =>
  (eM_ y3).bind λy4 =>
  (bif((!y4)||(!((y3.Xc==[112,108,117,109,98])==(s2==(w64 ((x0.Xt.length:Int)-1))))))then
   some (.done (.ret (false)))
  else
   some (.next (w64 (s2+1))))
 else
  some (.done (.fall ())))
theorem lt_:fV_=eW_:=by
 funext x0 s2
 simp only[fV_,eW_,jz_]<;>rfl
def gE_(x0:Xy):Option Bool :=
 (bif((decide ((x0.Xt.length:Int)<1))||(decide ((x0.Xt.length:Int)>32)))then
  some (false)
 else
  (ah_ (eW_ x0) BIG 0).bind λwo1=>match wo1 with
  | .ret r1=>some r1
  | .fall _ =>
   some (true))
theorem nY_:gc_=gE_:=by
 funext x0
 simp only[gc_,gE_,lt_]<;>rfl
def f1_ (x3:Bool) (x1:Str) (x0:Xr) (s6:(List Int)×Int×(List Xj)×Int×Str×Int×(List Int)×(List regex_thread)):Option (Step ((List Int)×Int×(List Xj)×Int×Str×Int×(List Int)×(List regex_thread)) (Out Unit ((List Int)×Int))) :=
 Option.bind (
  (ah_ (ke_ s6) BIG (0,s6.2.2.2.2.2.2.2)).bind λwo6=>match wo6 with
  | .ret r2 =>
   (nilBC r2.1 λ(n2:Bool) =>
   (bif((!n2)&&((!x3)||(s6.2.2.2.2.2.1==(x1.length:Int))))then
    some (r2.1,s6.2.2.2.2.2.1,s6.2.2.1,s6.2.2.2.1,s6.2.2.2.2.1,s6.2.2.2.2.2.1,s6.2.2.2.2.2.2.1,r2.2)
   else
    some (s6.1,s6.2.1,s6.2.2.1,s6.2.2.2.1,s6.2.2.2.2.1,s6.2.2.2.2.2.1,s6.2.2.2.2.2.2.1,r2.2)))
  | .fall o6 =>
   (bif(false&&((!x3)||(s6.2.2.2.2.2.1==(x1.length:Int))))then
    some ([],s6.2.2.2.2.2.1,s6.2.2.1,s6.2.2.2.1,s6.2.2.2.2.1,s6.2.2.2.2.2.1,s6.2.2.2.2.2.2.1,o6)
   else
    some (s6.1,s6.2.1,s6.2.2.1,s6.2.2.2.1,s6.2.2.2.2.1,s6.2.2.2.2.2.1,s6.2.2.2.2.2.2.1,o6))
  ) λ(o7:(List Int)×Int×(List Xj)×Int×Str×Int×(List Int)×(List regex_thread)) =>
 (bif((decide (o7.2.2.2.2.2.1>=(x1.length:Int)))||((o7.2.2.2.2.2.2.2.length:Int)==0))then
  some (.done (.ret ((o7.1,o7.2.1))))
 else
  (an_ x1 o7.2.2.2.2.2.1).bind λy22 =>
  (dj_ 8 (0:Int) (o7.2.2.1.length:Int)).bind λy23 =>
  Option.bind (ah_ (kf_ o7 x0 y22) BIG (0,o7.2.2.1,o7.2.2.2.1,o7.2.2.2.2.1,(w64 (o7.2.2.2.2.2.1+1)),y23,[],o7.2.2.2.2.2.2.2)) λ(o10:(List Xj)×Int×Str×Int×(List Int)×(List regex_thread)) =>
  some (.next (o7.1,o7.2.1,o10.1,o10.2.1,o10.2.2.1,o10.2.2.2.1,o10.2.2.2.2.1,o10.2.2.2.2.2)))
theorem ng_:hv_=f1_:=by
 funext x3 x1 x0 s6
 simp only[hv_,f1_,e_nilB]<;>rfl
def ie_(x0:Xr)(x1:Str)(x2:Int)(x3:Bool):Option ((List Int)×Int) :=
 (dj_ 8 (0:Int) (x0.Xa.length:Int)).bind λy1 =>
 (dq_ [(-1)] (w64 (2*x0.Xe))).bind λy2 =>
 Option.bind (bL_ BIG (regex_machine.mk x0 x1 x2 y1 []) 0 y2) λ(y3:regex_machine) =>
 Option.bind (ah_ (f1_ x3 x1 x0) BIG ([],(-1),y3.r_.Xa,y3.r_.Xe,y3.s_,y3.pos_,y3.visited_,y3.list_)) λ(wo11:Out Unit ((List Int)×Int))=>match wo11 with
 | .ret r11=>some r11
 | .fall _ =>
  none
theorem e_regex_run:gv_=ie_:=by
 funext x0 x1 x2 x3
 simp only[gv_,ie_,ng_]<;>rfl
def ch_(x0:Xr)(x1:Str):Option ((List Int)×Bool):=(ie_ x0 x1 0 true).bind λy1=>(bR_ y1.1).bind λy2=>some ((y2,(decide (y1.2>=0))))
theorem nZ_:ct_=ch_:=by
 funext x0 x1
 simp only[ct_,ch_,e_regex_run]<;>rfl
def dX_ (x0 : plumb_state) (x1:Xp):Option (Bool×plumb_state) :=
 (cR_ x0 x1.Xd).bind λy1 =>
 (bif((!(x1.Xn==[109,97,116,99,104,101,115]))&&(decide ((y1.1.length:Int)>65536)))then
  some ((false,y1.2))
 else
  (bif(x1.Xc==[112,108,117,109,98])then
   some ((true,(plumb_state.mk y1.2.m_ y1.2.text_ y1.2.caps_ y1.1)))
  else
   (bif(x1.Xc==[97,116,116,114])then
    (em_ y1.2 x1.Xn y1.1).bind λy2 =>
    some ((y2.1,y2.2))
   else
    (bif (x1.Xc==[115,114,99])then
     (bif(x1.Xn==[105,115])then
      some (((y1.2.m_.Xg==y1.1),y1.2))
     else
      (bif(x1.Xn==[105,115,110])then
       some (((!(y1.2.m_.Xg==y1.1)),y1.2))
      else
       (bif(x1.Xn==[115,101,116])then
        some ((true,(plumb_state.mk (Xq.mk y1.1 y1.2.m_.Xf y1.2.m_.Xm y1.2.m_.Xw y1.2.m_.Xx y1.2.m_.Xk) y1.2.text_ y1.2.caps_ y1.2.port_)))
       else
        (aO_ x1.Xd).bind λy3 =>
        (bif(y3.2.2 != 0)then
         some ((false,y1.2))
        else
         (ch_ y3.1 y1.2.m_.Xg).bind λy4 =>
         Option.bind (
          (bif y4.2 then
           some (y1.2.m_.Xg,y1.2.m_.Xf,y1.2.m_.Xm,y1.2.m_.Xw,y1.2.m_.Xx,y1.2.m_.Xk,y1.2.m_.Xg,y4.1,y1.2.port_)
          else
           some (y1.2.m_.Xg,y1.2.m_.Xf,y1.2.m_.Xm,y1.2.m_.Xw,y1.2.m_.Xx,y1.2.m_.Xk,y1.2.text_,y1.2.caps_,y1.2.port_))
          ) λ(o1:Str×Str×Str×Str×(List Xz)×Str×Str×(List Int)×Str) =>
         some ((y4.2,(plumb_state.mk (Xq.mk o1.1 o1.2.1 o1.2.2.1 o1.2.2.2.1 o1.2.2.2.2.1 o1.2.2.2.2.2.1) o1.2.2.2.2.2.2.1 o1.2.2.2.2.2.2.2.1 o1.2.2.2.2.2.2.2.2)))))))
    else
     (bif (x1.Xc==[100,115,116])then
      (bif(x1.Xn==[105,115])then
       some (((y1.2.m_.Xf==y1.1),y1.2))
      else
       (bif(x1.Xn==[105,115,110])then
        some (((!(y1.2.m_.Xf==y1.1)),y1.2))
       else
        (bif(x1.Xn==[115,101,116])then
         some ((true,(plumb_state.mk (Xq.mk y1.2.m_.Xg y1.1 y1.2.m_.Xm y1.2.m_.Xw y1.2.m_.Xx y1.2.m_.Xk) y1.2.text_ y1.2.caps_ y1.2.port_)))
        else
         (aO_ x1.Xd).bind λy5 =>
         (bif(y5.2.2 != 0)then
          some ((false,y1.2))
         else
          (ch_ y5.1 y1.2.m_.Xf).bind λy6 =>
          Option.bind (
           (bif y6.2 then
            some (y1.2.m_.Xg,y1.2.m_.Xf,y1.2.m_.Xm,y1.2.m_.Xw,y1.2.m_.Xx,y1.2.m_.Xk,y1.2.m_.Xf,y6.1,y1.2.port_)
           else
            some (y1.2.m_.Xg,y1.2.m_.Xf,y1.2.m_.Xm,y1.2.m_.Xw,y1.2.m_.Xx,y1.2.m_.Xk,y1.2.text_,y1.2.caps_,y1.2.port_))
           ) λ(o2:Str×Str×Str×Str×(List Xz)×Str×Str×(List Int)×Str) =>
          some ((y6.2,(plumb_state.mk (Xq.mk o2.1 o2.2.1 o2.2.2.1 o2.2.2.2.1 o2.2.2.2.2.1 o2.2.2.2.2.2.1) o2.2.2.2.2.2.2.1 o2.2.2.2.2.2.2.2.1 o2.2.2.2.2.2.2.2.2)))))))
     else
      (bif (x1.Xc==[119,100,105,114])then
       (bif(x1.Xn==[105,115])then
        some (((y1.2.m_.Xm==y1.1),y1.2))
       else
        (bif(x1.Xn==[105,115,110])then
         some (((!(y1.2.m_.Xm==y1.1)),y1.2))
        else
         (bif(x1.Xn==[115,101,116])then
          some ((true,(plumb_state.mk (Xq.mk y1.2.m_.Xg y1.2.m_.Xf y1.1 y1.2.m_.Xw y1.2.m_.Xx y1.2.m_.Xk) y1.2.text_ y1.2.caps_ y1.2.port_)))
         else
          (aO_ x1.Xd).bind λy7 =>
          (bif(y7.2.2 != 0)then
           some ((false,y1.2))
          else
           (ch_ y7.1 y1.2.m_.Xm).bind λy8 =>
           Option.bind (
            (bif y8.2 then
             some (y1.2.m_.Xg,y1.2.m_.Xf,y1.2.m_.Xm,y1.2.m_.Xw,y1.2.m_.Xx,y1.2.m_.Xk,y1.2.m_.Xm,y8.1,y1.2.port_)
            else
             some (y1.2.m_.Xg,y1.2.m_.Xf,y1.2.m_.Xm,y1.2.m_.Xw,y1.2.m_.Xx,y1.2.m_.Xk,y1.2.text_,y1.2.caps_,y1.2.port_))
            ) λ(o3:Str×Str×Str×Str×(List Xz)×Str×Str×(List Int)×Str) =>
           some ((y8.2,(plumb_state.mk (Xq.mk o3.1 o3.2.1 o3.2.2.1 o3.2.2.2.1 o3.2.2.2.2.1 o3.2.2.2.2.2.1) o3.2.2.2.2.2.2.1 o3.2.2.2.2.2.2.2.1 o3.2.2.2.2.2.2.2.2)))))))
      else
       (bif (x1.Xc==[116,121,112,101])then
        (bif(x1.Xn==[105,115])then
         some (((y1.2.m_.Xw==y1.1),y1.2))
        else
         (bif(x1.Xn==[105,115,110])then
          some (((!(y1.2.m_.Xw==y1.1)),y1.2))
         else
          (bif(x1.Xn==[115,101,116])then
           some ((true,(plumb_state.mk (Xq.mk y1.2.m_.Xg y1.2.m_.Xf y1.2.m_.Xm y1.1 y1.2.m_.Xx y1.2.m_.Xk) y1.2.text_ y1.2.caps_ y1.2.port_)))
          else
           (aO_ x1.Xd).bind λy9 =>
           (bif(y9.2.2 != 0)then
            some ((false,y1.2))
           else
            (ch_ y9.1 y1.2.m_.Xw).bind λy10 =>
            Option.bind (
             (bif y10.2 then
              some (y1.2.m_.Xg,y1.2.m_.Xf,y1.2.m_.Xm,y1.2.m_.Xw,y1.2.m_.Xx,y1.2.m_.Xk,y1.2.m_.Xw,y10.1,y1.2.port_)
             else
              some (y1.2.m_.Xg,y1.2.m_.Xf,y1.2.m_.Xm,y1.2.m_.Xw,y1.2.m_.Xx,y1.2.m_.Xk,y1.2.text_,y1.2.caps_,y1.2.port_))
             ) λ(o4:Str×Str×Str×Str×(List Xz)×Str×Str×(List Int)×Str) =>
            some ((y10.2,(plumb_state.mk (Xq.mk o4.1 o4.2.1 o4.2.2.1 o4.2.2.2.1 o4.2.2.2.2.1 o4.2.2.2.2.2.1) o4.2.2.2.2.2.2.1 o4.2.2.2.2.2.2.2.1 o4.2.2.2.2.2.2.2.2)))))))
       else
        (bif(x1.Xn==[105,115])then
         some (((y1.2.m_.Xk==y1.1),y1.2))
        else
         (bif(x1.Xn==[105,115,110])then
          some (((!(y1.2.m_.Xk==y1.1)),y1.2))
         else
          (bif(x1.Xn==[115,101,116])then
           some ((true,(plumb_state.mk (Xq.mk y1.2.m_.Xg y1.2.m_.Xf y1.2.m_.Xm y1.2.m_.Xw y1.2.m_.Xx y1.1) y1.2.text_ y1.2.caps_ y1.2.port_)))
          else
           (aO_ x1.Xd).bind λy11 =>
           (bif(y11.2.2 != 0)then
            some ((false,y1.2))
           else
            (ch_ y11.1 y1.2.m_.Xk).bind λy12 =>
            Option.bind (
             (bif y12.2 then
              some (y1.2.m_.Xg,y1.2.m_.Xf,y1.2.m_.Xm,y1.2.m_.Xw,y1.2.m_.Xx,y1.2.m_.Xk,y1.2.m_.Xk,y12.1,y1.2.port_)
             else
              some (y1.2.m_.Xg,y1.2.m_.Xf,y1.2.m_.Xm,y1.2.m_.Xw,y1.2.m_.Xx,y1.2.m_.Xk,y1.2.text_,y1.2.caps_,y1.2.port_))
             ) λ(o5:Str×Str×Str×Str×(List Xz)×Str×Str×(List Int)×Str) =>
            some ((y12.2,(plumb_state.mk (Xq.mk o5.1 o5.2.1 o5.2.2.1 o5.2.2.2.1 o5.2.2.2.2.1 o5.2.2.2.2.2.1) o5.2.2.2.2.2.2.1 o5.2.2.2.2.2.2.2.1 o5.2.2.2.2.2.2.2.2))))))))))))))
theorem kw_:cy_=dX_:=by
 funext x0 x1
 simp only[cy_,dX_,nZ_]<;>rfl
def eX_(x0:Xy)(s2:Int×Str×Str×Str×Str×(List Xz)×Str×Str×(List Int)×Str):Option (Step (Int×Str×Str×Str×Str×(List Xz)×Str×Str×(List Int)×Str) (Out plumb_state (Xq×Str×Bool))) :=
 (bif(decide (s2.1<(x0.Xt.length:Int)))then
  (ai_ x0.Xt s2.1).bind λy7 =>
  (dX_ (plumb_state.mk (Xq.mk s2.2.1 s2.2.2.1 s2.2.2.2.1 s2.2.2.2.2.1 s2.2.2.2.2.2.1 s2.2.2.2.2.2.2.1) s2.2.2.2.2.2.2.2.1 s2.2.2.2.2.2.2.2.2.1 s2.2.2.2.2.2.2.2.2.2) y7).bind λy8 =>
  (bif(!y8.1)then
   some (.done (.ret (((Xq.mk [] [] [] [] [] []),[],false))))
  else
   some (.next ((w64 (s2.1+1)),y8.2.m_.Xg,y8.2.m_.Xf,y8.2.m_.Xm,y8.2.m_.Xw,y8.2.m_.Xx,y8.2.m_.Xk,y8.2.text_,y8.2.caps_,y8.2.port_)))
 else
  some (.done (.fall (plumb_state.mk (Xq.mk s2.2.1 s2.2.2.1 s2.2.2.2.1 s2.2.2.2.2.1 s2.2.2.2.2.2.1 s2.2.2.2.2.2.2.1) s2.2.2.2.2.2.2.2.1 s2.2.2.2.2.2.2.2.2.1 s2.2.2.2.2.2.2.2.2.2))))
theorem lu_:fW_=eX_:=by
 funext x0 s2
 simp only[fW_,eX_,kw_]<;>rfl
def gF_ (x0:Xy) (x1:Xq):Option (Xq×Str×Bool) :=
 (gE_ x0).bind λy1 =>
 Option.bind (bif(!y1)then some true else 
  (bD_ x1).bind λy2 =>
  some (y2 != 0)
  ) λ(y3:Bool) =>
 (bif y3 then
  some (((Xq.mk [] [] [] [] [] []),[],false))
 else
  (aM_ x1.Xx).bind λy4 =>
  Option.bind (ah_ (eX_ x0) BIG (0,x1.Xg,x1.Xf,x1.Xm,x1.Xw,y4,x1.Xk,[],[],[])) λ(wo1:Out plumb_state (Xq×Str×Bool))=>match wo1 with
  | .ret r1=>some r1
  | .fall o1 =>
   (bD_ o1.m_).bind λy9 =>
   (bif(y9 != 0)then
    some (((Xq.mk [] [] [] [] [] []),[],false))
   else
    some ((o1.m_,o1.port_,true))))
theorem n0_:gd_=gF_:=by
 funext x0 x1
 simp only[gd_,gF_,nY_,lu_]<;>rfl
def jA_  : Option Bool:=gC_ c1_ b2_ gD_ gF_
theorem n1_:bs_=jA_:=by
 simp only[bs_,jA_,nX_,n0_]<;>rfl
theorem alive_eq:bs_=some true:=by
 rw[n1_]
 kernel_rfl
end
theorem attr_fit{x:Xq}(h:Fit te (.st 1) x):AttrL x.Xx:=by
 have h1:x.Xx.length<=9223372036854775807/\∀a∈x.Xx,FitL (FitC te 0) (te.flat (.st 0)) (te.fl (.st 0) a):=(h 1).2.2.2.2.1;exact⟨h1.1,λa ha=>(h1.2 a ha).1,λa ha=>(h1.2 a ha).2.1⟩
theorem jC_(x0:Xq)(x1:Str)(h0:Fit te (.st 1) x0)(_:Fit te .str x1):bS_ x0 x1=some true:=nW_ alive_eq (attr_fit h0)
theorem mA_(x0:Xq)(h0:Fit te (.st 1) x0):cT_ x0=some true:=back_true alive_eq (attr_fit h0)
end Go.Proofs.YtbdcelleafhelaaGreatDoor
