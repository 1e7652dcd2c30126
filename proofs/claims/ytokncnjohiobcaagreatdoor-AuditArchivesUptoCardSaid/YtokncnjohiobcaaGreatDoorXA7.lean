/-
 What the statements of this seat hang on,part 7: Fns2 Te Ch ShCt LCt ShFi LFi LGa LGb ShGr LGr ShIb LIb ShIx LIx ShSb LSb Lq ShSf LSf K1 K2 K3 K4 K5 K6 K7.
-/
import Derived.Test.YtokncnjohiobcaaGreatDoorXA6
import Derived.Test.YtokncnjohiobcaaGreatDoorProg
import Derived.KernelRfl
import Derived.Test.YtokncnjohiobcaaGreatDoorRows
import Derived.LaidMore
import Derived.LaidSub
import Derived.Lib.LaidTab
import Derived.Stop.Joined
import Derived.Lay
import Derived.MakeChecks
import Derived.Shelf.Strings.Count
import Derived.Ground.NamesProg
import Derived.Lib.Agree
import Derived.Shelf.Strconv.Itoa4
import Derived.Shelf.Strings.Builder2
import Derived.Shelf.Strings.Search1
import Derived.Shelf.Strings.Search2
import Derived.Shelf.Strings.Builder1
import Derived.Sort.Grow
import Derived.Sort.EncStr
import Derived.Shelf.SlSortCmp.NoneTotal
import Derived.Shelf.SlSortCmp.WholeK
import Derived.Shelf.SlGeneric
import Derived.WalkKit
namespace Go.Proofs.YtokncnjohiobcaaGreatDoor
open Go.Rt Go.RowKit
noncomputable section
def u9_(x0:Int)(f:Int×Int):tO (Step (Int×Int) Int):=
 (bif f.2<x0 then
  some (.next ((w64 (f.1*32)),(w64 (f.2+1))))
 else
  some (.done f.1))
def b0_(x0:Int):tO Int:=(aj_ (u9_ x0) BIG (1024,0)).bind λf=>some f
def c8_(G:tR×Int×Xy)(C y:Int)(D:Vr)(m:Xy->Vr->tR->Int->Int->tO (tR×Int×Xy))(f:P_21):tO (Step P_21 (Out P_15 (tR×Int×Xy))):=
 (bif f.2.1<(IntKind.i64.wrap ((G.1.length:Int).tdiv 32)) then
  Option.bind (
   (b0_ (w64 (C-1))).bind λj=>
   Option.bind (bif (w64 ((w64 ((w64 (y*32))+f.2.1))*j))>=D.hi_ then some true else 
    (b0_ (w64 (C-1))).bind λx=>
    some ((w64 ((w64 ((w64 ((w64 (y*32))+f.2.1))*j))+x))<=D.lo_)
    ) λ(u:tV)=>
   (bif u then
    some (.fall (f.1,f.2.2.1,f.2.2.2.1,f.2.2.2.2))
   else
    (aA_ G.1 (w64 (f.2.1*32)) (w64 ((w64 (f.2.1+1))*32))).bind λs=>
    (m (Xy.mk (Xs.mk f.2.2.1 f.2.2.2.1) f.2.2.2.2) D s (w64 (C-1)) (w64 ((w64 (y*32))+f.2.1))).bind λh=>
    (bif(h.2.1 !=0)then
     some (.ret ([],h.2.1,h.2.2))
    else
     (cat f.1 h.1).bind λq=>
     some (.fall (q,h.2.2.Jg.Zn,h.2.2.Jg.Xp,h.2.2.Gy))))
   ) λ(F:Out P_15 (tR×Int×Xy))=>match F with
  | .ret J=>some (.done (.ret J))
  | .fall p=>
   some (.next (p.1,(w64 (f.2.1+1)),p.2.1,p.2.2.1,p.2.2.2))
 else
  some (.done (.fall (f.1,f.2.2.1,f.2.2.2.1,f.2.2.2.2))))
def bS_(m:Xy->Vr->tR->Int->Int->tO (tR×Int×Xy))(x0:Xy)(j:Vr)(C:tR)(h p:Int):tO (tR×Int×Xy):=
 Option.bind (
  (bif(h==0)then
   some j.Iy
  else
   some 2)
  ) λ(F:Int)=>
 (b2_ x0 C F).bind λf=>
 (bif(f.2.1 !=0)then
  some ([],f.2.1,f.2.2)
 else
  (bR_ j h p).bind λy=>
  (bif((f.1.length:Int)!=y)then
   some ([],2,f.2.2)
  else
   (b0_ h).bind λu=>
   (bif(h==0)then
    (aA_ f.1 (by_ 0 (w64 (j.lo_-(w64 (p*u))))) (bO_ (f.1.length:Int) (w64 (j.hi_-(w64 (p*u)))))).bind λx=>
    some (x,0,f.2.2)
   else
    Option.bind (aj_ (c8_ f h p j m) BIG ([],0,f.2.2.Jg.Zn,f.2.2.Jg.Xp,f.2.2.Gy)) λ(s:Out P_15 (tR×Int×Xy))=>match s with
    | .ret D=>some D
    | .fall q=>
     some (q.1,0,(Xy.mk (Xs.mk q.2.1 q.2.2.1) q.2.2.2)))))
def bu_:Nat->Xy->Vr->tR->Int->Int->tO (tR×Int×Xy)|0=>λ_ _ _ _ _=>none|n+1=>bS_ (bu_ n)
def cP_(x0:Xy)(f:Yl)(m:Int):tO (tR×Int×Xy):=
 (iE_ f).bind λp=>
 (bif(!p)then
  some ([],2,x0)
 else
  (bif(f.Yx==0)then
   (b2_ x0 f.Ya m).bind λh=>
   Option.bind (
    (bif((h.2.1==0)&&(!(h.1==[])))then
     some 2
    else
     some h.2.1)
    ) λ(q:Int)=>
   some ([],q,h.2.2)
  else
   (bu_ BIG x0 (Vr.mk m f.Yx 0 f.Yx) f.Ya f.Jf 0).bind λj=>
   some (j.1,j.2.1,j.2.2)))
def cm_(x0:tR)(f:P_9):tO (Step P_9 P_9):=
 (bif(decide (f.1.at_<(x0.length:Int))&&(!f.1.Jx))then
  (cl_ f.1).bind λh=>
  (room 160 f.2 [h.1]).bind λj=>
  some (.next (h.2,j))
 else
  some (.done (f.1,f.2)))
def gk_(x0:tR):tO ((tL Yv)×tV):=(aj_ (cm_ x0) BIG ((Yc.mk x0 0 false),[])).bind λ(f:P_9)=>some (f.2,(!f.1.Jx))
def aW_(x0:tL Yv)(m:Yv->tO tV)(f:Int):tO (Step Int (Out Unit Int)):=
 (bif f<(x0.length:Int) then
  (ah_ x0 f).bind λj=>
  (m j).bind λh=>
  (bif h then
   some (.done (.ret f))
  else
   some (.next (w64 (f+1))))
 else
  some (.done (.fall ())))
def bz_(x0:tL Yv)(h:Yv->tO tV):tO Int:=
 (aj_ (aW_ x0 h) BIG 0).bind λf=>match f with
 | .ret j=>some j
 | .fall _=>
  some (-1)
def aL_(x0:tL Yv)(h:Yv->tO tV):tO tV:=(bz_ x0 h).bind λf=>some (f>=0)
def bX_(x0 f:Yv):tO tV:=some (x0.Ur.Xn !=f.Ur.Id_)
def br_(p:(tL Yv)×tV)(j:Yq->Xy->Yv->tO P_16)(h:P_30):tO (Step P_30 (Out (Int×Int×(tL Zx)×(tL tR)×(tL Xx)) P_16)):=
 (bif h.1<(p.1.length:Int) then
  (ah_ h.2.2.2.2.2.2 h.1).bind λm=>
  (j (Yq.mk h.2.2.2.2.2.1 h.2.1) (Xy.mk (Xs.mk h.2.2.1 h.2.2.2.1) h.2.2.2.2.1) m).bind λf=>
  (bif(f.1 !=0)then
   some (.done (.ret (f.1,f.2.1,f.2.2)))
  else
   some (.next ((w64 (h.1+1)),f.2.1.Gh,f.2.2.Jg.Zn,f.2.2.Jg.Xp,f.2.2.Gy,f.2.1.Ko,h.2.2.2.2.2.2)))
 else
  some (.done (.fall (h.2.1,h.2.2.1,h.2.2.2.1,h.2.2.2.2.1,h.2.2.2.2.2.1))))
def ba_(j:Yq->Xy->Yv->tO P_16)(x0:Yq)(h0:Xy)(f:Yv):tO P_16:=
 (bif (x0.Ko.length:Int)>=x0.Gh then
  some (2,x0,h0)
 else
  Option.bind (
   (dv_ f.Ur).bind λC=>
   (bif C then
    some 3
   else
    some 1)
   ) λ(G:Int)=>
  (cP_ h0 f.Gu G).bind λh=>
  (bif(h.2.1 !=0)then
   some (h.2.1,x0,h.2.2)
  else
   (dv_ f.Ur).bind λy=>
   (bif(!y)then
    (room 128 x0.Ko [(Xx.mk f.Ur.Id_ f.Ur.Xn f.Ur.Yz f.Ur.Xk f.Ur.Xg f.Ur.Wh f.Ur.Wg f.Ur.Zr f.Ur.Ys f.Ur.Yt h.1)]).bind λx=>
    some (0,(Yq.mk x x0.Gh),h.2.2)
   else
    (room 128 x0.Ko [f.Ur]).bind λq=>
    (gk_ h.1).bind λm=>
    Option.bind (bif(!m.2)then some true else 
     (aL_ m.1 (λ(u1:Yv)=>Option.bind (bX_ u1 f) λ(D:tV)=>some D)).bind λu=>
     some u
     ) λ(s:tV)=>
    (bif s then
     some (2,(Yq.mk q x0.Gh),h.2.2)
    else
     (aj_ (br_ m j) BIG (0,x0.Gh,h.2.2.Jg.Zn,h.2.2.Jg.Xp,h.2.2.Gy,q,m.1)).bind λp=>match p with
     | .ret F=>some F
     | .fall o2=>
      some (0,(Yq.mk o2.2.2.2.2 o2.1),(Xy.mk (Xs.mk o2.2.1 o2.2.2.1) o2.2.2.2.1))))))
def aR_:Nat->Yq->Xy->Yv->tO (P_16)|0=>λ_ _ _=>none|n+1=>ba_ (aR_ n)
def d3_(x0:Xy)(y:tR):tO P_1:=
 (b2_ x0 y 4).bind λf=>
 (bif(f.2.1 !=0)then
  some ((Xb.mk 0 []),f.2.1,f.2.2)
 else
  (aB_ (Yc.mk f.1 0 false) 4).bind λq=>
  (aB_ q.2 4).bind λj=>
  (cl_ j.2).bind λp=>
  (bif(((p.2.Jx||(p.2.at_ !=(f.1.length:Int)))||(j.1<1))||(j.1>1024))then
   some ((Xb.mk 0 []),2,f.2.2)
  else
   Option.bind (aR_ BIG (Yq.mk [] j.1) f.2.2 p.1) λ(h:P_16)=>
   (bif(h.1 !=0)then
    some ((Xb.mk 0 []),h.1,h.2.2)
   else
    (hy_ (λ(x:Xx)=>x.Id_) h.2.1.Ko).bind λm=>
    Option.bind (bif((m.length:Int)!=j.1)then some true else 
     (fy_ (Xb.mk q.1 m)).bind λu=>
     some (!u)
     ) λ(s:tV)=>
    (bif s then
     some ((Xb.mk 0 []),2,h.2.2)
    else
     some ((Xb.mk q.1 m),0,h.2.2)))))
def et_(x0:Xs)(h:tR):tO (Xb×Int):=(d3_ (Xy.mk x0 []) h).bind λ(f:P_1)=>some (f.1,f.2.1)
def iF_(x0:Zk)(j:Int):tO (Xb×Int):=
 (k7_ x0 j).bind λh=>
 (bif(!h.2)then
  some ((Xb.mk 0 []),8)
 else
  (et_ x0.Ux h.1.Ya).bind λf=>
  some (f.1,f.2))
def eu_(x0 m:tL Xx)(f:Int):tO (Step Int (Out Unit tV)):=
 (bif f<(x0.length:Int) then
  (ah_ x0 f).bind λj=>
  (ah_ m f).bind λh=>
  (bif(!decide (j=h))then
   some (.done (.ret false))
  else
   some (.next (w64 (f+1))))
 else
  some (.done (.fall ())))
def b7_(x0 h:tL Xx):tO tV:=
 (bif((x0.length:Int)!=(h.length:Int))then
  some false
 else
  (aj_ (eu_ x0 h) BIG 0).bind λf=>match f with
  | .ret j=>some j
  | .fall _=>
   some true)
def bN_(x0:Xv)(f x:Int)(j:Xb):tO tV:=
 (orO (decide (f<0)||(f>=(x0.Yj.Yb.length:Int))) ((ah_ x0.Yj.Yb f).bind λu=>
  some (u.Xj !=2))).bind λs=>
 (bif s then
  some false
 else
  (ah_ x0.Yj.Yb f).bind λq=>
  (iF_ q.Zt x).bind λh=>
  (anO ((h.2==0)&&(h.1.Xf==j.Xf)) ((b7_ h.1.Xz j.Xz).bind λp=>
   some p)).bind λm=>
  some m)
def ref17_At_L1(x0:Zk)(m f:Int):tO (Step Int (Out Unit (Vi×tV))):=
 (bif f>=0 then
  (ah_ x0.Yy f).bind λj=>
  (bif j.Wu<=m then
   (ah_ x0.Yy f).bind λh=>
   some (.done (.ret (h,true)))
  else
   some (.next (w64 (f-1))))
 else
  some (.done (.fall ())))
def va_(x0:Zk)(h:Int):tO (Vi×tV):=
 (aj_ (ref17_At_L1 x0 h) BIG (w64 ((x0.Yy.length:Int)-1))).bind λf=>match f with
 | .ret j=>some j
 | .fall _=>
  some ((Vi.mk 0 []),false)
def jY_(x0:Zk)(j:Int):tO (Xb×Int):=
 (va_ x0 j).bind λh=>
 (bif(!h.2)then
  some ((Xb.mk 0 []),8)
 else
  (du_ x0.Ux h.1.Ya).bind λf=>
  some (f.1,f.2))
def lX_(x0 m:Xb)(f:Int):tO (Step Int (Out Unit tV)):=
 (bif f<(x0.Xz.length:Int) then
  (ah_ x0.Xz f).bind λj=>
  (ah_ m.Xz f).bind λh=>
  (bif(!decide (j=h))then
   some (.done (.ret false))
  else
   some (.next (w64 (f+1))))
 else
  some (.done (.fall ())))
def hf_(x0 f:Xb):tO tV:=
 (bif((x0.Xf !=f.Xf)||((x0.Xz.length:Int)!=(f.Xz.length:Int)))then
  some false
 else
  (aj_ (lX_ x0 f) BIG 0).bind λh=>match h with
  | .ret j=>some j
  | .fall _=>
   some true)
def cn_(x0:Xv)(f x:Int)(u:Xb):tO tV:=
 (orO (decide (f<0)||(f>=(x0.Yj.Yb.length:Int))) ((ah_ x0.Yj.Yb f).bind λs=>
  some (s.Xj !=2))).bind λq=>
 (bif q then
  some false
 else
  (ah_ x0.Yj.Yb f).bind λp=>
  (jY_ p.Zt x).bind λh=>
  (anO (h.2==0) ((hf_ h.1 u).bind λm=>
   some m)).bind λj=>
  some j)
def cR_(x0:Xv)(f j:Int)(m:Xb):tO tV:=
 (kV_ x0).bind λV=>
 (orO ((!V)||((m.Xz.length:Int)>200)) ((k4_ x0).bind λU=>
  some (!U))).bind λO=>
 (bif O then
  (eI_).bind λM=>
  some M
 else
  (bN_ x0 f j m).bind λJ=>
  (cn_ x0 f j m).bind λG=>
  (bif(!(J==G))then
   some false
  else
   (orO (decide (f<0)||(f>=(x0.Yj.Yb.length:Int))) ((ah_ x0.Yj.Yb f).bind λF=>
    some (F.Xj !=2))).bind λD=>
   (bif D then
    (bN_ x0 f j m).bind λC=>
    (anO (!C) ((eI_).bind λy=>
     some y)).bind λx=>
    some x
   else
    (ah_ x0.Yj.Yb f).bind λu=>
    (jY_ u.Zt j).bind λh=>
    (bN_ x0 f j h.1).bind λs=>
    (anO (s==(h.2==0)) ((eI_).bind λq=>
     some q)).bind λp=>
    some p)))
def teS:Nat->Type|0=>Xt|1=>Vl|2=>Xd|3=>Yo|4=>Uq|5=>Xx|6=>Xb|7=>Zq|8=>Zx|9=>Xs|10=>Vi|11=>Zk|12=>Kg|13=>Jm|14=>Jn|15=>Uo|16=>Jp|17=>Kz|18=>Un|19=>Qx|20=>Ue|21=>Xr|22=>Wm|23=>Ui|24=>Ul|25=>Wd|26=>Vm|27=>Yp|28=>Uj|29=>Js|30=>Wz|31=>Zj|32=>Ku|33=>Wr|34=>Zv|35=>Kr|36=>Vz|37=>Xl|38=>Zi|39=>Yu|40=>Zf|41=>Xm|42=>Zw|43=>Zs|44=>Vy|45=>Xe|46=>Vh|47=>Vv|48=>Yd|49=>Uk|50=>Jq|51=>Ww|52=>Zb|53=>Xa|54=>Wl|55=>Uv|56=>Yi|57=>Jb|58=>Qd|59=>Jr|60=>Xv|61=>Zg|62=>Yl|63=>Zc|64=>Kp|65=>Xw|66=>Zh|67=>Zd|68=>Yn|69=>Uw|70=>Qc|71=>Qh|72=>Xh|73=>Yk|74=>Xy|75=>Yf|76=>Wy|77=>Yc|78=>Yv|79=>Yq|80=>Vr|81=>Gj|_=>Int
def teCs:Nat->tL Ty|0=>[.int .i64,.str,.str,.sl (.st 0),.sl (.st 2)]|1=>[.int .i64,.int .i64,.int .i64,.int .i64,.str,.str,.sl (.st 0),.sl (.st 2),.bool]|2=>[.int .i64,.int .i64,.str,.sl (.st 0),.sl (.st 1),.sl (.st 2)]|3=>[.str,.str,.sl .str]|4=>[.str,.int .i64,.int .i64]|5=>[.int .i64,.int .i64,.int .i64,.str,.int .i64,.str,.str,.str,.int .i64,.int .i64,.str]|6=>[.int .i64,.sl (.st 5)]|7=>[.sl (.st 3),.sl (.st 4),.int .i64,.sl (.st 5),.sl (.int .i64)]|8=>[.str,.int .i64,.str]|9=>[.int .i64,.sl (.st 8)]|10=>[.int .i64,.str]|11=>[.sl (.st 3),.sl (.st 4),.int .i64,.sl (.st 5),.sl (.int .i64),.int .i64,.sl (.st 8),.sl (.st 10)]|12=>[.str,.int .i64,.int .i64,.bool]|13=>[.str,.int .i64,.int .i64,.bool,.str,.int .i64,.int .i64,.bool]|14=>[.int .i64,.str,.int .i64,.int .i64,.bool,.str,.int .i64,.int .i64,.bool]|15=>[.int .i64,.sl (.st 14)]|16=>[.bool,.str,.sl .str]|17=>[.int .i64,.str,.bool,.str,.sl .str,.str,.int .i64,.bool]|18=>[.int .i64,.int .i64,.sl (.st 17)]|19=>[.str,.str,.str]|20=>[.sl (.st 19)]|21=>[.str,.str,.bool]|22=>[.str,.str,.str,.str,.sl (.st 21),.str]|23=>[.str,.sl (.st 22),.int .i64]|24=>[.sl (.st 20),.sl (.st 23)]|25=>[.int .i64,.str,.int .i64,.int .i64,.int .i64,.sl (.st 21),.str,.str,.str,.int .i64]|26=>[.str,.str,.sl (.sl (.st 21)),.int .i64,.sl (.st 25),.int .i64]|27=>[.int .i64,.sl (.st 3),.sl (.st 4),.int .i64,.sl (.st 5),.sl (.int .i64),.sl (.st 3),.sl (.st 4),.int .i64,.sl (.st 5),.sl (.int .i64),.int .i64,.sl (.st 8),.sl (.st 10),.int .i64,.sl (.st 14),.int .i64,.int .i64,.sl (.st 17),.sl (.st 20),.sl (.st 23),.str,.str,.sl (.sl (.st 21)),.int .i64,.sl (.st 25),.int .i64,.str,.int .i64,.int .i64]|28=>[.sl (.st 21)]|29=>[.str,.str,.str]|30=>[.int .i64,.str,.str,.int .i64,.str,.str,.str,.str,.str,.str,.int .i64,.str,.sl (.int .i64),.int .i64]|31=>[.sl (.st 28),.int .i64,.sl (.st 30)]|32=>[.int .i64,.str]|33=>[.int .i64,.int .i64,.int .i64,.str,.str,.int .i64,.int .i64,.int .i64,.str,.sl .str,.str,.sl (.st 32),.bool]|34=>[.int .i64,.int .i64,.sl (.st 33)]|35=>[.int .i64,.str,.sl .str]|36=>[.int .i64,.int .i64,.sl (.st 35)]|37=>[.int .i64,.sl (.st 27),.sl (.st 28),.int .i64,.sl (.st 30),.int .i64,.int .i64,.sl (.st 33),.sl (.st 36)]|38=>[.int .i64,.int .i64,.str,.bool,.bool,.int .i64,.int .i64]|39=>[.int .i64,.int .i64,.int .i64]|40=>[.int .i64,.int .i64,.int .i64,.int .i64,.int .i64,.int .i64,.int .i64,.int .i64,.int .i64,.str,.str,.str,.str]|41=>[.int .i64,.int .i64,.int .i64,.int .i64,.int .i64,.int .i64,.int .i64,.str,.str,.str,.sl .str,.sl (.st 39),.int .i64,.int .i64,.int .i64,.int .i64,.int .i64,.int .i64,.str,.int .i64,.int .i64,.str,.int .i64,.int .i64,.int .i64,.int .i64,.int .i64,.int .i64,.int .i64,.int .i64,.int .i64,.str,.str,.str,.str,.int .i64,.int .i64,.int .i64,.str]|42=>[.int .i64,.bool,.int .i64,.str,.sl (.st 38),.sl (.st 41)]|43=>[.int .i64,.int .i64,.int .i64,.int .i64]|44=>[.str,.sl (.st 38),.int .i64]|45=>[.int .i64,.int .i64,.bool,.int .i64,.int .i64,.sl (.st 42),.sl (.st 43),.sl (.st 44)]|46=>[.bool,.int .i64,.str,.str,.int .i64]|47=>[.int .i64,.int .i64,.int .i64,.int .i64,.int .i64,.int .i64,.int .i64,.str,.str,.str,.sl .str,.sl (.st 39),.int .i64,.int .i64,.int .i64,.int .i64,.int .i64,.int .i64,.str,.int .i64,.int .i64,.str,.int .i64,.int .i64,.int .i64,.int .i64,.int .i64,.int .i64,.int .i64,.int .i64,.int .i64,.str,.str,.str,.str,.int .i64,.int .i64,.int .i64,.str,.int .i64]|48=>[.bool,.int .i64,.str,.sl (.int .i64),.sl (.st 47),.str]|49=>[.int .i64,.int .i64,.int .i64,.str]|50=>[.int .i64,.int .i64,.int .i64]|51=>[.int .i64,.sl (.st 49),.sl (.st 50)]|52=>[.int .i64,.int .i64,.bool,.int .i64,.str,.str,.int .i64,.bool,.int .i64,.str,.sl (.int .i64),.sl (.st 47),.str,.int .i64,.sl (.st 49),.sl (.st 50),.str,.int .i64]|53=>[.int .i64,.int .i64,.int .i64,.str,.str]|54=>[.int .i64,.int .i64,.int .i64,.str,.str,.bool]|55=>[.int .i64,.int .i64,.int .i64,.str,.str,.sl (.st 54)]|56=>[.int .i64,.int .i64,.int .i64,.int .i64,.str,.str,.sl (.st 55)]|57=>[.int .i64,.int .i64,.int .i64,.int .i64,.str,.str,.int .i64,.int .i64,.int .i64]|58=>[.int .i64,.sl (.st 57)]|59=>[.int .i64,.int .i64,.sl (.st 2)]|60=>[.int .i64,.sl (.st 27),.sl (.st 28),.int .i64,.sl (.st 30),.int .i64,.int .i64,.sl (.st 33),.sl (.st 36),.sl (.st 45),.sl (.st 52),.sl (.st 56),.sl (.st 58),.sl (.st 59),.sl (.st 2),.int .i64]|61=>[.str,.int .i64,.bool]|62=>[.str,.int .i64,.int .i64]|63=>[.int .i64,.int .u8,.str,.bool,.int .i64,.int .i64]|64=>[.sl (.st 63),.int .i64]|65=>[.sl (.st 63),.int .i64,.int .i64,.bool]|66=>[.str,.bool]|67=>[.str,.str,.str,.str]|68=>[.int .i64,.sl (.st 27),.sl (.st 28),.int .i64,.sl (.st 30),.int .i64,.int .i64,.sl (.st 33),.sl (.st 36),.sl (.st 45),.int .i64,.int .i64,.bool,.int .i64,.str,.str,.int .i64,.bool,.int .i64,.str,.sl (.int .i64),.sl (.st 47),.str,.int .i64,.sl (.st 49),.sl (.st 50),.str,.int .i64]|69=>[.str,.int .i64]|70=>[.int .i64,.int .i64,.int .i64,.int .i64,.int .i64,.int .i64,.int .i64,.int .i64,.str,.str,.str,.sl .str,.sl (.st 39),.int .i64,.int .i64,.int .i64,.int .i64,.int .i64,.int .i64,.str,.int .i64,.int .i64,.str,.int .i64,.int .i64,.int .i64,.int .i64,.int .i64,.int .i64,.int .i64,.int .i64,.int .i64,.str,.str,.str,.str,.int .i64,.int .i64,.int .i64,.str]|71=>[.int .i64,.int .i64,.str,.str]|72=>[.int .i64,.str]|73=>[.int .i64,.int .i64,.int .i64]|74=>[.int .i64,.sl (.st 8),.sl .str]|75=>[.int .u32,.int .u32,.int .u32,.int .u32,.int .u32,.int .u32,.int .u32,.int .u32]|76=>[.int .u32,.int .u32,.int .u32,.int .u32,.int .u32,.int .u32,.int .u32,.int .u32,.int .u32,.int .u32,.int .u32,.int .u32,.int .u32,.int .u32,.int .u32,.int .u32,.int .u32,.int .u32,.int .u32,.int .u32,.int .u32,.int .u32,.int .u32,.int .u32,.int .u32,.int .u32,.int .u32,.int .u32,.int .u32,.int .u32,.int .u32,.int .u32,.int .u32,.int .u32,.int .u32,.int .u32,.int .u32,.int .u32,.int .u32,.int .u32,.int .u32,.int .u32,.int .u32,.int .u32,.int .u32,.int .u32,.int .u32,.int .u32,.int .u32,.int .u32,.int .u32,.int .u32,.int .u32,.int .u32,.int .u32,.int .u32,.int .u32,.int .u32,.int .u32,.int .u32,.int .u32,.int .u32,.int .u32,.int .u32]|77=>[.str,.int .i64,.bool]|78=>[.int .i64,.int .i64,.int .i64,.str,.int .i64,.str,.str,.str,.int .i64,.int .i64,.str,.str,.int .i64,.int .i64]|79=>[.sl (.st 5),.int .i64]|80=>[.int .i64,.int .i64,.int .i64,.int .i64]|81=>[.int .u64,.int .u64,.int .u64,.int .u64,.int .u64,.int .u64,.int .u64,.int .u64,.int .u64,.int .u64,.int .u64,.int .u64,.int .u64,.int .u64,.int .u64,.int .u64,.int .u64,.int .u64,.int .u64,.int .u64]|_=>[.int .i64]
set_option maxHeartbeats 8000000 in
def teUn:(n:Nat)->teS n->HL teS (teCs n)|0,d=>(d.Xj,d.Wf,d.Ub,d.Yr,d.Jj,())|1,d=>(d.Xj,d.Fd_,d.Ql,d.Uy.Xj,d.Uy.Wf,d.Uy.Ub,d.Uy.Yr,d.Uy.Jj,d.Gg,())|2,d=>(d.Xj,d.At_,d.Xk,d.Yr,d.Vg,d.We,())|3,d=>(d.Xk,d.Qm,d.Vs,())|4,d=>(d.Ye,d.Xo,d.Ju,())|5,d=>(d.Id_,d.Xn,d.Yz,d.Xk,d.Xg,d.Wh,d.Wg,d.Zr,d.Ys,d.Yt,d.Xi,())|6,d=>(d.Xf,d.Xz,())|7,d=>(d.Ug,d.Wo,d.Zm.Xf,d.Zm.Xz,d.Zu,())|8,d=>(d.Ya,d.Xj,d.Xi,())|9,d=>(d.Zn,d.Xp,())|10,d=>(d.Wu,d.Ya,())|11,d=>(d.Xo.Ug,d.Xo.Wo,d.Xo.Zm.Xf,d.Xo.Zm.Xz,d.Xo.Zu,d.Ux.Zn,d.Ux.Xp,d.Yy,())|12,d=>(d.Xi,d.Qo,d.Qu,d.Ka,())|13,d=>(d.a0_.Xi,d.a0_.Qo,d.a0_.Qu,d.a0_.Ka,d.a1_.Xi,d.a1_.Qo,d.a1_.Qu,d.a1_.Ka,())|14,d=>(d.Id_,d.Qi.a0_.Xi,d.Qi.a0_.Qo,d.Qi.a0_.Qu,d.Qi.a0_.Ka,d.Qi.a1_.Xi,d.Qi.a1_.Qo,d.Qi.a1_.Qu,d.Qi.a1_.Ka,())|15,d=>(d.Xf,d.L_,())|16,d=>(d.Gg,d.Wf,d.Kt,())|17,d=>(d.Id_,d.Hq,d.Gk.Gg,d.Gk.Wf,d.Gk.Kt,d.Wf,d.Qj,d.Hw,())|18,d=>(d.Xf,d.Kl,d.L_,())|19,d=>(d.Jk,d.Jd,d.Gf,())|20,d=>(d.Qb,())|21,d=>(d.Xk,d.Qk,d.Qt,())|22,d=>(d.Gr,d.Hx,d.Hj,d.Xu,d.Qv,d.Xi,())|23,d=>(d.Xk,d.Jt,d.Qj,())|24,d=>(d.Kq,d.Qe,())|25,d=>(d.Id_,d.Jy,d.Ke,d.Gq,d.Km,d.Gm,d.Hk,d.Jl,d.Ye,d.Um,())|26,d=>(d.Jv,d.Ki,d.Qs,d.Xf,d.Jw,d.Wn,())|27,d=>(d.Xj,d.Xo.Ug,d.Xo.Wo,d.Xo.Zm.Xf,d.Xo.Zm.Xz,d.Xo.Zu,d.Zt.Xo.Ug,d.Zt.Xo.Wo,d.Zt.Xo.Zm.Xf,d.Zt.Xo.Zm.Xz,d.Zt.Xo.Zu,d.Zt.Ux.Zn,d.Zt.Ux.Xp,d.Zt.Yy,d.Jh.Xf,d.Jh.L_,d.Qn.Xf,d.Qn.Kl,d.Qn.L_,d.Qp.Kq,d.Qp.Qe,d.Uu.Jv,d.Uu.Ki,d.Uu.Qs,d.Uu.Xf,d.Uu.Jw,d.Uu.Wn,d.Qf,d.Vk,d.Kx,())|28,d=>(d.Qv,())|29,d=>(d.Vu,d.Qf,d.Kf,())|30,d=>(d.Id_,d.Qf,d.Jv,d.Qw,d.Kj.Vu,d.Kj.Qf,d.Kj.Kf,d.Gv.Vu,d.Gv.Qf,d.Gv.Kf,d.Jl,d.Xi,d.Jz,d.Qj,())|31,d=>(d.Db_,d.Xf,d.Wi,())|32,d=>(d.Id_,d.Ji,())|33,d=>(d.Id_,d.Xn,d.Qw,d.Ye,d.Xk,d.Ns_,d.Gt,d.Gl,d.Kb,d.Kn,d.Ji,d.Us,d.Im,())|34,d=>(d.Xf,d.Vk,d.L_,())|35,d=>(d.Id_,d.Xk,d.Gw,())|36,d=>(d.Id_,d.Xf,d.Kk,())|37,d=>(d.Ja,d.Yb,d.Vu.Db_,d.Vu.Xf,d.Vu.Wi,d.Ze.Xf,d.Ze.Vk,d.Ze.L_,d.Qy,())|38,d=>(d.Je,d.Id_,d.Ye,d.Kv,d.Hy,d.Xg,d.Xf,())|39,d=>(d.Xu,d.Yz,d.Yg,())|40,d=>(d.Xu,d.Zz,d.Xc.Xu,d.Xc.Yz,d.Xc.Yg,d.Xg,d.Ys,d.Yt,d.Yx,d.Xk,d.Wh,d.Wg,d.Zr,())|41,d=>(d.Xj,d.Wp,d.Wb,d.Vq,d.Za,d.Wc,d.Yh,d.Zp,d.Ye,d.Wx,d.Wv,d.Vj,d.Xc.Xu,d.Xc.Yz,d.Xc.Yg,d.Vx,d.Xg,d.Uc,d.Xk,d.Wj,d.Wn,d.Xi,d.Xq.Xu,d.Xq.Zz,d.Xq.Xc.Xu,d.Xq.Xc.Yz,d.Xq.Xc.Yg,d.Xq.Xg,d.Xq.Ys,d.Xq.Yt,d.Xq.Yx,d.Xq.Xk,d.Xq.Wh,d.Xq.Wg,d.Xq.Zr,d.Um,d.Vo,d.Ud,d.Ym,())|42,d=>(d.Id_,d.Up_,d.Yh,d.Ym,d.Wq,d.Us,())|43,d=>(d.Ua,d.Id_,d.Xj,d.Kw,())|44,d=>(d.Xk,d.Wq,d.Kw,())|45,d=>(d.Zz,d.Kv,d.Jo,d.Xf,d.Gx,d.Vw,d.Qa,d.Ky,())|46,d=>(d.Up_,d.Zn,d.Ws,d.Wa,d.Kh,())|47,d=>(d.Zo.Xj,d.Zo.Wp,d.Zo.Wb,d.Zo.Vq,d.Zo.Za,d.Zo.Wc,d.Zo.Yh,d.Zo.Zp,d.Zo.Ye,d.Zo.Wx,d.Zo.Wv,d.Zo.Vj,d.Zo.Xc.Xu,d.Zo.Xc.Yz,d.Zo.Xc.Yg,d.Zo.Vx,d.Zo.Xg,d.Zo.Uc,d.Zo.Xk,d.Zo.Wj,d.Zo.Wn,d.Zo.Xi,d.Zo.Xq.Xu,d.Zo.Xq.Zz,d.Zo.Xq.Xc.Xu,d.Zo.Xq.Xc.Yz,d.Zo.Xq.Xc.Yg,d.Zo.Xq.Xg,d.Zo.Xq.Ys,d.Zo.Xq.Yt,d.Zo.Xq.Yx,d.Zo.Xq.Xk,d.Zo.Xq.Wh,d.Zo.Xq.Wg,d.Zo.Xq.Zr,d.Zo.Um,d.Zo.Vo,d.Zo.Ud,d.Zo.Ym,d.Iv,())|48,d=>(d.Up_,d.Yh,d.Ym,d.Wq,d.Vn,d.Vt,())|49,d=>(d.Id_,d.Yz,d.At_,d.Xi,())|50,d=>(d.Id_,d.Yz,d.Kw,())|51,d=>(d.Zn,d.Xp,d.Ut,())|52,d=>(d.Wt,d.Ua,d.Wk.Up_,d.Wk.Zn,d.Wk.Ws,d.Wk.Wa,d.Wk.Kh,d.Yw.Up_,d.Yw.Yh,d.Yw.Ym,d.Yw.Wq,d.Yw.Vn,d.Yw.Vt,d.Vp.Zn,d.Vp.Xp,d.Vp.Ut,d.Ye,d.Zl,())|53,d=>(d.Zz,d.Id_,d.Wb,d.Yg,d.Xk,())|54,d=>(d.Qq.Zz,d.Qq.Id_,d.Qq.Wb,d.Qq.Yg,d.Qq.Xk,d.Ih,())|55,d=>(d.Ql.Zz,d.Ql.Id_,d.Ql.Wb,d.Ql.Yg,d.Ql.Xk,d.To_,())|56,d=>(d.Id_,d.Zl.Zz,d.Zl.Id_,d.Zl.Wb,d.Zl.Yg,d.Zl.Xk,d.Uf,())|57,d=>(d.Je,d.Qq.Zz,d.Qq.Id_,d.Qq.Wb,d.Qq.Yg,d.Qq.Xk,d.Xg,d.Wj,d.Gb,())|58,d=>(d.Id_,d.L_,())|59,d=>(d.Gc,d.Xn,d.Gi,())|60,d=>(d.Yj.Ja,d.Yj.Yb,d.Yj.Vu.Db_,d.Yj.Vu.Xf,d.Yj.Vu.Wi,d.Yj.Ze.Xf,d.Yj.Ze.Vk,d.Yj.Ze.L_,d.Yj.Qy,d.Uh,d.Qz,d.Qg,d.Xo,d.Kd,d.Kc,d.Jc,())|61,d=>(d.S_,d.At_,d.Zy,())|62,d=>(d.Ya,d.Yx,d.Jf,())|63,d=>(d.Op_,d.C_,d.Ip,d.Nn,d.X_,d.Y_,())|64,d=>(d.Ib,d.Ig,())|65,d=>(d.L_,d.At_,d.N_,d.Zy,())|66,d=>(d.S_,d.Zy,())|67,d=>(d.a0_,d.a1_,d.a2_,d.a3_,())|68,d=>(d.W_.Ja,d.W_.Yb,d.W_.Vu.Db_,d.W_.Vu.Xf,d.W_.Vu.Wi,d.W_.Ze.Xf,d.W_.Ze.Vk,d.W_.Ze.L_,d.W_.Qy,d.X_,d.K_.Wt,d.K_.Ua,d.K_.Wk.Up_,d.K_.Wk.Zn,d.K_.Wk.Ws,d.K_.Wk.Wa,d.K_.Wk.Kh,d.K_.Yw.Up_,d.K_.Yw.Yh,d.K_.Yw.Ym,d.K_.Yw.Wq,d.K_.Yw.Vn,d.K_.Yw.Vt,d.K_.Vp.Zn,d.K_.Vp.Xp,d.K_.Vp.Ut,d.K_.Ye,d.K_.Zl,())|69,d=>(d.S_,d.E_,())|70,d=>(d.Ua,d.Uz.Xj,d.Uz.Wp,d.Uz.Wb,d.Uz.Vq,d.Uz.Za,d.Uz.Wc,d.Uz.Yh,d.Uz.Zp,d.Uz.Ye,d.Uz.Wx,d.Uz.Wv,d.Uz.Vj,d.Uz.Xc.Xu,d.Uz.Xc.Yz,d.Uz.Xc.Yg,d.Uz.Vx,d.Uz.Xg,d.Uz.Uc,d.Uz.Xk,d.Uz.Wj,d.Uz.Wn,d.Uz.Xi,d.Uz.Xq.Xu,d.Uz.Xq.Zz,d.Uz.Xq.Xc.Xu,d.Uz.Xq.Xc.Yz,d.Uz.Xq.Xc.Yg,d.Uz.Xq.Xg,d.Uz.Xq.Ys,d.Uz.Xq.Yt,d.Uz.Xq.Yx,d.Uz.Xq.Xk,d.Uz.Xq.Wh,d.Uz.Xq.Wg,d.Uz.Xq.Zr,d.Uz.Um,d.Uz.Vo,d.Uz.Ud,d.Uz.Ym,())|71,d=>(d.Xj,d.Hm,d.Ks,d.Iw,())|72,d=>(d.Gp,d.Gz,())|73,d=>(d.Xj,d.A_,d.B_,())|74,d=>(d.Jg.Zn,d.Jg.Xp,d.Gy,())|75,d=>(d.a0_,d.a1_,d.a2_,d.a3_,d.a4_,d.a5_,d.a6_,d.a7_,())|76,d=>(d.a0_,d.a1_,d.a2_,d.a3_,d.a4_,d.a5_,d.a6_,d.a7_,d.a8_,d.a9_,d.Hn,d.Hp,d.Hr,d.Hl,d.Hi,d.Iz,d.Iq,d.Ix,d.Ij,d.Ik,d.Ic,d.Id,d.Ir,d.It,d.Il,d.Is,d.Ia,d.Ie,d.Ii,d.Io,d.Iu,d.Rz,d.Ry,d.Tz,d.Tq,d.Tx,d.Tj,d.Tv,d.Tw,d.Tm,d.Tn,d.Tr,d.Tt,d.Tl,d.Ts,d.To,d.Tu,d.Sz,d.Sx,d.Sv,d.Ss,d.Su,d.Nz,d.Nq,d.Nx,d.Nj,d.Nk,d.Nv,d.Nw,d.Ny,d.Nh,d.Ng,d.Nf,d.Nm,())|77,d=>(d.s_,d.at_,d.Jx,())|78,d=>(d.Ur.Id_,d.Ur.Xn,d.Ur.Yz,d.Ur.Xk,d.Ur.Xg,d.Ur.Wh,d.Ur.Wg,d.Ur.Zr,d.Ur.Ys,d.Ur.Yt,d.Ur.Xi,d.Gu.Ya,d.Gu.Yx,d.Gu.Jf,())|79,d=>(d.Ko,d.Gh,())|80,d=>(d.Iy,d.Ge,d.lo_,d.hi_,())|81,d=>(d.a0_,d.a1_,d.a2_,d.a3_,d.a4_,d.a5_,d.a6_,d.a7_,d.a8_,d.a9_,d.Hn,d.Hp,d.Hr,d.Hl,d.Hi,d.Iz,d.Iq,d.Ix,d.Ij,d.Ik,())|_+82,d=>(d,())
set_option maxHeartbeats 8000000 in
def teBd:(n:Nat)->HL teS (teCs n)->teS n
 | 0,h=>⟨h.1,h.2.1,h.2.2.1,h.2.2.2.1,h.2.2.2.2.1⟩
 | 1,h=>⟨h.1,h.2.1,h.2.2.1,⟨h.2.2.2.1,h.2.2.2.2.1,h.2.2.2.2.2.1,h.2.2.2.2.2.2.1,h.2.2.2.2.2.2.2.1⟩,h.2.2.2.2.2.2.2.2.1⟩
 | 2,h=>⟨h.1,h.2.1,h.2.2.1,h.2.2.2.1,h.2.2.2.2.1,h.2.2.2.2.2.1⟩
 | 3,h=>⟨h.1,h.2.1,h.2.2.1⟩
 | 4,h=>⟨h.1,h.2.1,h.2.2.1⟩
 | 5,h=>⟨h.1,h.2.1,h.2.2.1,h.2.2.2.1,h.2.2.2.2.1,h.2.2.2.2.2.1,h.2.2.2.2.2.2.1,h.2.2.2.2.2.2.2.1,h.2.2.2.2.2.2.2.2.1,h.2.2.2.2.2.2.2.2.2.1,h.2.2.2.2.2.2.2.2.2.2.1⟩
 | 6,h=>⟨h.1,h.2.1⟩
 | 7,h=>⟨h.1,h.2.1,⟨h.2.2.1,h.2.2.2.1⟩,h.2.2.2.2.1⟩
 | 8,h=>⟨h.1,h.2.1,h.2.2.1⟩
 | 9,h=>⟨h.1,h.2.1⟩
 | 10,h=>⟨h.1,h.2.1⟩
 | 11,h=>⟨⟨h.1,h.2.1,⟨h.2.2.1,h.2.2.2.1⟩,h.2.2.2.2.1⟩,⟨h.2.2.2.2.2.1,h.2.2.2.2.2.2.1⟩,h.2.2.2.2.2.2.2.1⟩
 | 12,h=>⟨h.1,h.2.1,h.2.2.1,h.2.2.2.1⟩
 | 13,h=>⟨⟨h.1,h.2.1,h.2.2.1,h.2.2.2.1⟩,⟨h.2.2.2.2.1,h.2.2.2.2.2.1,h.2.2.2.2.2.2.1,h.2.2.2.2.2.2.2.1⟩⟩
 | 14,h=>⟨h.1,⟨⟨h.2.1,h.2.2.1,h.2.2.2.1,h.2.2.2.2.1⟩,⟨h.2.2.2.2.2.1,h.2.2.2.2.2.2.1,h.2.2.2.2.2.2.2.1,h.2.2.2.2.2.2.2.2.1⟩⟩⟩
 | 15,h=>⟨h.1,h.2.1⟩
 | 16,h=>⟨h.1,h.2.1,h.2.2.1⟩
 | 17,h=>⟨h.1,h.2.1,⟨h.2.2.1,h.2.2.2.1,h.2.2.2.2.1⟩,h.2.2.2.2.2.1,h.2.2.2.2.2.2.1,h.2.2.2.2.2.2.2.1⟩
 | 18,h=>⟨h.1,h.2.1,h.2.2.1⟩
 | 19,h=>⟨h.1,h.2.1,h.2.2.1⟩
 | 20,h=>⟨h.1⟩
 | 21,h=>⟨h.1,h.2.1,h.2.2.1⟩
 | 22,h=>⟨h.1,h.2.1,h.2.2.1,h.2.2.2.1,h.2.2.2.2.1,h.2.2.2.2.2.1⟩
 | 23,h=>⟨h.1,h.2.1,h.2.2.1⟩
 | 24,h=>⟨h.1,h.2.1⟩
 | 25,h=>⟨h.1,h.2.1,h.2.2.1,h.2.2.2.1,h.2.2.2.2.1,h.2.2.2.2.2.1,h.2.2.2.2.2.2.1,h.2.2.2.2.2.2.2.1,h.2.2.2.2.2.2.2.2.1,h.2.2.2.2.2.2.2.2.2.1⟩
 | 26,h=>⟨h.1,h.2.1,h.2.2.1,h.2.2.2.1,h.2.2.2.2.1,h.2.2.2.2.2.1⟩
 | 27,h=>⟨h.1,⟨h.2.1,h.2.2.1,⟨h.2.2.2.1,h.2.2.2.2.1⟩,h.2.2.2.2.2.1⟩,⟨⟨h.2.2.2.2.2.2.1,h.2.2.2.2.2.2.2.1,⟨h.2.2.2.2.2.2.2.2.1,h.2.2.2.2.2.2.2.2.2.1⟩,h.2.2.2.2.2.2.2.2.2.2.1⟩,⟨h.2.2.2.2.2.2.2.2.2.2.2.1,h.2.2.2.2.2.2.2.2.2.2.2.2.1⟩,h.2.2.2.2.2.2.2.2.2.2.2.2.2.1⟩,⟨h.2.2.2.2.2.2.2.2.2.2.2.2.2.2.1,h.2.2.2.2.2.2.2.2.2.2.2.2.2.2.2.1⟩,⟨h.2.2.2.2.2.2.2.2.2.2.2.2.2.2.2.2.1,h.2.2.2.2.2.2.2.2.2.2.2.2.2.2.2.2.2.1,h.2.2.2.2.2.2.2.2.2.2.2.2.2.2.2.2.2.2.1⟩,⟨h.2.2.2.2.2.2.2.2.2.2.2.2.2.2.2.2.2.2.2.1,h.2.2.2.2.2.2.2.2.2.2.2.2.2.2.2.2.2.2.2.2.1⟩,⟨h.2.2.2.2.2.2.2.2.2.2.2.2.2.2.2.2.2.2.2.2.2.1,h.2.2.2.2.2.2.2.2.2.2.2.2.2.2.2.2.2.2.2.2.2.2.1,h.2.2.2.2.2.2.2.2.2.2.2.2.2.2.2.2.2.2.2.2.2.2.2.1,h.2.2.2.2.2.2.2.2.2.2.2.2.2.2.2.2.2.2.2.2.2.2.2.2.1,h.2.2.2.2.2.2.2.2.2.2.2.2.2.2.2.2.2.2.2.2.2.2.2.2.2.1,h.2.2.2.2.2.2.2.2.2.2.2.2.2.2.2.2.2.2.2.2.2.2.2.2.2.2.1⟩,h.2.2.2.2.2.2.2.2.2.2.2.2.2.2.2.2.2.2.2.2.2.2.2.2.2.2.2.1,h.2.2.2.2.2.2.2.2.2.2.2.2.2.2.2.2.2.2.2.2.2.2.2.2.2.2.2.2.1,h.2.2.2.2.2.2.2.2.2.2.2.2.2.2.2.2.2.2.2.2.2.2.2.2.2.2.2.2.2.1⟩
 | 28,h=>⟨h.1⟩
 | 29,h=>⟨h.1,h.2.1,h.2.2.1⟩
 | 30,h=>⟨h.1,h.2.1,h.2.2.1,h.2.2.2.1,⟨h.2.2.2.2.1,h.2.2.2.2.2.1,h.2.2.2.2.2.2.1⟩,⟨h.2.2.2.2.2.2.2.1,h.2.2.2.2.2.2.2.2.1,h.2.2.2.2.2.2.2.2.2.1⟩,h.2.2.2.2.2.2.2.2.2.2.1,h.2.2.2.2.2.2.2.2.2.2.2.1,h.2.2.2.2.2.2.2.2.2.2.2.2.1,h.2.2.2.2.2.2.2.2.2.2.2.2.2.1⟩
 | 31,h=>⟨h.1,h.2.1,h.2.2.1⟩
 | 32,h=>⟨h.1,h.2.1⟩
 | 33,h=>⟨h.1,h.2.1,h.2.2.1,h.2.2.2.1,h.2.2.2.2.1,h.2.2.2.2.2.1,h.2.2.2.2.2.2.1,h.2.2.2.2.2.2.2.1,h.2.2.2.2.2.2.2.2.1,h.2.2.2.2.2.2.2.2.2.1,h.2.2.2.2.2.2.2.2.2.2.1,h.2.2.2.2.2.2.2.2.2.2.2.1,h.2.2.2.2.2.2.2.2.2.2.2.2.1⟩
 | 34,h=>⟨h.1,h.2.1,h.2.2.1⟩
 | 35,h=>⟨h.1,h.2.1,h.2.2.1⟩
 | 36,h=>⟨h.1,h.2.1,h.2.2.1⟩
 | 37,h=>⟨h.1,h.2.1,⟨h.2.2.1,h.2.2.2.1,h.2.2.2.2.1⟩,⟨h.2.2.2.2.2.1,h.2.2.2.2.2.2.1,h.2.2.2.2.2.2.2.1⟩,h.2.2.2.2.2.2.2.2.1⟩
 | 38,h=>⟨h.1,h.2.1,h.2.2.1,h.2.2.2.1,h.2.2.2.2.1,h.2.2.2.2.2.1,h.2.2.2.2.2.2.1⟩
 | 39,h=>⟨h.1,h.2.1,h.2.2.1⟩
 | 40,h=>⟨h.1,h.2.1,⟨h.2.2.1,h.2.2.2.1,h.2.2.2.2.1⟩,h.2.2.2.2.2.1,h.2.2.2.2.2.2.1,h.2.2.2.2.2.2.2.1,h.2.2.2.2.2.2.2.2.1,h.2.2.2.2.2.2.2.2.2.1,h.2.2.2.2.2.2.2.2.2.2.1,h.2.2.2.2.2.2.2.2.2.2.2.1,h.2.2.2.2.2.2.2.2.2.2.2.2.1⟩
 | 41,h=>⟨h.1,h.2.1,h.2.2.1,h.2.2.2.1,h.2.2.2.2.1,h.2.2.2.2.2.1,h.2.2.2.2.2.2.1,h.2.2.2.2.2.2.2.1,h.2.2.2.2.2.2.2.2.1,h.2.2.2.2.2.2.2.2.2.1,h.2.2.2.2.2.2.2.2.2.2.1,h.2.2.2.2.2.2.2.2.2.2.2.1,⟨h.2.2.2.2.2.2.2.2.2.2.2.2.1,h.2.2.2.2.2.2.2.2.2.2.2.2.2.1,h.2.2.2.2.2.2.2.2.2.2.2.2.2.2.1⟩,h.2.2.2.2.2.2.2.2.2.2.2.2.2.2.2.1,h.2.2.2.2.2.2.2.2.2.2.2.2.2.2.2.2.1,h.2.2.2.2.2.2.2.2.2.2.2.2.2.2.2.2.2.1,h.2.2.2.2.2.2.2.2.2.2.2.2.2.2.2.2.2.2.1,h.2.2.2.2.2.2.2.2.2.2.2.2.2.2.2.2.2.2.2.1,h.2.2.2.2.2.2.2.2.2.2.2.2.2.2.2.2.2.2.2.2.1,h.2.2.2.2.2.2.2.2.2.2.2.2.2.2.2.2.2.2.2.2.2.1,⟨h.2.2.2.2.2.2.2.2.2.2.2.2.2.2.2.2.2.2.2.2.2.2.1,h.2.2.2.2.2.2.2.2.2.2.2.2.2.2.2.2.2.2.2.2.2.2.2.1,⟨h.2.2.2.2.2.2.2.2.2.2.2.2.2.2.2.2.2.2.2.2.2.2.2.2.1,h.2.2.2.2.2.2.2.2.2.2.2.2.2.2.2.2.2.2.2.2.2.2.2.2.2.1,h.2.2.2.2.2.2.2.2.2.2.2.2.2.2.2.2.2.2.2.2.2.2.2.2.2.2.1⟩,h.2.2.2.2.2.2.2.2.2.2.2.2.2.2.2.2.2.2.2.2.2.2.2.2.2.2.2.1,h.2.2.2.2.2.2.2.2.2.2.2.2.2.2.2.2.2.2.2.2.2.2.2.2.2.2.2.2.1,h.2.2.2.2.2.2.2.2.2.2.2.2.2.2.2.2.2.2.2.2.2.2.2.2.2.2.2.2.2.1,h.2.2.2.2.2.2.2.2.2.2.2.2.2.2.2.2.2.2.2.2.2.2.2.2.2.2.2.2.2.2.1,h.2.2.2.2.2.2.2.2.2.2.2.2.2.2.2.2.2.2.2.2.2.2.2.2.2.2.2.2.2.2.2.1,h.2.2.2.2.2.2.2.2.2.2.2.2.2.2.2.2.2.2.2.2.2.2.2.2.2.2.2.2.2.2.2.2.1,h.2.2.2.2.2.2.2.2.2.2.2.2.2.2.2.2.2.2.2.2.2.2.2.2.2.2.2.2.2.2.2.2.2.1,h.2.2.2.2.2.2.2.2.2.2.2.2.2.2.2.2.2.2.2.2.2.2.2.2.2.2.2.2.2.2.2.2.2.2.1⟩,h.2.2.2.2.2.2.2.2.2.2.2.2.2.2.2.2.2.2.2.2.2.2.2.2.2.2.2.2.2.2.2.2.2.2.2.1,h.2.2.2.2.2.2.2.2.2.2.2.2.2.2.2.2.2.2.2.2.2.2.2.2.2.2.2.2.2.2.2.2.2.2.2.2.1,h.2.2.2.2.2.2.2.2.2.2.2.2.2.2.2.2.2.2.2.2.2.2.2.2.2.2.2.2.2.2.2.2.2.2.2.2.2.1,h.2.2.2.2.2.2.2.2.2.2.2.2.2.2.2.2.2.2.2.2.2.2.2.2.2.2.2.2.2.2.2.2.2.2.2.2.2.2.1⟩
 | 42,h=>⟨h.1,h.2.1,h.2.2.1,h.2.2.2.1,h.2.2.2.2.1,h.2.2.2.2.2.1⟩
 | 43,h=>⟨h.1,h.2.1,h.2.2.1,h.2.2.2.1⟩
 | 44,h=>⟨h.1,h.2.1,h.2.2.1⟩
 | 45,h=>⟨h.1,h.2.1,h.2.2.1,h.2.2.2.1,h.2.2.2.2.1,h.2.2.2.2.2.1,h.2.2.2.2.2.2.1,h.2.2.2.2.2.2.2.1⟩
 | 46,h=>⟨h.1,h.2.1,h.2.2.1,h.2.2.2.1,h.2.2.2.2.1⟩
 | 47,h=>⟨⟨h.1,h.2.1,h.2.2.1,h.2.2.2.1,h.2.2.2.2.1,h.2.2.2.2.2.1,h.2.2.2.2.2.2.1,h.2.2.2.2.2.2.2.1,h.2.2.2.2.2.2.2.2.1,h.2.2.2.2.2.2.2.2.2.1,h.2.2.2.2.2.2.2.2.2.2.1,h.2.2.2.2.2.2.2.2.2.2.2.1,⟨h.2.2.2.2.2.2.2.2.2.2.2.2.1,h.2.2.2.2.2.2.2.2.2.2.2.2.2.1,h.2.2.2.2.2.2.2.2.2.2.2.2.2.2.1⟩,h.2.2.2.2.2.2.2.2.2.2.2.2.2.2.2.1,h.2.2.2.2.2.2.2.2.2.2.2.2.2.2.2.2.1,h.2.2.2.2.2.2.2.2.2.2.2.2.2.2.2.2.2.1,h.2.2.2.2.2.2.2.2.2.2.2.2.2.2.2.2.2.2.1,h.2.2.2.2.2.2.2.2.2.2.2.2.2.2.2.2.2.2.2.1,h.2.2.2.2.2.2.2.2.2.2.2.2.2.2.2.2.2.2.2.2.1,h.2.2.2.2.2.2.2.2.2.2.2.2.2.2.2.2.2.2.2.2.2.1,⟨h.2.2.2.2.2.2.2.2.2.2.2.2.2.2.2.2.2.2.2.2.2.2.1,h.2.2.2.2.2.2.2.2.2.2.2.2.2.2.2.2.2.2.2.2.2.2.2.1,⟨h.2.2.2.2.2.2.2.2.2.2.2.2.2.2.2.2.2.2.2.2.2.2.2.2.1,h.2.2.2.2.2.2.2.2.2.2.2.2.2.2.2.2.2.2.2.2.2.2.2.2.2.1,h.2.2.2.2.2.2.2.2.2.2.2.2.2.2.2.2.2.2.2.2.2.2.2.2.2.2.1⟩,h.2.2.2.2.2.2.2.2.2.2.2.2.2.2.2.2.2.2.2.2.2.2.2.2.2.2.2.1,h.2.2.2.2.2.2.2.2.2.2.2.2.2.2.2.2.2.2.2.2.2.2.2.2.2.2.2.2.1,h.2.2.2.2.2.2.2.2.2.2.2.2.2.2.2.2.2.2.2.2.2.2.2.2.2.2.2.2.2.1,h.2.2.2.2.2.2.2.2.2.2.2.2.2.2.2.2.2.2.2.2.2.2.2.2.2.2.2.2.2.2.1,h.2.2.2.2.2.2.2.2.2.2.2.2.2.2.2.2.2.2.2.2.2.2.2.2.2.2.2.2.2.2.2.1,h.2.2.2.2.2.2.2.2.2.2.2.2.2.2.2.2.2.2.2.2.2.2.2.2.2.2.2.2.2.2.2.2.1,h.2.2.2.2.2.2.2.2.2.2.2.2.2.2.2.2.2.2.2.2.2.2.2.2.2.2.2.2.2.2.2.2.2.1,h.2.2.2.2.2.2.2.2.2.2.2.2.2.2.2.2.2.2.2.2.2.2.2.2.2.2.2.2.2.2.2.2.2.2.1⟩,h.2.2.2.2.2.2.2.2.2.2.2.2.2.2.2.2.2.2.2.2.2.2.2.2.2.2.2.2.2.2.2.2.2.2.2.1,h.2.2.2.2.2.2.2.2.2.2.2.2.2.2.2.2.2.2.2.2.2.2.2.2.2.2.2.2.2.2.2.2.2.2.2.2.1,h.2.2.2.2.2.2.2.2.2.2.2.2.2.2.2.2.2.2.2.2.2.2.2.2.2.2.2.2.2.2.2.2.2.2.2.2.2.1,h.2.2.2.2.2.2.2.2.2.2.2.2.2.2.2.2.2.2.2.2.2.2.2.2.2.2.2.2.2.2.2.2.2.2.2.2.2.2.1⟩,h.2.2.2.2.2.2.2.2.2.2.2.2.2.2.2.2.2.2.2.2.2.2.2.2.2.2.2.2.2.2.2.2.2.2.2.2.2.2.2.1⟩
 | 48,h=>⟨h.1,h.2.1,h.2.2.1,h.2.2.2.1,h.2.2.2.2.1,h.2.2.2.2.2.1⟩
 | 49,h=>⟨h.1,h.2.1,h.2.2.1,h.2.2.2.1⟩
 | 50,h=>⟨h.1,h.2.1,h.2.2.1⟩
 | 51,h=>⟨h.1,h.2.1,h.2.2.1⟩
 | 52,h=>⟨h.1,h.2.1,⟨h.2.2.1,h.2.2.2.1,h.2.2.2.2.1,h.2.2.2.2.2.1,h.2.2.2.2.2.2.1⟩,⟨h.2.2.2.2.2.2.2.1,h.2.2.2.2.2.2.2.2.1,h.2.2.2.2.2.2.2.2.2.1,h.2.2.2.2.2.2.2.2.2.2.1,h.2.2.2.2.2.2.2.2.2.2.2.1,h.2.2.2.2.2.2.2.2.2.2.2.2.1⟩,⟨h.2.2.2.2.2.2.2.2.2.2.2.2.2.1,h.2.2.2.2.2.2.2.2.2.2.2.2.2.2.1,h.2.2.2.2.2.2.2.2.2.2.2.2.2.2.2.1⟩,h.2.2.2.2.2.2.2.2.2.2.2.2.2.2.2.2.1,h.2.2.2.2.2.2.2.2.2.2.2.2.2.2.2.2.2.1⟩
 | 53,h=>⟨h.1,h.2.1,h.2.2.1,h.2.2.2.1,h.2.2.2.2.1⟩
 | 54,h=>⟨⟨h.1,h.2.1,h.2.2.1,h.2.2.2.1,h.2.2.2.2.1⟩,h.2.2.2.2.2.1⟩
 | 55,h=>⟨⟨h.1,h.2.1,h.2.2.1,h.2.2.2.1,h.2.2.2.2.1⟩,h.2.2.2.2.2.1⟩
 | 56,h=>⟨h.1,⟨h.2.1,h.2.2.1,h.2.2.2.1,h.2.2.2.2.1,h.2.2.2.2.2.1⟩,h.2.2.2.2.2.2.1⟩
 | 57,h=>⟨h.1,⟨h.2.1,h.2.2.1,h.2.2.2.1,h.2.2.2.2.1,h.2.2.2.2.2.1⟩,h.2.2.2.2.2.2.1,h.2.2.2.2.2.2.2.1,h.2.2.2.2.2.2.2.2.1⟩
 | 58,h=>⟨h.1,h.2.1⟩
 | 59,h=>⟨h.1,h.2.1,h.2.2.1⟩
 | 60,h=>⟨⟨h.1,h.2.1,⟨h.2.2.1,h.2.2.2.1,h.2.2.2.2.1⟩,⟨h.2.2.2.2.2.1,h.2.2.2.2.2.2.1,h.2.2.2.2.2.2.2.1⟩,h.2.2.2.2.2.2.2.2.1⟩,h.2.2.2.2.2.2.2.2.2.1,h.2.2.2.2.2.2.2.2.2.2.1,h.2.2.2.2.2.2.2.2.2.2.2.1,h.2.2.2.2.2.2.2.2.2.2.2.2.1,h.2.2.2.2.2.2.2.2.2.2.2.2.2.1,h.2.2.2.2.2.2.2.2.2.2.2.2.2.2.1,h.2.2.2.2.2.2.2.2.2.2.2.2.2.2.2.1⟩
 | 61,h=>⟨h.1,h.2.1,h.2.2.1⟩
 | 62,h=>⟨h.1,h.2.1,h.2.2.1⟩
 | 63,h=>⟨h.1,h.2.1,h.2.2.1,h.2.2.2.1,h.2.2.2.2.1,h.2.2.2.2.2.1⟩
 | 64,h=>⟨h.1,h.2.1⟩
 | 65,h=>⟨h.1,h.2.1,h.2.2.1,h.2.2.2.1⟩
 | 66,h=>⟨h.1,h.2.1⟩
 | 67,h=>⟨h.1,h.2.1,h.2.2.1,h.2.2.2.1⟩
 | 68,h=>⟨⟨h.1,h.2.1,⟨h.2.2.1,h.2.2.2.1,h.2.2.2.2.1⟩,⟨h.2.2.2.2.2.1,h.2.2.2.2.2.2.1,h.2.2.2.2.2.2.2.1⟩,h.2.2.2.2.2.2.2.2.1⟩,h.2.2.2.2.2.2.2.2.2.1,⟨h.2.2.2.2.2.2.2.2.2.2.1,h.2.2.2.2.2.2.2.2.2.2.2.1,⟨h.2.2.2.2.2.2.2.2.2.2.2.2.1,h.2.2.2.2.2.2.2.2.2.2.2.2.2.1,h.2.2.2.2.2.2.2.2.2.2.2.2.2.2.1,h.2.2.2.2.2.2.2.2.2.2.2.2.2.2.2.1,h.2.2.2.2.2.2.2.2.2.2.2.2.2.2.2.2.1⟩,⟨h.2.2.2.2.2.2.2.2.2.2.2.2.2.2.2.2.2.1,h.2.2.2.2.2.2.2.2.2.2.2.2.2.2.2.2.2.2.1,h.2.2.2.2.2.2.2.2.2.2.2.2.2.2.2.2.2.2.2.1,h.2.2.2.2.2.2.2.2.2.2.2.2.2.2.2.2.2.2.2.2.1,h.2.2.2.2.2.2.2.2.2.2.2.2.2.2.2.2.2.2.2.2.2.1,h.2.2.2.2.2.2.2.2.2.2.2.2.2.2.2.2.2.2.2.2.2.2.1⟩,⟨h.2.2.2.2.2.2.2.2.2.2.2.2.2.2.2.2.2.2.2.2.2.2.2.1,h.2.2.2.2.2.2.2.2.2.2.2.2.2.2.2.2.2.2.2.2.2.2.2.2.1,h.2.2.2.2.2.2.2.2.2.2.2.2.2.2.2.2.2.2.2.2.2.2.2.2.2.1⟩,h.2.2.2.2.2.2.2.2.2.2.2.2.2.2.2.2.2.2.2.2.2.2.2.2.2.2.1,h.2.2.2.2.2.2.2.2.2.2.2.2.2.2.2.2.2.2.2.2.2.2.2.2.2.2.2.1⟩⟩
 | 69,h=>⟨h.1,h.2.1⟩
 | 70,h=>⟨h.1,⟨h.2.1,h.2.2.1,h.2.2.2.1,h.2.2.2.2.1,h.2.2.2.2.2.1,h.2.2.2.2.2.2.1,h.2.2.2.2.2.2.2.1,h.2.2.2.2.2.2.2.2.1,h.2.2.2.2.2.2.2.2.2.1,h.2.2.2.2.2.2.2.2.2.2.1,h.2.2.2.2.2.2.2.2.2.2.2.1,h.2.2.2.2.2.2.2.2.2.2.2.2.1,⟨h.2.2.2.2.2.2.2.2.2.2.2.2.2.1,h.2.2.2.2.2.2.2.2.2.2.2.2.2.2.1,h.2.2.2.2.2.2.2.2.2.2.2.2.2.2.2.1⟩,h.2.2.2.2.2.2.2.2.2.2.2.2.2.2.2.2.1,h.2.2.2.2.2.2.2.2.2.2.2.2.2.2.2.2.2.1,h.2.2.2.2.2.2.2.2.2.2.2.2.2.2.2.2.2.2.1,h.2.2.2.2.2.2.2.2.2.2.2.2.2.2.2.2.2.2.2.1,h.2.2.2.2.2.2.2.2.2.2.2.2.2.2.2.2.2.2.2.2.1,h.2.2.2.2.2.2.2.2.2.2.2.2.2.2.2.2.2.2.2.2.2.1,h.2.2.2.2.2.2.2.2.2.2.2.2.2.2.2.2.2.2.2.2.2.2.1,⟨h.2.2.2.2.2.2.2.2.2.2.2.2.2.2.2.2.2.2.2.2.2.2.2.1,h.2.2.2.2.2.2.2.2.2.2.2.2.2.2.2.2.2.2.2.2.2.2.2.2.1,⟨h.2.2.2.2.2.2.2.2.2.2.2.2.2.2.2.2.2.2.2.2.2.2.2.2.2.1,h.2.2.2.2.2.2.2.2.2.2.2.2.2.2.2.2.2.2.2.2.2.2.2.2.2.2.1,h.2.2.2.2.2.2.2.2.2.2.2.2.2.2.2.2.2.2.2.2.2.2.2.2.2.2.2.1⟩,h.2.2.2.2.2.2.2.2.2.2.2.2.2.2.2.2.2.2.2.2.2.2.2.2.2.2.2.2.1,h.2.2.2.2.2.2.2.2.2.2.2.2.2.2.2.2.2.2.2.2.2.2.2.2.2.2.2.2.2.1,h.2.2.2.2.2.2.2.2.2.2.2.2.2.2.2.2.2.2.2.2.2.2.2.2.2.2.2.2.2.2.1,h.2.2.2.2.2.2.2.2.2.2.2.2.2.2.2.2.2.2.2.2.2.2.2.2.2.2.2.2.2.2.2.1,h.2.2.2.2.2.2.2.2.2.2.2.2.2.2.2.2.2.2.2.2.2.2.2.2.2.2.2.2.2.2.2.2.1,h.2.2.2.2.2.2.2.2.2.2.2.2.2.2.2.2.2.2.2.2.2.2.2.2.2.2.2.2.2.2.2.2.2.1,h.2.2.2.2.2.2.2.2.2.2.2.2.2.2.2.2.2.2.2.2.2.2.2.2.2.2.2.2.2.2.2.2.2.2.1,h.2.2.2.2.2.2.2.2.2.2.2.2.2.2.2.2.2.2.2.2.2.2.2.2.2.2.2.2.2.2.2.2.2.2.2.1⟩,h.2.2.2.2.2.2.2.2.2.2.2.2.2.2.2.2.2.2.2.2.2.2.2.2.2.2.2.2.2.2.2.2.2.2.2.2.1,h.2.2.2.2.2.2.2.2.2.2.2.2.2.2.2.2.2.2.2.2.2.2.2.2.2.2.2.2.2.2.2.2.2.2.2.2.2.1,h.2.2.2.2.2.2.2.2.2.2.2.2.2.2.2.2.2.2.2.2.2.2.2.2.2.2.2.2.2.2.2.2.2.2.2.2.2.2.1,h.2.2.2.2.2.2.2.2.2.2.2.2.2.2.2.2.2.2.2.2.2.2.2.2.2.2.2.2.2.2.2.2.2.2.2.2.2.2.2.1⟩⟩
 | 71,h=>⟨h.1,h.2.1,h.2.2.1,h.2.2.2.1⟩
 | 72,h=>⟨h.1,h.2.1⟩
 | 73,h=>⟨h.1,h.2.1,h.2.2.1⟩
 | 74,h=>⟨⟨h.1,h.2.1⟩,h.2.2.1⟩
 | 75,h=>⟨h.1,h.2.1,h.2.2.1,h.2.2.2.1,h.2.2.2.2.1,h.2.2.2.2.2.1,h.2.2.2.2.2.2.1,h.2.2.2.2.2.2.2.1⟩
 | 76,h=>match h with|(a0,a1,a2,a3,a4,a5,a6,a7,a8,a9,ZD,ZE,ZF,ZG,ZH,ZI,ZJ,ZK,ZL,ZM,a20,ZN,a22,ZO,ZP,a25,ZQ,ZR,ZS,ZT,ZU,ZV,ZW,ZX,ZY,ZZ,Z,a37,Y,a39,V,U,O,M,J,a45,a46,G,F,D,a50,a51,C,a53,y,a55,x,u,s,q,p,m,j,f,_)=>⟨a0,a1,a2,a3,a4,a5,a6,a7,a8,a9,ZD,ZE,ZF,ZG,ZH,ZI,ZJ,ZK,ZL,ZM,a20,ZN,a22,ZO,ZP,a25,ZQ,ZR,ZS,ZT,ZU,ZV,ZW,ZX,ZY,ZZ,Z,a37,Y,a39,V,U,O,M,J,a45,a46,G,F,D,a50,a51,C,a53,y,a55,x,u,s,q,p,m,j,f⟩
 | 77,h=>⟨h.1,h.2.1,h.2.2.1⟩
 | 78,h=>⟨⟨h.1,h.2.1,h.2.2.1,h.2.2.2.1,h.2.2.2.2.1,h.2.2.2.2.2.1,h.2.2.2.2.2.2.1,h.2.2.2.2.2.2.2.1,h.2.2.2.2.2.2.2.2.1,h.2.2.2.2.2.2.2.2.2.1,h.2.2.2.2.2.2.2.2.2.2.1⟩,⟨h.2.2.2.2.2.2.2.2.2.2.2.1,h.2.2.2.2.2.2.2.2.2.2.2.2.1,h.2.2.2.2.2.2.2.2.2.2.2.2.2.1⟩⟩
 | 79,h=>⟨h.1,h.2.1⟩
 | 80,h=>⟨h.1,h.2.1,h.2.2.1,h.2.2.2.1⟩
 | 81,h=>⟨h.1,h.2.1,h.2.2.1,h.2.2.2.1,h.2.2.2.2.1,h.2.2.2.2.2.1,h.2.2.2.2.2.2.1,h.2.2.2.2.2.2.2.1,h.2.2.2.2.2.2.2.2.1,h.2.2.2.2.2.2.2.2.2.1,h.2.2.2.2.2.2.2.2.2.2.1,h.2.2.2.2.2.2.2.2.2.2.2.1,h.2.2.2.2.2.2.2.2.2.2.2.2.1,h.2.2.2.2.2.2.2.2.2.2.2.2.2.1,h.2.2.2.2.2.2.2.2.2.2.2.2.2.2.1,h.2.2.2.2.2.2.2.2.2.2.2.2.2.2.2.1,h.2.2.2.2.2.2.2.2.2.2.2.2.2.2.2.2.1,h.2.2.2.2.2.2.2.2.2.2.2.2.2.2.2.2.2.1,h.2.2.2.2.2.2.2.2.2.2.2.2.2.2.2.2.2.2.1,h.2.2.2.2.2.2.2.2.2.2.2.2.2.2.2.2.2.2.2.1⟩
 | _+82,h=>h.1
def teDeq:(n:Nat)->tO (DecidableEq (teS n))|5=>some (inferInstanceAs (DecidableEq Xx))|8=>some (inferInstanceAs (DecidableEq Zx))|21=>some (inferInstanceAs (DecidableEq Xr))|39=>some (inferInstanceAs (DecidableEq Yu))|40=>some (inferInstanceAs (DecidableEq Zf))|53=>some (inferInstanceAs (DecidableEq Xa))|72=>some (inferInstanceAs (DecidableEq Xh))|_=>none
def teTy(n:Nat):tO Ty:=aF_ n [(2,.int .i64),(3,.int .i64),(4,.bool),(5,.int .u8),(6,.int .u8),(9,.str),(10,.str),(11,.str),(12,.int .u64),(21,.int .i32),(22,.sl (.st 27)),(23,.sl (.st 28)),(24,.sl (.st 30)),(26,.st 31),(27,.sl (.st 33)),(29,.st 34),(30,.sl (.st 36)),(32,.st 37),(33,.sl (.st 45)),(34,.sl (.st 52)),(35,.sl (.st 56)),(36,.sl (.st 58)),(37,.sl (.st 59)),(38,.sl (.st 2)),(40,.st 60),(41,.sl (.st 5)),(43,.st 6),(47,.sl (.st 3)),(48,.sl (.st 4)),(49,.sl (.int .i64)),(51,.st 7),(52,.sl (.st 8)),(54,.st 9),(55,.sl (.st 10)),(57,.st 11),(58,.sl (.st 14)),(60,.st 15),(61,.sl (.st 17)),(63,.st 18),(64,.sl (.st 20)),(65,.sl (.st 23)),(67,.st 24),(68,.sl (.sl (.st 21))),(69,.sl (.st 25)),(71,.st 26),(73,.st 27),(74,.int .i64),(80,.sl .str),(81,.sl (.st 73)),(84,.st 73),(88,.st 5),(91,.st 10),(96,.sl (.st 32)),(98,.st 33),(102,.st 21),(103,.sl (.st 21)),(105,.st 28),(108,.sl (.st 42)),(109,.sl (.st 43)),(110,.sl (.st 44)),(112,.st 45),(114,.sl (.st 47)),(116,.st 48),(117,.sl (.st 41)),(122,.st 46),(124,.sl (.st 49)),(125,.sl (.st 50)),(127,.st 51),(130,.st 52),(131,.sl (.st 35)),(133,.st 36),(139,.st 53),(140,.sl (.st 55)),(142,.st 56),(145,.sl (.st 57)),(147,.st 58),(155,.st 61),(158,.st 62),(170,.st 59),(172,.sl (.st 0)),(173,.sl (.st 1)),(175,.st 2),(188,.sl (.st 39)),(190,.st 39),(192,.st 40),(194,.st 41),(197,.st 47),(199,.st 68),(204,.sl (.st 71)),(206,.st 71),(212,.st 4),(215,.st 43),(222,.sl (.st 38)),(224,.st 42),(227,.st 50),(231,.st 49),(243,.sl (.st 62)),(256,.st 44),(263,.sl (.st 54)),(265,.st 55),(268,.st 54),(271,.st 57),(280,.st 3),(286,.sl (.st 22)),(288,.st 23),(314,.st 74),(318,.st 77),(320,.st 78),(331,.st 8),(336,.st 29),(338,.st 30),(342,.st 35),(357,.st 38),(368,.st 0),(370,.st 1),(398,.sl (.sl (.int .i64))),(405,.int .u64),(408,.sl (.int .u8)),(415,.sl (.st 78)),(422,.int .u64),(426,.st 72),(433,.st 32),(438,.st 12),(439,.st 13),(441,.st 14),(445,.st 16),(447,.st 17),(452,.st 22),(456,.st 25),(474,.sl (.st 70)),(478,.st 70),(511,.int .u32),(519,.st 80),(529,.sl (.int .u32)),(535,.sl (.st 19)),(537,.st 20),(539,.st 19),(551,.st 66),(562,.st 69),(575,.sl (.st 53)),(583,.sl (.sl .str)),(642,.int .u64),(721,.sl (.st 63)),(723,.st 64),(793,.st 75),(796,.st 65),(800,.st 63),(802,.st 67),(824,.sl (.st 40)),(860,.st 76)]
abbrev globPT:Ty:=.st 81
abbrev glob0T:Ty:=.st 76
def teGl:Nat->tO (Σ t:Ty,Den teS t)|0=>some ⟨.st 81,globP⟩|4=>some ⟨.st 76,glob0⟩|_=>none
abbrev nodeN:Nat:=5
def teSb(n:Nat):tV:=Nat.beq n 591
def te:TE:=⟨teS,teCs,teUn,teBd,λn x=>by((iterate 82(rcases n with _|n;first|rfl|(rcases x with⟨_,_,_,_,_⟩;rfl)|(rcases x with⟨_,_,_,⟨_,_,_,_,_⟩,_⟩;rfl)|(rcases x with⟨_,_,_,_,_,_⟩;rfl)));rfl),λn x=>by((iterate 82(rcases n with _|n;rfl));rfl),teDeq,teTy,λn=>by((iterate 82(rcases n with _|n;exact qZ _ _));exact qZ _ _),teGl,teSb⟩
theorem api_Node_ext(x y:Xx):(x=y)=(x.Id_=y.Id_/\x.Xn=y.Xn/\x.Yz=y.Yz/\x.Xk=y.Xk/\x.Xg=y.Xg/\x.Wh=y.Wh/\x.Wg=y.Wg/\x.Zr=y.Zr/\x.Ys=y.Ys/\x.Yt=y.Yt/\x.Xi=y.Xi):=by cases x;cases y;simp
theorem eqd_api_Node(x y:Xx):((x.Id_==y.Id_)&&((x.Xn==y.Xn)&&((x.Yz==y.Yz)&&(((⟨x.Xk.toArray⟩:tP).toList==(⟨y.Xk.toArray⟩:tP).toList)&&((x.Xg==y.Xg)&&(((⟨x.Wh.toArray⟩:tP).toList==(⟨y.Wh.toArray⟩:tP).toList)&&(((⟨x.Wg.toArray⟩:tP).toList==(⟨y.Wg.toArray⟩:tP).toList)&&(((⟨x.Zr.toArray⟩:tP).toList==(⟨y.Zr.toArray⟩:tP).toList)&&((x.Ys==y.Ys)&&((x.Yt==y.Yt)&&(((⟨x.Xi.toArray⟩:tP).toList==(⟨y.Xi.toArray⟩:tP).toList)&&true)))))))))))=true↔x=y:=by simp[api_Node_ext]
theorem yy_:aG_ Tryz.prog te 88 5:=by
 intro d x y l m f hm;obtain rfl:=qSj f;obtain rfl:=qSj hm;refine ke_ 10 rfl (by kernel_rfl) (b:=((x.Id_==y.Id_)&&((x.Xn==y.Xn)&&((x.Yz==y.Yz)&&(((⟨x.Xk.toArray⟩:tP).toList==(⟨y.Xk.toArray⟩:tP).toList)&&((x.Xg==y.Xg)&&(((⟨x.Wh.toArray⟩:tP).toList==(⟨y.Wh.toArray⟩:tP).toList)&&(((⟨x.Wg.toArray⟩:tP).toList==(⟨y.Wg.toArray⟩:tP).toList)&&(((⟨x.Zr.toArray⟩:tP).toList==(⟨y.Zr.toArray⟩:tP).toList)&&((x.Ys==y.Ys)&&((x.Yt==y.Yt)&&(((⟨x.Xi.toArray⟩:tP).toList==(⟨y.Xi.toArray⟩:tP).toList)&&true)))))))))))) (by kernel_rfl) ?_;rw[qE];exact(eqd_api_Node x y).trans (@decide_eq_true_iff _ (d x y)).symm
theorem api_Attr_ext(x y:Xr):(x=y)=(x.Xk=y.Xk/\x.Qk=y.Qk/\x.Qt=y.Qt):=by cases x;cases y;simp
theorem eqd_api_Attr(x y:Xr):(((⟨x.Xk.toArray⟩:tP).toList==(⟨y.Xk.toArray⟩:tP).toList)&&(((⟨x.Qk.toArray⟩:tP).toList==(⟨y.Qk.toArray⟩:tP).toList)&&((x.Qt==y.Qt)&&true)))=true↔x=y:=by simp[api_Attr_ext]
theorem wV_:aG_ Tryz.prog te 102 21:=by
 intro d x y l m f hm;obtain rfl:=qSj f;obtain rfl:=qSj hm;refine ke_ 10 rfl (by kernel_rfl) (b:=(((⟨x.Xk.toArray⟩:tP).toList==(⟨y.Xk.toArray⟩:tP).toList)&&(((⟨x.Qk.toArray⟩:tP).toList==(⟨y.Qk.toArray⟩:tP).toList)&&((x.Qt==y.Qt)&&true)))) (by kernel_rfl) ?_;rw[qE];exact(eqd_api_Attr x y).trans (@decide_eq_true_iff _ (d x y)).symm
theorem api_Chan_ext(x y:Xa):(x=y)=(x.Zz=y.Zz/\x.Id_=y.Id_/\x.Wb=y.Wb/\x.Yg=y.Yg/\x.Xk=y.Xk):=by cases x;cases y;simp
theorem eqd_api_Chan(x y:Xa):((x.Zz==y.Zz)&&((x.Id_==y.Id_)&&((x.Wb==y.Wb)&&(((⟨x.Yg.toArray⟩:tP).toList==(⟨y.Yg.toArray⟩:tP).toList)&&(((⟨x.Xk.toArray⟩:tP).toList==(⟨y.Xk.toArray⟩:tP).toList)&&true)))))=true↔x=y:=by simp[api_Chan_ext]
theorem wW_:aG_ Tryz.prog te 139 53:=by
 intro d x y l m f hm;obtain rfl:=qSj f;obtain rfl:=qSj hm;refine ke_ 10 rfl (by kernel_rfl) (b:=((x.Zz==y.Zz)&&((x.Id_==y.Id_)&&((x.Wb==y.Wb)&&(((⟨x.Yg.toArray⟩:tP).toList==(⟨y.Yg.toArray⟩:tP).toList)&&(((⟨x.Xk.toArray⟩:tP).toList==(⟨y.Xk.toArray⟩:tP).toList)&&true)))))) (by kernel_rfl) ?_;rw[qE];exact(eqd_api_Chan x y).trans (@decide_eq_true_iff _ (d x y)).symm
theorem uv_(x y:Yu):(x=y)=(x.Xu=y.Xu/\x.Yz=y.Yz/\x.Yg=y.Yg):=by cases x;cases y;simp
theorem eqd_api_Qid(x y:Yu):((x.Xu==y.Xu)&&((x.Yz==y.Yz)&&((x.Yg==y.Yg)&&true)))=true↔x=y:=by simp[uv_]
theorem yz_:aG_ Tryz.prog te 190 39:=by
 intro d x y l m f hm;obtain rfl:=qSj f;obtain rfl:=qSj hm;refine ke_ 10 rfl (by kernel_rfl) (b:=((x.Xu==y.Xu)&&((x.Yz==y.Yz)&&((x.Yg==y.Yg)&&true)))) (by kernel_rfl) ?_;rw[qE];exact(eqd_api_Qid x y).trans (@decide_eq_true_iff _ (d x y)).symm
theorem api_Dir_ext(x y:Zf):(x=y)=(x.Xu=y.Xu/\x.Zz=y.Zz/\x.Xc=y.Xc/\x.Xg=y.Xg/\x.Ys=y.Ys/\x.Yt=y.Yt/\x.Yx=y.Yx/\x.Xk=y.Xk/\x.Wh=y.Wh/\x.Wg=y.Wg/\x.Zr=y.Zr):=by cases x;cases y;simp
theorem eqd_api_Dir(x y:Zf):((x.Xu==y.Xu)&&((x.Zz==y.Zz)&&(((x.Xc.Xu==y.Xc.Xu)&&((x.Xc.Yz==y.Xc.Yz)&&((x.Xc.Yg==y.Xc.Yg)&&true)))&&((x.Xg==y.Xg)&&((x.Ys==y.Ys)&&((x.Yt==y.Yt)&&((x.Yx==y.Yx)&&(((⟨x.Xk.toArray⟩:tP).toList==(⟨y.Xk.toArray⟩:tP).toList)&&(((⟨x.Wh.toArray⟩:tP).toList==(⟨y.Wh.toArray⟩:tP).toList)&&(((⟨x.Wg.toArray⟩:tP).toList==(⟨y.Wg.toArray⟩:tP).toList)&&(((⟨x.Zr.toArray⟩:tP).toList==(⟨y.Zr.toArray⟩:tP).toList)&&true)))))))))))=true↔x=y:=by simp[api_Dir_ext,uv_]
theorem yA_:aG_ Tryz.prog te 192 40:=by
 intro d x y l m f hm;obtain rfl:=qSj f;obtain rfl:=qSj hm;refine ke_ 10 rfl (by kernel_rfl) (b:=((x.Xu==y.Xu)&&((x.Zz==y.Zz)&&(((x.Xc.Xu==y.Xc.Xu)&&((x.Xc.Yz==y.Xc.Yz)&&((x.Xc.Yg==y.Xc.Yg)&&true)))&&((x.Xg==y.Xg)&&((x.Ys==y.Ys)&&((x.Yt==y.Yt)&&((x.Yx==y.Yx)&&(((⟨x.Xk.toArray⟩:tP).toList==(⟨y.Xk.toArray⟩:tP).toList)&&(((⟨x.Wh.toArray⟩:tP).toList==(⟨y.Wh.toArray⟩:tP).toList)&&(((⟨x.Wg.toArray⟩:tP).toList==(⟨y.Wg.toArray⟩:tP).toList)&&(((⟨x.Zr.toArray⟩:tP).toList==(⟨y.Zr.toArray⟩:tP).toList)&&true)))))))))))) (by kernel_rfl) ?_;rw[qE];exact(eqd_api_Dir x y).trans (@decide_eq_true_iff _ (d x y)).symm
theorem AC_(x y:Zx):(x=y)=(x.Ya=y.Ya/\x.Xj=y.Xj/\x.Xi=y.Xi):=by cases x;cases y;simp
theorem AD_(x y:Zx):(((⟨x.Ya.toArray⟩:tP).toList==(⟨y.Ya.toArray⟩:tP).toList)&&((x.Xj==y.Xj)&&(((⟨x.Xi.toArray⟩:tP).toList==(⟨y.Xi.toArray⟩:tP).toList)&&true)))=true↔x=y:=by simp[AC_]
theorem vb_:aG_ Tryz.prog te 331 8:=by
 intro d x y l m f hm;obtain rfl:=qSj f;obtain rfl:=qSj hm;refine ke_ 10 rfl (by kernel_rfl) (b:=(((⟨x.Ya.toArray⟩:tP).toList==(⟨y.Ya.toArray⟩:tP).toList)&&((x.Xj==y.Xj)&&(((⟨x.Xi.toArray⟩:tP).toList==(⟨y.Xi.toArray⟩:tP).toList)&&true)))) (by kernel_rfl) ?_;rw[qE];exact(AD_ x y).trans (@decide_eq_true_iff _ (d x y)).symm
theorem yB_(x y:Xh):(x=y)=(x.Gp=y.Gp/\x.Gz=y.Gz):=by cases x;cases y;simp
theorem yC_(x y:Xh):((x.Gp==y.Gp)&&(((⟨x.Gz.toArray⟩:tP).toList==(⟨y.Gz.toArray⟩:tP).toList)&&true))=true↔x=y:=by simp[yB_]
theorem tP_:aG_ Tryz.prog te 426 72:=by
 intro d x y l m f hm;obtain rfl:=qSj f;obtain rfl:=qSj hm;refine ke_ 10 rfl (by kernel_rfl) (b:=((x.Gp==y.Gp)&&(((⟨x.Gz.toArray⟩:tP).toList==(⟨y.Gz.toArray⟩:tP).toList)&&true))) (by kernel_rfl) ?_;rw[qE];exact(yC_ x y).trans (@decide_eq_true_iff _ (d x y)).symm
def eqL:tL (Nat×Nat):=[(88,5),(102,21),(139,53),(190,39),(192,40),(331,8),(426,72)]
theorem ad_:∀p∈eqL,aG_ Tryz.prog te p.1 p.2:=by
 intro p f;simp only[eqL,qV,List.not_mem_nil,or_false]at f;rcases f with rfl|rfl|rfl|rfl|rfl|rfl|rfl
 .exact yy_
 .exact wV_
 .exact wW_
 .exact yz_
 .exact yA_
 .exact vb_
 .exact tP_
abbrev OKF(f:FuncId)(C:Con te):Prop:=Con.OK Tryz.prog te f C/\cr_ Tryz.prog f=true
end
open Go.ChangeShapes Go.WideShapes Go.ChangeAt Go.ChangeMaps
abbrev laidAll:tL (String × DataW Unit):=[("math/bits.deBruijn32tab", Rows.laid_math_bits_deBruijn32tab), ("math/bits.deBruijn64tab", Rows.laid_math_bits_deBruijn64tab), ("internal/strconv.uint64pow10", Rows.laid_internal_strconv_uint64pow10), ("unicode/utf8.acceptRanges", Rows.laid_unicode_utf8_acceptRanges), ("filespace/hash.rounds", Rows.laid_filespace_hash_rounds), ("unicode/utf8.first", Rows.laid_unicode_utf8_first)]
def powL:tL Int:=[1,10,100,1000,10000,100000,1000000,10000000,100000000,1000000000,10000000000,100000000000,1000000000000,10000000000000,100000000000000,1000000000000000,10000000000000000,100000000000000000,1000000000000000000,10000000000000000000]
theorem tab_block{W:tS}{name:String}{k:IntKind}{zs:tL Int}{n:Nat}(h:Lib.TabIs Tryz.prog W name k zs)(f:(Tryz.prog).globalNamed name=some n):∃e c,W.heap[n]? = some (.cells (zs.map λz=>Value.int k z).toArray e c):=by
 unfold Lib.TabIs World.var? at h;rw[f]at h;simp only[qBs]at h;split at h
 .rename_i cs e c j;obtain rfl:=qSj h;exact⟨e,c,j⟩
 .cases h
theorem tab_glo{W:tS}{name:String}{k:IntKind}{zs:tL Int}{n:Nat}(h:Lib.TabIs Tryz.prog W name k zs)(q:(Tryz.prog).globalNamed name=some n){t:Ty}{x:Den te.S t}(hr:RD te (eA_ W) (te.flat t) (te.fl t x) (zs.map (Value.int k))) :
  (eA_ W).F n/\∃r,RD te (eA_ W) (te.flat t) (te.fl t x) r/\(∀j u,r[j]? = some u->(eA_ W).w.cell? ⟨n,j,none⟩=some u)/\∃e c,(eA_ W).w.heap[n]? = some (.cells r.toArray e c):=by
 obtain⟨e,c,f⟩:=tab_block h q;refine⟨?_,zs.map (Value.int k),hr,λj u p=>?_,e,c,f⟩
 .show n<W.heap.size;rcases qb n W.heap.size with m|m
  .exact m
  .rw[qi m]at f;cases f
 .show W.cell? ⟨n,j,none⟩=some u;rw[cell_of_row W n j _ e c f,jH];exact p
theorem seat_glob{W:tS}(h:laidMetH Tryz.prog laidAll W):Glo te (eA_ W):=by
 have hm:=(laidMetH_iff.1 h).1
 have h1:laidMet Tryz.prog (("filespace/hash.rounds", Lib.tabData .u32 glob0.l)::[]) W:=by
  have:=hm.filter (fun x=>x.1 == "filespace/hash.rounds")
  have e:((laidAll.filter fun x=>x.2.handleName?.isNone).filter fun x=>x.1 == "filespace/hash.rounds")=[("filespace/hash.rounds", Lib.tabData .u32 glob0.l)]:=by kernel_rfl
  rw[e]at this;exact this
 have p:laidMet Tryz.prog (("internal/strconv.uint64pow10", Lib.tabData .u64 powL)::[]) W:=by
  have:=hm.filter (fun x=>x.1 == "internal/strconv.uint64pow10")
  have e:((laidAll.filter fun x=>x.2.handleName?.isNone).filter fun x=>x.1 == "internal/strconv.uint64pow10")=[("internal/strconv.uint64pow10", Lib.tabData .u64 powL)]:=by kernel_rfl
  rw[e]at this;exact this
 have j:=Lib.tabIs_of_head (P:=Tryz.prog) (g:=4) (t:=860) (e:=511) (n:=64) (by kernel_rfl) (by kernel_rfl) (by kernel_rfl) (by kernel_rfl) (by kernel_rfl) (by kernel_rfl) h1;have m:=Lib.tabIs_of_head (P:=Tryz.prog) (g:=0) (t:=510) (e:=405) (n:=20) (by kernel_rfl) (by kernel_rfl) (by kernel_rfl) (by kernel_rfl) (by kernel_rfl) (by kernel_rfl) p;intro n t x e;rcases n with _|_|_|_|_|n
 .have f:(⟨globPT,globP⟩:Sigma λt:Ty=>Den te.S t)=⟨t,x⟩:=qSj e;cases f
  exact tab_glo m (by kernel_rfl) (.int (.int (.int (.int (.int (.int (.int (.int (.int (.int (.int (.int (.int (.int (.int (.int (.int (.int (.int (.int .nil))))))))))))))))))))
 .cases e
 .cases e
 .cases e
 .have f:(⟨glob0T,glob0⟩:Sigma λt:Ty=>Den te.S t)=⟨t,x⟩:=qSj e;cases f
  exact tab_glo j (by kernel_rfl) (.int (.int (.int (.int (.int (.int (.int (.int (.int (.int (.int (.int (.int (.int (.int (.int (.int (.int (.int (.int (.int (.int (.int (.int (.int (.int (.int (.int (.int (.int (.int (.int (.int (.int (.int (.int (.int (.int (.int (.int (.int (.int (.int (.int (.int (.int (.int (.int (.int (.int (.int (.int (.int (.int (.int (.int (.int (.int (.int (.int (.int (.int (.int (.int .nil))))))))))))))))))))))))))))))))))))))))))))))))))))))))))))))))
 .cases e
theorem door_met(os:Os)(args:Array tW):laidMetH Tryz.prog laidAll ((World.laidAll Tryz.prog os laidAll).forCall (λ_ _=>0) ⟨#[],args,[]⟩).memory:=by
 rw[MakeChecks.laidMetH_plain _ _ _ (by kernel_rfl)];exact laidMet_laidAll _ (by kernel_rfl) (by kernel_rfl)
end Go.Proofs.YtokncnjohiobcaaGreatDoor
namespace Go.Proofs
open Go.Shelf
def Tryz.laysCount_ren:Go.Shelf.Ren:=⟨λ|138=>626|195=>732|218=>734|143=>627|219=>735|217=>806|225=>807|224=>808|267=>809|266=>895|314=>896|n=>n,λ|9=>9|3=>3|4=>4|5=>5|0=>0|46=>422|146=>953|51=>511|n=>n,λ|1=>3|n=>n⟩
theorem Tryz.laysCount:Go.Proofs.Lays.n138 Tryz.prog Tryz.laysCount_ren:={
 mixed:=by kernel_rfl
 f138:=Tryz.func626.trans (qM some (by kernel_rfl))
 f143:=Tryz.func627.trans (qM some (by kernel_rfl))
 f195:=Tryz.func732.trans (qM some (by kernel_rfl))
 f217:=Tryz.func806.trans (qM some (by kernel_rfl))
 f218:=Tryz.func734.trans (qM some (by kernel_rfl))
 f219:=Tryz.func735.trans (qM some (by kernel_rfl))
 f224:=Tryz.func808.trans (qM some (by kernel_rfl))
 f225:=Tryz.func807.trans (qM some (by kernel_rfl))
 f266:=Tryz.func895.trans (qM some (by kernel_rfl))
 f267:=Tryz.func809.trans (qM some (by kernel_rfl))
 f314:=Tryz.func896.trans (qM some (by kernel_rfl))
 t0:=Tryz.underlying0
 a0:=Tryz.isAgg0
 z0:=Tryz.sizeOf0
 v0:=Tryz.zeroValue0
 t3:=Tryz.underlying3
 a3:=Tryz.isAgg3
 z3:=Tryz.sizeOf3
 v3:=Tryz.zeroValue3
 t4:=Tryz.underlying4
 a4:=Tryz.isAgg4
 z4:=Tryz.sizeOf4
 v4:=Tryz.zeroValue4
 t5:=Tryz.underlying5
 a5:=Tryz.isAgg5
 z5:=Tryz.sizeOf5
 v5:=Tryz.zeroValue5
 t9:=Tryz.underlying9
 a9:=Tryz.isAgg9
 z9:=Tryz.sizeOf9
 v9:=Tryz.zeroValue9
 t46:=Tryz.underlying422
 a46:=Tryz.isAgg422
 z46:=Tryz.sizeOf422
 v46:=Tryz.zeroValue422
 t51:=Tryz.underlying511
 a51:=Tryz.isAgg511
 z51:=Tryz.sizeOf511
 v51:=Tryz.zeroValue511
 t146:=Tryz.underlying953
 a146:=Tryz.isAgg953
 z146:=Tryz.sizeOf953
 v146:=Tryz.zeroValue953
 g1:=by kernel_rfl }
end Go.Proofs
namespace Go.Proofs.YtokncnjohiobcaaGreatDoor
open Go.Shelf Go.RowKit Go.Rt
theorem fCount:Tryz.laysCount_ren.f 138=626:=by kernel_rfl
theorem wX_(x0 h:tR)(r:Int)(f:strings_Count x0 h=some r)(w0:tS):Ret Tryz.prog 626 #[S x0,S h] w0 λv w=>v = .int .i64 r/\Ext w0 w:=by
 unfold strings_Count at f;split at f
 .rename_i c;simp only[qOi]at f;subst f;have j:=Any.strings_Count_one Tryz.laysCount ⟨x0.toArray⟩ c w0;rw[fCount]at j;refine Calls.mono j λe w ⟨m,p⟩=>⟨_,m,?_,?_⟩
  .simp[Lib.countByte]
  .subst p;exact Ext.refl _
 .cases f
def tQ_:Con te:=af_ te [.d .str,.d .str] [(.int .i64,[])] false λa=>strings_Count a.1 a.2.1
theorem qT_:Con.OK Tryz.prog te 626 tQ_/\cr_ Tryz.prog 626=true:=by
 refine⟨λR a k r hr=>?_,by kernel_rfl⟩;obtain⟨y,h1,f⟩:=bind_some hr;exact⟨_,_,f,os_ (y:=y) rfl rfl rfl rfl rfl λw=>wX_ a.1 a.2.1 y h1 w⟩
end Go.Proofs.YtokncnjohiobcaaGreatDoor
namespace Go.Proofs
open Go.Shelf
def Tryz.laysFormatInt_ren:Go.Shelf.Ren:=⟨λ|173=>95|246=>170|283=>265|284=>266|285=>267|286=>268|129=>382|317=>381|318=>383|319=>384|320=>385|337=>513|338=>514|n=>n,λ|2=>2|3=>3|9=>9|4=>4|171=>404|0=>0|53=>405|37=>408|5=>5|173=>409|212=>510|51=>511|20=>20|213=>512|46=>422|232=>717|233=>718|n=>n,λ|17=>0|18=>1|19=>2|n=>n⟩
theorem Tryz.laysFormatInt:Go.Proofs.LaysM.n173 Tryz.prog Tryz.laysFormatInt_ren:={
 mixed:=by kernel_rfl
 f129:=Tryz.func382.trans (qM some (by kernel_rfl))
 f173:=Tryz.func95.trans (qM some (by kernel_rfl))
 f246:=Tryz.func170.trans (qM some (by kernel_rfl))
 f283:=Tryz.func265.trans (qM some (by kernel_rfl))
 f284:=Tryz.func266.trans (qM some (by kernel_rfl))
 f285:=Tryz.func267.trans (qM some (by kernel_rfl))
 f286:=Tryz.func268.trans (qM some (by kernel_rfl))
 f317:=Tryz.func381.trans (qM some (by kernel_rfl))
 f318:=Tryz.func383.trans (qM some (by kernel_rfl))
 f319:=Tryz.func384.trans (qM some (by kernel_rfl))
 f320:=Tryz.func385.trans (qM some (by kernel_rfl))
 f337:=Tryz.func513.trans (qM some (by kernel_rfl))
 f338:=Tryz.func514.trans (qM some (by kernel_rfl))
 t0:=Tryz.underlying0
 a0:=Tryz.isAgg0
 z0:=Tryz.sizeOf0
 v0:=Tryz.zeroValue0
 t2:=Tryz.underlying2
 a2:=Tryz.isAgg2
 z2:=Tryz.sizeOf2
 v2:=Tryz.zeroValue2
 t3:=Tryz.underlying3
 a3:=Tryz.isAgg3
 z3:=Tryz.sizeOf3
 v3:=Tryz.zeroValue3
 t4:=Tryz.underlying4
 a4:=Tryz.isAgg4
 z4:=Tryz.sizeOf4
 v4:=Tryz.zeroValue4
 t5:=Tryz.underlying5
 a5:=Tryz.isAgg5
 z5:=Tryz.sizeOf5
 v5:=Tryz.zeroValue5
 t9:=Tryz.underlying9
 a9:=Tryz.isAgg9
 z9:=Tryz.sizeOf9
 v9:=Tryz.zeroValue9
 t20:=Tryz.underlying20
 a20:=Tryz.isAgg20
 z20:=Tryz.sizeOf20
 v20:=Tryz.zeroValue20
 t37:=Tryz.underlying408
 a37:=Tryz.isAgg408
 z37:=Tryz.sizeOf408
 v37:=Tryz.zeroValue408
 t46:=Tryz.underlying422
 a46:=Tryz.isAgg422
 z46:=Tryz.sizeOf422
 v46:=Tryz.zeroValue422
 t51:=Tryz.underlying511
 a51:=Tryz.isAgg511
 z51:=Tryz.sizeOf511
 v51:=Tryz.zeroValue511
 t53:=Tryz.underlying405
 a53:=Tryz.isAgg405
 z53:=Tryz.sizeOf405
 v53:=Tryz.zeroValue405
 t171:=Tryz.underlying404
 a171:=Tryz.isAgg404
 z171:=Tryz.sizeOf404
 v171:=Tryz.zeroValue404
 t173:=Tryz.underlying409
 a173:=Tryz.isAgg409
 z173:=Tryz.sizeOf409
 v173:=Tryz.zeroValue409
 t212:=Tryz.underlying510
 a212:=Tryz.isAgg510
 z212:=Tryz.sizeOf510
 v212:=Tryz.zeroValue510
 t213:=Tryz.underlying512
 a213:=Tryz.isAgg512
 z213:=Tryz.sizeOf512
 t232:=Tryz.underlying717
 a232:=Tryz.isAgg717
 z232:=Tryz.sizeOf717
 v232:=Tryz.zeroValue717
 t233:=Tryz.underlying718
 a233:=Tryz.isAgg718
 z233:=Tryz.sizeOf718
 v233:=Tryz.zeroValue718
 g17:=by kernel_rfl
 g18:=by kernel_rfl
 g19:=by kernel_rfl
 i0:=by kernel_rfl
 i2:=by kernel_rfl
 i3:=by kernel_rfl
 i4:=by kernel_rfl
 i5:=by kernel_rfl
 i9:=by kernel_rfl
 i20:=by kernel_rfl
 i37:=by kernel_rfl
 i46:=by kernel_rfl
 i51:=by kernel_rfl
 i53:=by kernel_rfl
 i171:=by kernel_rfl
 i173:=by kernel_rfl
 i212:=by kernel_rfl
 i232:=by kernel_rfl
 i233:=by kernel_rfl
 m17:=by kernel_rfl
 m18:=by kernel_rfl
 m19:=by kernel_rfl }
end Go.Proofs
namespace Go.Proofs.YtokncnjohiobcaaGreatDoor
open Go.Shelf Go.RowKit Go.Rt
theorem fFormatInt:Tryz.laysFormatInt_ren.f 173=95:=by kernel_rfl
theorem digF_eq:∀(f u:Nat),u<10^(f+1)->digF (f+1) u=Lib.decDigits u
 | 0,u,h=>by
  have h1:u<10:=by simpa using h
  rw[Lib.decDigits,dif_pos h1];unfold digF;rw[qY h1]
 | f+1,u,h=>by
  rw[Lib.decDigits,digF];by_cases h1:u<10
  .rw[qY h1,dif_pos h1]
  .rw[qG h1,dif_neg h1,digF_eq f (u/10) (by rw[Nat.pow_succ]at h;omega)]
theorem pow10_in {w:tS} {z:Fz} (hz:z.In w) (hg:Glo te z):Lib.TabIs Tryz.prog w "internal/strconv.uint64pow10" .u64 Lib.pow10Tab:=by
 obtain⟨hF,r,hr,_,e,c,hh⟩:=hg 0 globPT globP rfl;obtain⟨v1,e1,hr⟩:=RD.int_inv hr;obtain⟨v2,e2,hr⟩:=RD.int_inv hr;obtain⟨v3,e3,hr⟩:=RD.int_inv hr;obtain⟨v4,e4,hr⟩:=RD.int_inv hr;obtain⟨v5,e5,hr⟩:=RD.int_inv hr;obtain⟨v6,e6,hr⟩:=RD.int_inv hr;obtain⟨v7,e7,hr⟩:=RD.int_inv hr;obtain⟨v8,e8,hr⟩:=RD.int_inv hr;obtain⟨v9,e9,hr⟩:=RD.int_inv hr;obtain⟨ZZ,D,hr⟩:=RD.int_inv hr;obtain⟨Z,C,hr⟩:=RD.int_inv hr;obtain⟨Y,y,hr⟩:=RD.int_inv hr;obtain⟨V,x,hr⟩:=RD.int_inv hr;obtain⟨U,u,hr⟩:=RD.int_inv hr;obtain⟨O,s,hr⟩:=RD.int_inv hr;obtain⟨M,q,hr⟩:=RD.int_inv hr;obtain⟨J,p,hr⟩:=RD.int_inv hr;obtain⟨G,m,hr⟩:=RD.int_inv hr
 obtain⟨F,j,hr⟩:=RD.int_inv hr;obtain⟨v20,h,hr⟩:=RD.int_inv hr;have f:=hr.nil_inv;subst f h j m p q s u x y C D e9 e8 e7 e6 e5 e4 e3 e2 e1;have hw:=(hz _ hF).2.trans hh;unfold Lib.TabIs World.var?
 have hn:(Tryz.prog).globalNamed "internal/strconv.uint64pow10" = some 0:=by kernel_rfl
 rw[hn];simp only[qBs,hw];have ht:Lib.pow10Tab=[1,10,100,1000,10000,100000,1000000,10000000,100000000,1000000000,10000000000,100000000000,1000000000000,10000000000000,100000000000000,1000000000000000,10000000000000000,100000000000000000,1000000000000000000,10000000000000000000]:=by decide +kernel
 rw[ht];rfl
theorem rI_(x0 j:Int)(r:tR)(f:eL_ x0 j=some r)(w0:tS)(z:Fz)(p:z.In w0)(q:Glo te z):Ret Tryz.prog 95 #[.int .i64 x0,.int .i64 j] w0 λv w=>v=S r/\Ext w0 w:=by
 unfold eL_ at f;split at f
 .rename_i h;obtain⟨rfl,h1,x⟩:=h;obtain rfl:=qSj f;have m:=Any.strconv_FormatInt_10 Tryz.laysFormatInt x0 h1 x w0 (pow10_in p q);rw[fFormatInt]at m;refine Calls.mono m λe w ⟨s,k,os,u⟩=>⟨_,s,?_,⟨os,(w0.drewN k).drawn,u⟩⟩
  unfold Lib.itoa;by_cases h0:x0<0
  .rw[qY h0,qY h0,digF_eq 19 _ (by omega)];rfl
  .rw[qG h0,qG h0,digF_eq 19 _ (by omega)];rfl
 .cases f
def pH_:Con te:=af_ te [.d (.int .i64),.d (.int .i64)] [(.str,[])] false λa=>eL_ a.1 a.2.1
theorem nj_:Con.OK Tryz.prog te 95 pH_/\cr_ Tryz.prog 95=true:=by
 refine⟨λR a k r hr=>?_,by kernel_rfl⟩;obtain⟨y,h1,j⟩:=bind_some hr;exact⟨_,_,j,sj_ (y:=y) rfl rfl rfl rfl rfl λw z f h=>rI_ a.1 a.2.1 y h1 w z f h⟩
end Go.Proofs.YtokncnjohiobcaaGreatDoor
namespace Go.Proofs
open Go.Shelf Go.RowKit Go.Rt
variable{P:tT}{ρ:Ren}
def gK_(T e:tA)(b:Nat)(w w':tS):Prop:=∃A cap,w'.heap[b]? = some (.cells #[.pointer (some ⟨b,0,none⟩),.slice A 0 cap] T (0,0))/\((A=none/\cap=0)\/∃q cs,A=some ⟨q,0,none⟩/\w.heap.size<=q/\w'.heap[q]? = some (.cells cs e (0,0))/\cs.size=cap/\cap<=maxLen)/\Grow w w'/\∀k,k<w.heap.size->k≠b->w'.heap[k]? = w.heap[k]?
theorem grownF_row{T e:tA}{b:Nat}{w:tS}{cs:Array tW}(f:w.heap[b]? = some (.cells #[.pointer (some ⟨b,0,none⟩),.slice none 0 0] T (0,0)))(hm:cs.size<=maxLen) :
  gK_ T e b w ((w.alloc (.cells cs e)).setCell ⟨b,1,none⟩ (.slice (some ⟨w.heap.size,0,none⟩) 0 cs.size)).drew.drew.drew:=by
 have m:b<w.heap.size:=by
  rcases qb b w.heap.size with q|q
  .exact q
  .simp[qi q]at f
 have p:(w.alloc (.cells cs e)).heap[b]? = some (.cells #[.pointer (some ⟨b,0,none⟩),.slice none 0 0] T (0,0)):=(Lib.alloc_old w _ b m).trans f;have h:(w.alloc (.cells cs e)).heap[w.heap.size]? = some (.cells cs e (0,0)):=by
  show(w.heap.push _)[w.heap.size]? = _;simp
 refine⟨some ⟨w.heap.size,0,none⟩,cs.size,?_,.inr ⟨w.heap.size,cs,rfl,qA _,?_,rfl,hm⟩,⟨rfl,rfl,rfl,?_⟩,λk s j=>?_⟩
 .show((w.alloc (.cells cs e)).setCell ⟨b,1,none⟩ (.slice (some ⟨w.heap.size,0,none⟩) 0 cs.size)).heap[b]? = _;simp[World.setCell,zJ,p]
 .show((w.alloc (.cells cs e)).setCell ⟨b,1,none⟩ (.slice (some ⟨w.heap.size,0,none⟩) 0 cs.size)).heap[w.heap.size]? = _;simp only[World.setCell,zJ];rw[qG (by omega),h]
 .show w.heap.size<=((w.alloc (.cells cs e)).setCell ⟨b,1,none⟩ (.slice (some ⟨w.heap.size,0,none⟩) 0 cs.size)).heap.size;simp only[World.setCell,Array.size_modify];exact(Grow.of_below (Ext.one w _).below).size
 .show((w.alloc (.cells cs e)).setCell ⟨b,1,none⟩ (.slice (some ⟨w.heap.size,0,none⟩) 0 cs.size)).heap[k]? = _;simp only[World.setCell,zJ];rw[qG (λe=>j e.symm)];exact Lib.alloc_old w _ k s
set_option maxHeartbeats 2000000 in
set_option maxRecDepth 1000000 in
theorem Any.Builder_grow_f(L:Lays.n241 P ρ)(X:Builder.Extra P ρ)(b n:Nat)(w:tS)(h:w.heap[b]? = some (.cells #[.pointer (some ⟨b,0,none⟩),.slice none 0 0] (ρ.t 72) (0,0)))(G:n<=281474976710656) :
  Calls P (ρ.f 241) #[.pointer (some ⟨b,0,none⟩),.int .i64 n] w λe w'=>e = .returned (.tuple #[])/\gK_ (ρ.t 72) (ρ.t 5) b w w':=by
 obtain⟨cs,p,J,q⟩:=Lib.run_makeNoZero (P:=P) w.drew #[(ρ.t 3)] (ρ.t 37) (ρ.t 5) L.t37 n G;have y:IntKind.i64.wrap (IntKind.i64.wrap 0+(n:Int))=n:=by
  rw[IntKind.wrap_i64,IntKind.wrap_i64];omega
 have x:(callFunc (ρ.f 277) #[.int .i64 (IntKind.i64.wrap (IntKind.i64.wrap 0+(n:Int)))]).run P w.drew = .ok (.value (.slice (some ⟨w.drew.heap.size,0,none⟩) n cs.size)) (w.drew.drew.drew.alloc (.cells cs (ρ.t 5))):=by
  rw[y,run_callFunc_extern L.f277 (by kernel_rfl) (by kernel_rfl) (by kernel_rfl) (e:=Extern.BytealgMakeNoZero.makeNoZero #[(ρ.t 3)] #[(ρ.t 37)]) (by kernel_rfl),p];rfl
 have V:w.drew.cell? ⟨b,1,none⟩=some (.slice none 0 0):=by
  have:w.drew.heap[b]? = _:=h;rw[Lib.cell_of_heap this];rfl
 have U:(w.alloc (.cells cs (ρ.t 5))).cell? ⟨b,1,none⟩=some (.slice none 0 0):=by
  have j:b<w.heap.size:=by
   rcases qb b w.heap.size with m|m
   .exact m
   .simp[qi m]at h
  have:(w.alloc (.cells cs (ρ.t 5))).heap[b]? = _:=(Lib.alloc_old w _ b j).trans h;rw[Lib.cell_of_heap this];rfl
 have f2:(w.alloc (.cells cs (ρ.t 5))).frozen? ⟨b,1,none⟩=false:=by
  have j:b<w.heap.size:=by
   rcases qb b w.heap.size with m|m
   .exact m
   .simp[qi m]at h
  exact Lib.frozen_of_heap ((Lib.alloc_old w _ b j).trans h) 1
 have u:∀W:tS,(Builtin.copy_ #[(ρ.t 37),(ρ.t 37)] (ρ.t 3) #[.slice (some ⟨w.heap.size,0,none⟩) 0 cs.size,.slice none 0 0]).run P W = .ok (goInt 0) W:=
  λW=>run_copy_none W (ρ.t 37) (ρ.t 37) (ρ.t 3) (ρ.t 5) _ _ 0 cs.size 0 0 L.t37 X.sizeByte rfl
 clear y;have mixed:=L.mixed;have t72:=L.t72;have a72:=L.a72;have z72:=L.z72;have v72:=L.v72;have C:=run_underlying L.t72;have t70:=L.t70;have a70:=L.a70;have z70:=L.z70;have v70:=L.v70;have D:=run_underlying L.t70;have t37:=L.t37;have a37:=L.a37;have z37:=L.z37;have v37:=L.v37;have F:=run_underlying L.t37;have t3:=L.t3;have a3:=L.a3;have z3:=L.z3;have v3:=L.v3;have O:=run_underlying L.t3;have t5:=X.t5;have a5:=X.a5;have z5:=X.z5;have v5:=X.v5;have M:=run_underlying X.t5
 go_enter L.f241,Body.n241_ntmps ρ
 go_wp2
 have s:=grownF_row (T:=(ρ.t 72)) (e:=(ρ.t 5)) (cs:=cs) h (q (by unfold maxLen;omega))
 go_region_o
 all_goals (go_wp2;go_end0;exact⟨rfl,s⟩)
set_option maxHeartbeats 2000000 in
set_option maxRecDepth 1000000 in
theorem Any.Builder_Grow_f(L:Lays.n165 P ρ)(X:Builder.Extra P ρ)(b n:Nat)(w:tS)(m:w.heap[b]? = some (.cells #[.pointer none,.slice none 0 0] (ρ.t 72) (0,0)))(Z:n<=281474976710656) :
  Calls P (ρ.f 165) #[.pointer (some ⟨b,0,none⟩),.int .i64 n] w λe w'=>e = .returned (.tuple #[])/\gK_ (ρ.t 72) (ρ.t 5) b w w':=by
 have h:(w.setCell ⟨b,0,none⟩ (.pointer (some ⟨b,0,none⟩))).heap[b]? = some (.cells #[.pointer (some ⟨b,0,none⟩),.slice none 0 0] (ρ.t 72) (0,0)):=by
  simp[World.setCell,zJ,m]
 have c1:(w.setCell ⟨b,0,none⟩ (.pointer (some ⟨b,0,none⟩))).cell? ⟨b,1,none⟩=some (.slice none 0 0):=by rw[Lib.cell_of_heap h];rfl
 have s:(w.setCell ⟨b,0,none⟩ (.pointer (some ⟨b,0,none⟩))).heap.size=w.heap.size:=by simp[World.setCell]
 have p:∀k,k≠b->(w.setCell ⟨b,0,none⟩ (.pointer (some ⟨b,0,none⟩))).heap[k]? = w.heap[k]?:=λk x=>by
  simp only[World.setCell,zJ];rw[qG (λe=>x e.symm)]
 have mixed:=L.mixed;have t72:=L.t72;have a72:=L.a72;have z72:=L.z72;have v72:=L.v72;have M:=run_underlying L.t72;have t70:=L.t70;have a70:=L.a70;have z70:=L.z70;have v70:=L.v70;have O:=run_underlying L.t70;have t37:=L.t37;have a37:=L.a37;have z37:=L.z37;have v37:=L.v37;have U:=run_underlying L.t37;have t3:=L.t3;have a3:=L.a3;have z3:=L.z3;have v3:=L.v3;have u3:=run_underlying L.t3;have t9:=L.t9;have a9:=L.a9;have z9:=L.z9;have v9:=L.v9;have u9:=run_underlying L.t9;have t4:=L.t4;have a4:=L.a4;have z4:=L.z4;have v4:=L.v4;have u4:=run_underlying L.t4;have t164:=L.t164;have a164:=L.a164;have z164:=L.z164;have v164:=L.v164;have C:=run_underlying L.t164
 have t5:=X.t5;have a5:=X.a5;have z5:=X.z5;have v5:=X.v5;have u5:=run_underlying X.t5;have J:∀args w,(callFunc (ρ.f 240) args).run P w = .ok (.enter (ρ.f 240) args) w:=enters_of L.f240 (by kernel_rfl) rfl;have G:∀args w,(callFunc (ρ.f 241) args).run P w = .ok (.enter (ρ.f 241) args) w:=enters_of L.f241 (by kernel_rfl) rfl
 go_enter L.f165,Body.n165_ntmps ρ
 have hU:gK_ (ρ.t 72) (ρ.t 5) b w (w.setCell ⟨b,0,none⟩ (.pointer (some ⟨b,0,none⟩))):=⟨none,0,h,.inl ⟨rfl,rfl⟩,⟨rfl,rfl,rfl,by rw[s];exact qA _⟩,λk _ j=>p k j⟩;have F:∀w',gK_ (ρ.t 72) (ρ.t 5) b (w.setCell ⟨b,0,none⟩ (.pointer (some ⟨b,0,none⟩))).drew w'->gK_ (ρ.t 72) (ρ.t 5) b w w':=λw' ⟨A,cap,h1,y,h3,h4⟩=>by
  have hg:Grow w (w.setCell ⟨b,0,none⟩ (.pointer (some ⟨b,0,none⟩))).drew:=⟨rfl,rfl,rfl,by show w.heap.size<=(w.setCell ⟨b,0,none⟩ (.pointer (some ⟨b,0,none⟩))).heap.size;rw[s];exact qA _⟩;have u:(w.setCell ⟨b,0,none⟩ (.pointer (some ⟨b,0,none⟩))).drew.heap.size=w.heap.size:=s;refine⟨A,cap,h1,?_,hg.trans h3,λk x j=>(h4 k (by rw[u];exact x) j).trans (p k j)⟩;rcases y with y|⟨q,cs,Y,D,V⟩
  .exact .inl y
  .rw[u]at D;exact .inr ⟨q,cs,Y,D,V⟩
 have ZZ:(w.setCell ⟨b,0,none⟩ (.pointer (some ⟨b,0,none⟩))).drew.cell? ⟨b,1,none⟩=some (.slice none 0 0):=c1
 go_wp2_with (go_at_fn (ρ.f 240);refine(Any.Builder_copyCheck_fresh { L with } X.toX72 b w (by rw[Lib.cell_of_heap m];rfl) (by simp[World.shape?,m]) (Lib.frozen_of_heap m 0)).mono ?_;rintro e w' ⟨rfl,rfl⟩)
 go_region_o
 all_goals go_wp2_with (go_at_fn (ρ.f 241);refine(Any.Builder_grow_f { L with } X b n (w.setCell ⟨b,0,none⟩ (.pointer (some ⟨b,0,none⟩))).drew h Z).mono ?_;rintro e w' ⟨rfl,h1⟩)
 all_goals first
  | (go_end0;exact⟨rfl,F _ h1⟩)
  | (go_end0;exact⟨rfl,hU⟩)
  | (go_end0;exact⟨rfl,F _ ⟨none,0,h,.inl ⟨rfl,rfl⟩,⟨rfl,rfl,rfl,qA _⟩,λ_ _ _=>rfl⟩⟩)
set_option maxHeartbeats 2000000 in
set_option maxRecDepth 1000000 in
theorem Any.Builder_Grow_u(L:Lays.n165 P ρ)(X:Builder.Extra P ρ)(b n:Nat)(w:tS)(h:w.heap[b]? = some (.cells #[.pointer (some ⟨b,0,none⟩),.slice none 0 0] (ρ.t 72) (0,0)))(C:n<=281474976710656) :
  Calls P (ρ.f 165) #[.pointer (some ⟨b,0,none⟩),.int .i64 n] w λe w'=>e = .returned (.tuple #[])/\gK_ (ρ.t 72) (ρ.t 5) b w w':=by
 have O:w.cell? ⟨b,1,none⟩=some (.slice none 0 0):=by rw[Lib.cell_of_heap h];rfl
 have mixed:=L.mixed;have t72:=L.t72;have a72:=L.a72;have z72:=L.z72;have v72:=L.v72;have u:=run_underlying L.t72;have t70:=L.t70;have a70:=L.a70;have z70:=L.z70;have v70:=L.v70;have x:=run_underlying L.t70;have t37:=L.t37;have a37:=L.a37;have z37:=L.z37;have v37:=L.v37;have y:=run_underlying L.t37;have t3:=L.t3;have a3:=L.a3;have z3:=L.z3;have v3:=L.v3;have Y:=run_underlying L.t3;have t9:=L.t9;have a9:=L.a9;have z9:=L.z9;have v9:=L.v9;have U:=run_underlying L.t9;have t4:=L.t4;have a4:=L.a4;have z4:=L.z4;have v4:=L.v4;have u4:=run_underlying L.t4;have t164:=L.t164;have a164:=L.a164;have z164:=L.z164;have v164:=L.v164;have j:=run_underlying L.t164
 have t5:=X.t5;have a5:=X.a5;have z5:=X.z5;have v5:=X.v5;have V:=run_underlying X.t5;have s:∀args w,(callFunc (ρ.f 240) args).run P w = .ok (.enter (ρ.f 240) args) w:=enters_of L.f240 (by kernel_rfl) rfl;have q:∀args w,(callFunc (ρ.f 241) args).run P w = .ok (.enter (ρ.f 241) args) w:=enters_of L.f241 (by kernel_rfl) rfl
 go_enter L.f165,Body.n165_ntmps ρ
 have D:gK_ (ρ.t 72) (ρ.t 5) b w w:=⟨none,0,h,.inl ⟨rfl,rfl⟩,Grow.refl w,λ_ _ _=>rfl⟩;have p:∀w',gK_ (ρ.t 72) (ρ.t 5) b w.drew w'->gK_ (ρ.t 72) (ρ.t 5) b w w':=λw' ⟨A,cap,h1,J,G,F⟩=>⟨A,cap,h1,J,(show Grow w w.drew from⟨rfl,rfl,rfl,qA _⟩).trans G,F⟩
 have M:w.drew.cell? ⟨b,1,none⟩=some (.slice none 0 0):=O
 go_wp2_with (go_at_fn (ρ.f 240);refine(Any.Builder_copyCheck_used { L with } X.toX72 b w (by rw[Lib.cell_of_heap h];rfl)).mono ?_;rintro e w' ⟨rfl,m⟩;rw[m];clear m w')
 go_region_o
 all_goals go_wp2_with (go_at_fn (ρ.f 241);refine(Any.Builder_grow_f { L with } X b n w.drew h C).mono ?_;rintro e w' ⟨rfl,h1⟩)
 all_goals first
  | (go_end0;exact⟨rfl,p _ h1⟩)
  | (go_end0;exact⟨rfl,D⟩)
  | (go_end0;exact⟨rfl,p _ ⟨none,0,h,.inl ⟨rfl,rfl⟩,Grow.refl _,λ_ _ _=>rfl⟩⟩)
end Go.Proofs
namespace Go
namespace Rt
open Go.RowKit Go.Proofs Go.Shelf
section
variable{P:tT}{E:TE}{z:Fz}{g:Ga}{w w' w0:tS}{Bs:tL Nat}{F0:Nat->Prop}{H H':Nat->tO (Obj E)}
theorem HR.know{n:Nat}{o:Obj E}(h:HR P E Bs F0 w0 w z g H)(D:ObjR P E z g w n o)(u:∀k,fpO g n o k->w0.heap.size<=k/\¬z.F k/\∀j p,H j=some p->¬fpO g j p k):HR P E Bs F0 w0 w z g (upH H [(n,some o)]):=by
 refine⟨h.chg,λj p e=>?_,λj p k e f=>?_,λj y p x k C e e' f q=>?_,h.fz,h.fz0,λj p k e f=>?_,h.gl⟩
 .rcases aP_ e with⟨rfl,rfl⟩|⟨_,m⟩
  .exact D
  .exact h.hold j p m
 .rcases aP_ e with⟨rfl,rfl⟩|⟨_,m⟩
  .exact .inl (u k f).1
  .exact h.own j p k m f
 .rcases aP_ e with⟨rfl,rfl⟩|⟨_,m⟩<;>rcases aP_ e' with⟨rfl,rfl⟩|⟨_,s⟩
  .exact C rfl
  .exact(u k f).2.2 y x s q
  .exact(u k q).2.2 j p m f
  .exact h.apart j y p x k C m s f q
 .rcases aP_ e with⟨rfl,rfl⟩|⟨_,m⟩
  .exact(u k f).2.1
  .exact h.fza j p k m f
def growI(E:TE)(e:tA):InlF E:=λH nx xs _ k=>match xs with
 | [.one (.ptr id 0),.one (.dt (.int .i64) n)]=>match H id with
  | some (.box T [.sbp id',.nils])=>match Nat.beq id id'&&E.sb T with
   | true=>Option.bind (growB [] n) λz=>k (some (.tup [])) [(id,some (.box T [.sbp id,.own nx])),(nx,some (.row e (.int .u8) z []))]
   | false=>none
  | _=>none
 | _=>none
theorem growI_ok {ρ:Ren} (L:Lays.n165 P ρ) (X:Builder.Extra P ρ) (ZZ:E.size (.int .u8)=1) (ZY:∀T,E.sb T=true->T=ρ.t 72):l5_ P E (ρ.f 165) (growI E (ρ.t 5)):=by
 intro z g nx H xs vs R k r Bs F0 w0 w M D J h;unfold growI at h;split at h
 .rename_i id n;split at h
  .rename_i T id' hi;split at h
   .rename_i hb;simp only[qAn]at hb;obtain rfl:=qNb hb.1;have hT:=ZY T hb.2;subst hT;obtain⟨y,G,ZV⟩:=bind_some h;clear h;unfold growB at G;cases Z:(decide (0<=n)&&(n<=281474976710656))with
    | false=>rw[Z]at G;cases G
    | true =>
     rw[Z]at G;simp only[qAn,qDe]at Z;obtain rfl:=qSj (show some ([]:tL Int)=some y from G);cases J with
     | cons v1 J=>cases J with
      | cons v2 J=>
       cases J
       obtain⟨l,h1,rfl⟩:=v1;obtain⟨ZR,e2,_⟩:=RD.int_inv (show RD E z [.int .i64] (n,()) _ from v2);obtain⟨rfl,_⟩:=List.cons.inj e2;obtain⟨n,rfl⟩:∃q:Nat,n=(q:Int):=⟨Int.toNat n,(Int.toNat_of_nonneg Z.1).symm⟩;have ZQ:(n:Int)<=281474976710656:=Z.2;obtain⟨l',us,h2,h3,h4⟩:=D.hold _ _ hi;rw[h1]at h2;obtain rfl:=qSj h2;cases h4 with
       | cons c1 h4=>cases h4 with
        | cons c2 h4=>
         cases h4
         rename_i u1 u2;obtain rfl:u2 = .slice none 0 0:=c2;obtain⟨l2,s,F⟩:=c1;rw[h1]at s;obtain rfl:=qSj s
         -- what the world is behind it
         have key:Calls P (ρ.f 165) #[.pointer (some ⟨l.b,0,none⟩),.int .i64 n] w λe w'=>e = .returned (.tuple #[])/\gK_ (ρ.t 72) (ρ.t 5) l.b w w':=by
          rcases F with rfl|rfl
          .exact Any.Builder_Grow_f L X l.b n w h3 (by omega)
          .exact Any.Builder_Grow_u L X l.b n w h3 (by omega)
         refine Calls.mono key λe w' ⟨he,A,cap,q1,q2,q3,q4⟩=>?_
         have m:g nx=none:=M.self;have ZU:id≠nx:=λe=>by rw[e,m]at h1;cases h1
         have ZP:l.b<w.heap.size:=by
          rcases qb l.b w.heap.size with h'|h'
          .exact h'
          .rw[qi h']at h3;cases h3
         refine⟨_,he,.tup [],_,z,g.put nx ⟨A,0,cap,1,0,0⟩,ZV,Fz.Le.refl z,Ga.le_put m,Fresh.nxU λi hi=>M.put _ i (by omega),⟨[],rfl,.nil⟩,?_⟩;have step1:HR P E Bs F0 w0 w' z (g.put nx ⟨A,0,cap,1,0,0⟩) (upH H [(id,some (.box (ρ.t 72) [.sbp id,.own nx]))]):=by
          refine D.turn (Ga.le_put m) (i:=id) (i':=id) (C:=λk=>k=l.b) (λk u=>⟨_,hi,l,h1,u⟩) q3 (λk u ZW=>q4 k u ZW) (o':=.box (ρ.t 72) [.sbp id,.own nx]) ?_ (λk u=>?_) λj p O=>?_
          .refine⟨l,_,Ga.le_put m _ _ h1,q1,.cons ⟨l,Ga.le_put m _ _ h1,.inr rfl⟩ (.cons ⟨_,Ga.put_self _ _ _,rfl⟩ .nil)⟩
          .obtain⟨l2,s,rfl⟩:=u;rw[Ga.le_put m _ _ h1]at s;obtain rfl:=qSj s;exact .inl rfl
          .rcases aP_ O with⟨rfl,rfl⟩|⟨s,F⟩
           .exact .inl ⟨rfl,rfl⟩
           .exact .inr ⟨s,.inl s,F⟩
         have e4:upH H [(id,some (.box (ρ.t 72) [.sbp id,.own nx])),(nx,some (.row (ρ.t 5) (.int .u8) ([]:tL Int) []))]=upH (upH H [(id,some (.box (ρ.t 72) [.sbp id,.own nx]))]) [(nx,some (.row (ρ.t 5) (.int .u8) ([]:tL Int) []))]:=by
          funext j
          simp only[upH];cases O:Nat.beq j id with
          | false=>rfl
          | true=>
           have:Nat.beq j nx=false:=by
            cases hn:Nat.beq j nx with
            | false=>rfl
            | true=>exact absurd ((qNb O).symm.trans (qNb hn)) ZU
           rw[this]
         rw[e4];refine step1.know ?_ λk u=>?_
         .refine⟨_,[],Ga.put_self _ _ _,rfl,ZZ.symm,⟨rfl,?_⟩,rfl,(λr hr=>nomatch hr),(λi x r hx=>by simp at hx),λp hp=>nomatch hp⟩;rcases q2 with⟨rfl,rfl⟩|⟨q,cs,rfl,_,hq,V,Y⟩
          .exact .inl ⟨rfl,rfl⟩
          .exact .inr ⟨q,cap,cs,rfl,qv _,hq,qv _,Y,by rw[V,Nat.mul_one],by simp⟩
         .obtain⟨l2,a2,s,F,rfl⟩:=u;rw[Ga.put_self]at s;obtain rfl:=qSj s;rcases q2 with⟨rfl,_⟩|⟨q,cs,rfl,ZX,hq,V,Y⟩
          .cases F
          .obtain rfl:=qSj F;refine⟨qN D.size ZX,λhz=>?_,λj p O U=>?_⟩
           .have:=(D.fz _ hz).1;have:q<w.heap.size:=this;omega
           .rcases aP_ O with⟨rfl,rfl⟩|⟨h7,h8⟩
            .obtain⟨l3,h9,ZS⟩:=U;rw[Ga.le_put m _ _ h1]at h9;obtain rfl:=qSj h9;have:q=l.b:=ZS;omega
            .have ZT:=(hu_ (D.hold j p h8).loc (Ga.le_put m)).1 U;have:q<w.heap.size:=(D.hold j p h8).lt ZT;omega
   .cases h
  .cases h
 .cases h
end
end Rt
end Go
namespace Go.Proofs
open Go.Shelf
def Tryz.laysGrow_ren:Go.Shelf.Ren:=⟨λ|165=>506|240=>584|241=>628|276=>692|277=>736|n=>n,λ|70=>589|3=>3|0=>0|4=>4|9=>9|20=>20|72=>591|37=>408|164=>764|5=>5|n=>n,λ|n=>n⟩
theorem Tryz.laysGrow:Go.Proofs.Lays.n165 Tryz.prog Tryz.laysGrow_ren:={
 mixed:=by kernel_rfl
 f165:=Tryz.func506.trans (qM some (by kernel_rfl))
 f240:=Tryz.func584.trans (qM some (by kernel_rfl))
 f241:=Tryz.func628.trans (qM some (by kernel_rfl))
 f276:=Tryz.func692.trans (qM some (by kernel_rfl))
 f277:=Tryz.func736.trans (qM some (by kernel_rfl))
 t0:=Tryz.underlying0
 a0:=Tryz.isAgg0
 z0:=Tryz.sizeOf0
 v0:=Tryz.zeroValue0
 t3:=Tryz.underlying3
 a3:=Tryz.isAgg3
 z3:=Tryz.sizeOf3
 v3:=Tryz.zeroValue3
 t4:=Tryz.underlying4
 a4:=Tryz.isAgg4
 z4:=Tryz.sizeOf4
 v4:=Tryz.zeroValue4
 t9:=Tryz.underlying9
 a9:=Tryz.isAgg9
 z9:=Tryz.sizeOf9
 v9:=Tryz.zeroValue9
 t20:=Tryz.underlying20
 a20:=Tryz.isAgg20
 z20:=Tryz.sizeOf20
 v20:=Tryz.zeroValue20
 t37:=Tryz.underlying408
 a37:=Tryz.isAgg408
 z37:=Tryz.sizeOf408
 v37:=Tryz.zeroValue408
 t70:=Tryz.underlying589
 a70:=Tryz.isAgg589
 z70:=Tryz.sizeOf589
 v70:=Tryz.zeroValue589
 t72:=Tryz.underlying591
 a72:=Tryz.isAgg591
 z72:=Tryz.sizeOf591
 v72:=Tryz.zeroValue591
 t164:=Tryz.underlying764
 a164:=Tryz.isAgg764
 z164:=Tryz.sizeOf764
 v164:=Tryz.zeroValue764 }
end Go.Proofs
namespace Go.Proofs.YtokncnjohiobcaaGreatDoor
open Go.Shelf Go.RowKit Go.Rt
theorem Tryz.extraGrow:Builder.Extra Tryz.prog Tryz.laysGrow_ren where
 sizeBuilder:=by kernel_rfl
 liesBuilder:=by kernel_rfl
 t5:=Tryz.underlying5
 a5:=Tryz.isAgg5
 z5:=Tryz.sizeOf5
 v5:=Tryz.zeroValue5
 infoByte:=by kernel_rfl
 cellsByte:=by kernel_rfl
 sizeByte:=by kernel_rfl
 neB5:=by decide
theorem fGrow:Tryz.laysGrow_ren.f 165=506:=by kernel_rfl
theorem tGrow:Tryz.laysGrow_ren.t 5=5:=by kernel_rfl
def inl_Grow:InlF te:=growI te 5
theorem ok_inl_Grow:l5_ Tryz.prog te 506 inl_Grow/\cr_ Tryz.prog 506=true:=by
 refine⟨?_,by kernel_rfl⟩;have h:l5_ Tryz.prog te (Tryz.laysGrow_ren.f 165) (growI te (Tryz.laysGrow_ren.t 5)):=growI_ok (E:=te) Tryz.laysGrow Tryz.extraGrow (by kernel_rfl) λT j=>(qNb j:T=591)
 rw[fGrow,tGrow]at h;exact @h
end Go.Proofs.YtokncnjohiobcaaGreatDoor
namespace Go.Proofs
open Go.Shelf
def Tryz.laysIndexByte_ren:Go.Shelf.Ren:=⟨λ|217=>806|266=>895|n=>n,λ|9=>9|5=>5|3=>3|n=>n,λ|n=>n⟩
theorem Tryz.laysIndexByte:Go.Proofs.Lays.n217 Tryz.prog Tryz.laysIndexByte_ren:={
 mixed:=by kernel_rfl
 f217:=Tryz.func806.trans (qM some (by kernel_rfl))
 f266:=Tryz.func895.trans (qM some (by kernel_rfl))
 t3:=Tryz.underlying3
 a3:=Tryz.isAgg3
 z3:=Tryz.sizeOf3
 v3:=Tryz.zeroValue3
 t5:=Tryz.underlying5
 a5:=Tryz.isAgg5
 z5:=Tryz.sizeOf5
 v5:=Tryz.zeroValue5
 t9:=Tryz.underlying9
 a9:=Tryz.isAgg9
 z9:=Tryz.sizeOf9
 v9:=Tryz.zeroValue9 }
end Go.Proofs
namespace Go.Proofs.YtokncnjohiobcaaGreatDoor
open Go.Shelf Go.RowKit Go.Rt
theorem fIndexByte:Tryz.laysIndexByte_ren.f 217=806:=by kernel_rfl
theorem wY_:∀(s:tR) (c:UInt8),idxB s c=Lib.indexByte s c
 | [],_=>rfl
 | b::l,c=>by simp only[idxB,Lib.indexByte,wY_ l c]
theorem W_IndexByte(x0:tR)(f r:Int)(h:stringslite_IndexByte x0 f=some r)(w0:tS):Ret Tryz.prog 806 #[S x0,.int .u8 f] w0 λv w=>v = .int .i64 r/\Ext w0 w:=by
 unfold stringslite_IndexByte at h;simp only[qOi]at h;subst h;have j:=Any.stringslite_IndexByte Tryz.laysIndexByte ⟨x0.toArray⟩ f w0;rw[fIndexByte]at j;refine Calls.mono j λe w ⟨m,p⟩=>⟨_,m,?_,?_⟩
 .simp[wY_]
 .subst p;exact Ext.refl _
def mp_:Con te:=af_ te [.d .str,.d (.int .u8)] [(.int .i64,[])] false λa=>stringslite_IndexByte a.1 a.2.1
theorem con_bind{ps:tL Pm}{rs:Rs}{ali:tV}{f:PA te ps->tO (Tp te.S (rs.ts++aI_ ps))}{R:Type}{a:PA te ps}{k:HL te.S rs.ts->HL te.S (aI_ ps)->tO R}{r:R}(hr:(af_ te ps rs ali f).F R a k=some r):∃y,f a=some y/\k (ft_ rs.ts (aI_ ps) (bs_ _ y)) (hsnd rs.ts (aI_ ps) (bs_ _ y))=some r:=bind_some hr
theorem kE_:Con.OK Tryz.prog te 806 mp_/\cr_ Tryz.prog 806=true:=by
 refine⟨λR a k r hr=>?_,by kernel_rfl⟩;obtain⟨y,h1,h⟩:=con_bind (ps:=[.d .str,.d (.int .u8)]) (rs:=[(.int .i64,[])]) (ali:=false) (f:=λa=>stringslite_IndexByte a.1 a.2.1) hr;exact⟨_,_,h,os_ (y:=y) rfl rfl rfl rfl rfl λw=>W_IndexByte a.1 a.2.1 y h1 w⟩
end Go.Proofs.YtokncnjohiobcaaGreatDoor
namespace Go.Proofs
open Go.Shelf
def Tryz.laysIndex_ren:Go.Shelf.Ren:=⟨λ|219=>735|217=>806|225=>807|224=>808|267=>809|266=>895|314=>896|n=>n,λ|9=>9|3=>3|4=>4|5=>5|46=>422|146=>953|51=>511|n=>n,λ|1=>3|n=>n⟩
theorem Tryz.laysIndex:Go.Proofs.Lays.n219 Tryz.prog Tryz.laysIndex_ren:={
 mixed:=by kernel_rfl
 f217:=Tryz.func806.trans (qM some (by kernel_rfl))
 f219:=Tryz.func735.trans (qM some (by kernel_rfl))
 f224:=Tryz.func808.trans (qM some (by kernel_rfl))
 f225:=Tryz.func807.trans (qM some (by kernel_rfl))
 f266:=Tryz.func895.trans (qM some (by kernel_rfl))
 f267:=Tryz.func809.trans (qM some (by kernel_rfl))
 f314:=Tryz.func896.trans (qM some (by kernel_rfl))
 t3:=Tryz.underlying3
 a3:=Tryz.isAgg3
 z3:=Tryz.sizeOf3
 v3:=Tryz.zeroValue3
 t4:=Tryz.underlying4
 a4:=Tryz.isAgg4
 z4:=Tryz.sizeOf4
 v4:=Tryz.zeroValue4
 t5:=Tryz.underlying5
 a5:=Tryz.isAgg5
 z5:=Tryz.sizeOf5
 v5:=Tryz.zeroValue5
 t9:=Tryz.underlying9
 a9:=Tryz.isAgg9
 z9:=Tryz.sizeOf9
 v9:=Tryz.zeroValue9
 t46:=Tryz.underlying422
 a46:=Tryz.isAgg422
 z46:=Tryz.sizeOf422
 v46:=Tryz.zeroValue422
 t51:=Tryz.underlying511
 a51:=Tryz.isAgg511
 z51:=Tryz.sizeOf511
 v51:=Tryz.zeroValue511
 t146:=Tryz.underlying953
 a146:=Tryz.isAgg953
 z146:=Tryz.sizeOf953
 v146:=Tryz.zeroValue953
 g1:=by kernel_rfl }
end Go.Proofs
namespace Go.Proofs.YtokncnjohiobcaaGreatDoor
open Go.Shelf Go.RowKit Go.Rt
theorem fIndex:Tryz.laysIndex_ren.f 219=735:=by kernel_rfl
theorem wZ_:∀(s:tR) (c:UInt8),idxB s c=Lib.indexByte s c
 | [],_=>rfl
 | b::l,c=>by simp only[idxB,Lib.indexByte,wZ_ l c]
theorem W_Index(x0 h:tR)(r:Int)(f:stringslite_Index x0 h=some r)(w0:tS):Ret Tryz.prog 735 #[S x0,S h] w0 λv w=>v = .int .i64 r/\Ext w0 w:=by
 unfold stringslite_Index at f;split at f
 .rename_i c;simp only[qOi]at f;subst f;have j:=Any.stringslite_Index_one Tryz.laysIndex ⟨x0.toArray⟩ c w0;rw[fIndex]at j;refine Calls.mono j λe w ⟨m,p⟩=>⟨_,m,?_,?_⟩
  .simp[wZ_]
  .subst p;exact Ext.refl _
 .cases f
def pI_:Con te:=af_ te [.d .str,.d .str] [(.int .i64,[])] false λa=>stringslite_Index a.1 a.2.1
theorem nk_:Con.OK Tryz.prog te 735 pI_/\cr_ Tryz.prog 735=true:=by
 refine⟨λR a k r hr=>?_,by kernel_rfl⟩;obtain⟨y,h1,f⟩:=bind_some hr;exact⟨_,_,f,os_ (y:=y) rfl rfl rfl rfl rfl λw=>W_Index a.1 a.2.1 y h1 w⟩
end Go.Proofs.YtokncnjohiobcaaGreatDoor
namespace Go.Proofs
open Go.Shelf
def Tryz.laysBString_ren:Go.Shelf.Ren:=⟨λ|169=>464|n=>n,λ|70=>589|9=>9|0=>0|72=>591|37=>408|127=>694|3=>3|5=>5|n=>n,λ|n=>n⟩
theorem Tryz.laysBString:Go.Proofs.Lays.n169 Tryz.prog Tryz.laysBString_ren:={
 mixed:=by kernel_rfl
 f169:=Tryz.func464.trans (qM some (by kernel_rfl))
 t0:=Tryz.underlying0
 a0:=Tryz.isAgg0
 z0:=Tryz.sizeOf0
 v0:=Tryz.zeroValue0
 t3:=Tryz.underlying3
 a3:=Tryz.isAgg3
 z3:=Tryz.sizeOf3
 v3:=Tryz.zeroValue3
 t9:=Tryz.underlying9
 a9:=Tryz.isAgg9
 z9:=Tryz.sizeOf9
 v9:=Tryz.zeroValue9
 t37:=Tryz.underlying408
 a37:=Tryz.isAgg408
 z37:=Tryz.sizeOf408
 v37:=Tryz.zeroValue408
 t70:=Tryz.underlying589
 a70:=Tryz.isAgg589
 z70:=Tryz.sizeOf589
 v70:=Tryz.zeroValue589
 t72:=Tryz.underlying591
 a72:=Tryz.isAgg591
 z72:=Tryz.sizeOf591
 v72:=Tryz.zeroValue591
 t127:=Tryz.underlying694
 a127:=Tryz.isAgg694
 z127:=Tryz.sizeOf694
 v127:=Tryz.zeroValue694 }
end Go.Proofs
namespace Go
namespace Rt
open Go.RowKit Go.Proofs
section
variable{P:tT}{E:TE}{z:Fz}{g:Ga}{w w' w0:tS}{Bs:tL Nat}{F0:Nat->Prop}{H H':Nat->tO (Obj E)}
theorem HR.gone(h:HR P E Bs F0 w0 w z g H){C:Nat->Prop}(G:∀k,C k->∃i o,H i=some o/\fpO g i o k/\H' i=none)
  (M:Grow w w') (D:∀k,k<w.heap.size->¬C k->w'.heap[k]? = w.heap[k]?) (m:∀j o,H' j=some o->H j=some o):HR P E Bs F0 w0 w' z g H':=by
 have bp_:∀k,C k->w0.heap.size<=k\/k∈Bs:=λk f=>by obtain⟨i,o,h1,u,_⟩:=G k f;exact h.own i o k h1 u
 have far:∀j o k,H' j=some o->fpO g j o k->¬C k:=λj o k e O f=>by
  obtain⟨i,p,h1,u,U⟩:=G k f;exact h.apart j i o p k (λej=>by rw[ej,U]at e;cases e) (m j o e) h1 O u
 have fzC:∀k,z.F k->¬C k:=λk x f=>by obtain⟨i,o,h1,u,_⟩:=G k f;exact h.fza i o k h1 u x
 refine⟨⟨h.chg.grow.trans M,λk q y=>(D k (zS q h.size) λf=>?_).trans (h.chg.block k q y)⟩,λj o e=>?_,λj o k e=>h.own j o k (m j o e),λj J o p k y e e'=>h.apart j J o p k y (m j o e) (m J p e'),λk x=>?_,h.fz0,λj o k e=>h.fza j o k (m j o e),h.gl⟩
 .rcases bp_ k f with h1|h1
  .omega
  .exact y h1
 .exact(h.hold j o (m j o e)).keep (Fz.Le.refl z) (Ga.Le.refl g) λk s=>D k ((h.hold j o (m j o e)).lt s) (far j o k e s)
 .have:=h.fz k x;exact⟨zS this.1 M.size,(D k this.1 (fzC k x)).trans this.2⟩
end
end Rt
end Go
namespace Go.Proofs
open Go.Shelf
def Tryz.laysCC_ren:Go.Shelf.Ren:=⟨λ|240=>584|276=>692|n=>n,λ|0=>0|4=>4|9=>9|20=>20|37=>408|70=>589|72=>591|164=>764|n=>n,λ|n=>n⟩
theorem Tryz.laysCC:Go.Proofs.Lays.n240 Tryz.prog Tryz.laysCC_ren:={
 mixed:=by kernel_rfl
 f240:=Tryz.func584.trans (qM some (by kernel_rfl))
 f276:=Tryz.func692.trans (qM some (by kernel_rfl))
 t0:=Tryz.underlying0
 a0:=Tryz.isAgg0
 z0:=Tryz.sizeOf0
 v0:=Tryz.zeroValue0
 t4:=Tryz.underlying4
 a4:=Tryz.isAgg4
 z4:=Tryz.sizeOf4
 v4:=Tryz.zeroValue4
 t9:=Tryz.underlying9
 a9:=Tryz.isAgg9
 z9:=Tryz.sizeOf9
 v9:=Tryz.zeroValue9
 t20:=Tryz.underlying20
 a20:=Tryz.isAgg20
 z20:=Tryz.sizeOf20
 v20:=Tryz.zeroValue20
 t70:=Tryz.underlying589
 a70:=Tryz.isAgg589
 z70:=Tryz.sizeOf589
 v70:=Tryz.zeroValue589
 t72:=Tryz.underlying591
 a72:=Tryz.isAgg591
 z72:=Tryz.sizeOf591
 v72:=Tryz.zeroValue591
 t164:=Tryz.underlying764
 a164:=Tryz.isAgg764
 z164:=Tryz.sizeOf764
 v164:=Tryz.zeroValue764 }
theorem Tryz.x72CC:Builder.X72 Tryz.prog Tryz.laysCC_ren where
 sizeBuilder:=by kernel_rfl
 liesBuilder:=by kernel_rfl
theorem Tryz.extraBS:Builder.Extra Tryz.prog Tryz.laysBString_ren where
 sizeBuilder:=by kernel_rfl
 liesBuilder:=by kernel_rfl
 t5:=Tryz.underlying5
 a5:=Tryz.isAgg5
 z5:=Tryz.sizeOf5
 v5:=Tryz.zeroValue5
 infoByte:=by kernel_rfl
 cellsByte:=by kernel_rfl
 sizeByte:=by kernel_rfl
 neB5:=by decide
open Go.RowKit
theorem pJ_{P:tT}{w:tS}:∀(l:tL Int) (a:Addr) (acc:tP),(∀j x,l[j]? = some x->w.cell? (a.add j)=some (.int .u8 x)) ->
  (loadBytes a acc l.length).run P w = .ok ⟨acc.data++(Rt.bytesS l).toArray⟩ w
 | [],a,acc,_=>by simp[loadBytes,Rt.bytesS]
 | x::l,a,acc,h=>by
  have h0:w.cell? a=some (.int .u8 x):=by
   have:=h 0 x rfl;simpa[Addr.add]using this
  have m:=pJ_ (P:=P) l (a.add 1) (acc.push x.toNat.toUInt8) (λj y p=>by
   have:=h (j+1) y (by simpa using p);have e:(a.add 1).add j=a.add (j+1):=by
    unfold Addr.add;by_cases f:j=0
    .subst f;simp
    .simp[f];omega
   rw[e];exact this)
  simp only[qLc,loadBytes,Sem.run_bind,run_load,h0,Result.andThen];rw[m]
  congr 1
  apply ByteArray.ext;simp[ByteArray.push,Rt.bytesS]
theorem pK_{P:tT}{w:tS}(pt it ty e:tA)(F:P.underlying pt=some (.pointer e))(D:P.cellsOf e=1)(g cells:Nat)(y:w.shape? g=some (e,cells))(l:tL Int)(h0:l≠[])(G:l.length<=cells)(M:l.length<=9223372036854775807)
  (h:∀j x,l[j]? = some x->w.cell? ((⟨g,0,none⟩:Addr).add j)=some (.int .u8 x)) :
  (Builtin.unsafeString_ #[pt,it] ty #[.pointer (some ⟨g,0,none⟩),.int .i64 l.length]).run P w = .ok (.string ⟨(Rt.bytesS l).toArray⟩) (w.freeze ⟨g,0,none⟩ l.length):=by
 have J:l.length≠0:=by simpa using h0
 have C:=pJ_ (P:=P) l ⟨g,0,none⟩ .empty h;have f:=Lib.liesAt_bytes (P:=P) D (cells/P.cellsOf e) l.length (by rw[D];simpa using G);have u:¬(9223372036854775807:Int)<(l.length:Int):=by omega
 have q:Builtin.unsafeString_ #[pt,it] ty #[.pointer (some ⟨g,0,none⟩),.int .i64 l.length] =
   (do
    let n ←asInt (.int .i64 l.length)
    if n < 0 then runtimePanic (.error "unsafe.String: len out of range")
    if n > IntKind.i64.max then unsupported (.unsafePointer "String: a length above the largest int")
    if n=0 then pure (.string .empty)
    else if ←variablesAt ⟨g,0,none⟩ (←elemOf pt) n.toNat then do
     let s ←loadBytes ⟨g,0,none⟩ .empty n.toNat
     freeze ⟨g,0,none⟩ n.toNat
     pure (.string s)
    else unsupported (.unsafePointer "String: not so many bytes at ptr")):=rfl
 rw[q];have p:IntKind.i64.max=9223372036854775807:=rfl;have m:¬(l.length:Int)<0:=by omega
 simp[asInt,asIntOf,p,u,m,J,variablesAt,y,elemOf,run_underlying F,f,C]
set_option maxHeartbeats 1000000 in
set_option maxRecDepth 100000 in
theorem Any.Builder_String_w{P:tT}{ρ:Ren}(L:Lays.n169 P ρ)(X:Builder.Extra P ρ)(b g cap:Nat)(p:tW)(cur:Array tW)(l:tL Int)(w:tS)(s:w.heap[b]? = some (.cells #[p,.slice (some ⟨g,0,none⟩) l.length cap] (ρ.t 72) (0,0)))(h0:l≠[])
  (J:w.heap[g]? = some (.cells cur (ρ.t 5) (0,0))) (F:l.length<=cap) (q:cap<=maxLen) (M:cur.size=cap) (h:∀j x,l[j]? = some x->w.cell? ((⟨g,0,none⟩:Addr).add j)=some (.int .u8 x)) :
  Calls P (ρ.f 169) #[.pointer (some ⟨b,0,none⟩)] w λe w'=>e = .returned (.string ⟨(Rt.bytesS l).toArray⟩)/\w'=w.drew.freeze ⟨g,0,none⟩ l.length:=by
 have G:l.length≠0:=by simpa using h0
 have c1:w.drew.cell? ⟨b,1,none⟩=some (.slice (some ⟨g,0,none⟩) l.length cap):=by
  have:w.drew.heap[b]? = some (.cells #[p,.slice (some ⟨g,0,none⟩) l.length cap] (ρ.t 72) (0,0)):=s;rw[Lib.cell_of_heap this];rfl
 have U:(Builtin.unsafeSliceData_ #[(ρ.t 37)] (ρ.t 127) #[.slice (some ⟨g,0,none⟩) l.length cap]).run P w.drew = .ok (.pointer (some ⟨g,0,none⟩)) w.drew:=
  Lib.run_unsafeSliceData_row _ _ _ _ _ _ (by omega)
 have O:(Builtin.unsafeString_ #[(ρ.t 127),(ρ.t 3)] (ρ.t 9) #[.pointer (some ⟨g,0,none⟩),.int .i64 l.length]).run P w.drew = .ok (.string ⟨(Rt.bytesS l).toArray⟩) (w.drew.freeze ⟨g,0,none⟩ l.length):=by
  refine pK_ (w:=w.drew) (ρ.t 127) (ρ.t 3) (ρ.t 9) (ρ.t 5) L.t127 X.cellsByte g cur.size (by have m:w.drew.heap[g]? = some (.cells cur (ρ.t 5) (0,0)):=J;simp[World.shape?,m]) l h0 (by omega) (by unfold maxLen at q;omega) ?_;intro j x hx;exact h j x hx
 have mixed:=L.mixed;have t72:=L.t72;have a72:=L.a72;have z72:=L.z72;have v72:=L.v72;have y:=run_underlying L.t72;have t70:=L.t70;have a70:=L.a70;have z70:=L.z70;have v70:=L.v70;have C:=run_underlying L.t70;have t37:=L.t37;have a37:=L.a37;have z37:=L.z37;have v37:=L.v37;have D:=run_underlying L.t37;have t127:=L.t127;have a127:=L.a127;have z127:=L.z127;have v127:=L.v127;have u:=run_underlying L.t127;have t3:=L.t3;have a3:=L.a3;have z3:=L.z3;have v3:=L.v3;have Z:=run_underlying L.t3;have t9:=L.t9;have a9:=L.a9;have z9:=L.z9;have v9:=L.v9;have V:=run_underlying L.t9;have t5:=X.t5;have a5:=X.a5;have z5:=X.z5;have v5:=X.v5;have Y:=run_underlying X.t5
 go_enter L.f169,Body.n169_ntmps ρ
 go_wp2
 go_region_o
 all_goals (go_wp2;go_ret;exact⟨rfl,rfl⟩)
end Go.Proofs
namespace Go.Proofs.YtokncnjohiobcaaGreatDoor
open Go.RowKit Go.Rt
def eb_:InlF te:=λH _ xs _ k=>match xs with
 | [.one (.ptr id 0)]=>match H id with
  | some (.box T [.sbp id',_])=>match Nat.beq id id'&&te.sb T with
   | true=>k (some (.tup [])) []
   | false=>none
  | _=>none
 | _=>none
def jZ_:InlF te:=λH _ xs _ k=>match xs with
 | [.one (.ptr id 0)]=>match H id with
  | some (.box T [.sbp id',c])=>match Nat.beq id id'&&te.sb T,c with
   | true,.nils=>k (some (.v (.one (.dt .str (bytesS []))))) [(id,none)]
   | true,.own r=>match H r with
    | some (.row e (.int .u8) xs _)=>match Nat.beq e 5 with
     | true=>k (some (.v (.one (.dt .str (bytesS xs))))) [(id,none),(r,none)]
     | false=>none
    | _=>none
   | _,_=>none
  | _=>none
 | _=>none
theorem fC_:l5_ Tryz.prog te 584 eb_/\cr_ Tryz.prog 584=true:=by
 refine⟨?_,by kernel_rfl⟩;intro z g nx H xs vs R k r Bs F0 w0 w m U G h;unfold eb_ at h;split at h
 .rename_i id;split at h
  .rename_i T id' c hi;split at h
   .rename_i M;simp only[qAn]at M;obtain rfl:=qNb M.1;have hT:T=591:=qNb M.2;subst hT;cases G with
    | cons Z G=>
     cases G
     obtain⟨l,h1,rfl⟩:=Z;obtain⟨l',us,Y,D,y⟩:=U.hold _ _ hi;rw[h1]at Y;obtain rfl:=qSj Y;cases y with
     | cons c1 y=>cases y with
      | cons c2 y=>
       cases y
       obtain⟨l2,x,h6⟩:=c1;rw[h1]at x;obtain rfl:=qSj x;rename_i u1 u2;have u:w.cell? ⟨l.b,0,none⟩=some u1:=by rw[cell_of_row w l.b 0 _ _ _ D];rfl
       rcases h6 with rfl|rfl
       .refine Calls.mono (Any.Builder_copyCheck_fresh Tryz.laysCC Tryz.x72CC l.b w u (by simp[World.shape?,D];rfl) (by unfold World.frozen?;simp only[D];simp)) λe w' ⟨J,F⟩=>⟨_,J,.tup [],[],z,g,h,Fz.Le.refl z,Ga.Le.refl g,m.succ,⟨[],rfl,.nil⟩,?_⟩
        subst F;have O:(w.setCell ⟨l.b,0,none⟩ (.pointer (some ⟨l.b,0,none⟩))).heap[l.b]? = some (.cells [.pointer (some ⟨l.b,0,none⟩),u2].toArray 591 (0,0)):=by
         unfold World.setCell;simp[zJ,D]
        refine U.turn (Ga.Le.refl g) (i:=id) (i':=id) (C:=λk=>k=l.b) (λk q=>⟨_,hi,l,h1,q⟩) ⟨rfl,rfl,rfl,by simp[World.setCell]⟩ (λk _ q=>?_) (o':=.box 591 [.sbp id,c]) ?_ (λk q=>?_) λj p V=>?_
        .unfold World.setCell;simp only[zJ];rw[qG λe=>q e.symm]
        .exact⟨l,_,h1,O,.cons ⟨l,h1,.inr rfl⟩ (.cons c2 .nil)⟩
        .obtain⟨l2,x,rfl⟩:=q;rw[h1]at x;obtain rfl:=qSj x;exact .inl rfl
        .by_cases f:j=id
         .subst f;have s:H j=some p:=V;rw[hi]at s;exact .inl ⟨rfl,(qSj s).symm⟩
         .exact .inr ⟨f,.inl f,V⟩
       .refine Calls.mono (Any.Builder_copyCheck_used Tryz.laysCC Tryz.x72CC l.b w u) λe w' ⟨J,F⟩=>⟨_,J,.tup [],[],z,g,h,Fz.Le.refl z,Ga.Le.refl g,m.succ,⟨[],rfl,.nil⟩,?_⟩
        subst F;exact U
   .cases h
  .cases h
 .cases h
theorem up1{H:Nat->tO (Rt.Obj te)}{id:Nat}{j:Nat}{o:Rt.Obj te}(h:upH H [(id,none)] j=some o):j≠id/\H j=some o:=by
 simp only[upH]at h;split at h
 .cases h
 .rename_i f;refine⟨λe=>?_,h⟩;rw[e,Nat.beq_refl]at f;cases f
theorem up2{H:Nat->tO (Rt.Obj te)}{id r:Nat}{j:Nat}{o:Rt.Obj te}(h:upH H [(id,none),(r,none)] j=some o):j≠id/\j≠r/\H j=some o:=by
 simp only[upH]at h;split at h
 .cases h
 .rename_i m;split at h
  .cases h
  .rename_i f;refine⟨λe=>?_,λe=>?_,h⟩
   .rw[e,Nat.beq_refl]at m;cases m
   .rw[e,Nat.beq_refl]at f;cases f
theorem iG_ : l5_ Tryz.prog te 464 jZ_/\cr_ Tryz.prog 464=true:=by
 refine⟨?_,by kernel_rfl⟩;intro z g nx H xs vs R k r Bs F0 w0 w m J hv h;unfold jZ_ at h;split at h
 .rename_i id;split at h
  .rename_i T id' c hi;have ZX:∃l,g id=some l/\vs=[.pointer (some ⟨l.b,0,none⟩)]:=by
    cases hv with
    | cons v1 hv=>
     cases hv
     obtain⟨l,h1,rfl⟩:=v1;exact⟨l,h1,rfl⟩
   obtain⟨l,h1,rfl⟩:=ZX;obtain⟨l',us,h2,u,s⟩:=J.hold _ _ hi;rw[h1]at h2;obtain rfl:=qSj h2;split at h
   .rename_i hb;simp only[qAn]at hb;have hT:T=591:=qNb hb.2;subst hT;cases s with
    | cons c1 s=>cases s with
     | cons c2 s=>
      cases s
      rename_i u1 u2;obtain rfl:u2 = .slice none 0 0:=c2;refine Calls.mono (Any.Builder_String_nil Tryz.laysBString Tryz.extraBS w.heap.size l.b u1 w u) λe w' ⟨D,f⟩=>⟨_,D,_,_,z,g,h,Fz.Le.refl z,Ga.Le.refl g,(λi hi=>m i (qN (by omega) (qN (mH_ nx _) hi))),.str .nil,?_⟩
      exact J.gone (C:=λ_=>False) (λ_ h=>h.elim) (Grow.of_below f) (λk p _=>f.block k p) λj o q=>(up1 q).2
   .rename_i r' hb;simp only[qAn]at hb;have hT:T=591:=qNb hb.2;subst hT;split at h
    .rename_i e xs foc hr;split at h
     .rename_i ZT;obtain rfl:=qNb ZT;cases s with
      | cons c1 s=>cases s with
       | cons c2 s=>
        cases s
        rename_i u1 u2;obtain⟨lr,h5,rfl⟩:=c2;obtain⟨lr',rows,h6,hn,hc,O,ZP,ZO,G,_⟩:=J.hold _ _ hr;rw[h5]at h6;obtain rfl:=qSj h6;have ZW:=p6_ G (by omega);obtain⟨_,ho⟩:=O;rcases ho with⟨ho,h0⟩|⟨b,cap,cur,ZY,_,V,U,ZR,ZS,F⟩
        .injection ho with e1 e2 e3;rw[e1,e2,e3]at u;have ZZ:xs=[]:=zT.1 (by omega);subst ZZ;refine Calls.mono (Any.Builder_String_nil Tryz.laysBString Tryz.extraBS w.heap.size l.b u1 w u) λe w' ⟨D,f⟩=>⟨_,D,_,_,z,g,h,Fz.Le.refl z,Ga.Le.refl g,(λi hi=>m i (qN (by omega) (qN (mH_ nx _) hi))),.str .nil,?_⟩
         exact J.gone (C:=λ_=>False) (λ_ h=>h.elim) (Grow.of_below f) (λk p _=>f.block k p) λj o q=>(up2 q).2.2
        .injection ZY with e1 _ e3;subst e3;rw[e1]at u;have ZN:b<w.heap.size:=by
          rcases qb b w.heap.size with M|M
          .exact M
          .rw[qi M]at V;cases V
         cases xs with
         | nil=>
          have ZU:lr.n=0:=hn;rw[ZU]at u;by_cases Z:lr.cap=0
          .rw[Z]at u;exact Calls.mono (Any.Builder_String_noroom Tryz.laysBString Tryz.extraBS w.heap.size l.b b u1 cur w (qA _) u V) λe w' ⟨D,f⟩=>⟨_,D,_,_,z,g,h,Fz.Le.refl z,Ga.Le.refl g,(λi hi=>m i (qN (by omega) (qN (mH_ nx _) hi))),.str .nil,J.gone (C:=λ_=>False) (λ_ h=>h.elim) (Grow.of_below f) (λk p _=>f.block k p) λj o q=>(up2 q).2.2⟩
          .exact Calls.mono (Any.Builder_String_room Tryz.laysBString Tryz.extraBS w.heap.size l.b b lr.cap u1 w Z u) λe w' ⟨D,f⟩=>⟨_,D,_,_,z,g,h,Fz.Le.refl z,Ga.Le.refl g,(λi hi=>m i (qN (by omega) (qN (mH_ nx _) hi))),.str .nil,J.gone (C:=λ_=>False) (λ_ h=>h.elim) (Grow.of_below f) (λk p _=>f.block k p) λj o q=>(up2 q).2.2⟩
         | cons x xs=>
          have ZQ:lr.c=1:=hc;rw[hn]at u F U;rw[ZQ]at F ZS;have Y:∀j y,(x::xs)[j]? = some y->w.cell? ((⟨b,0,none⟩:Addr).add j)=some (.int .u8 y):=λj y hy=>by
           have q:j<(x::xs).length:=by
            rcases qb j (x::xs).length with M|M
            .exact M
            .rw[qe M]at hy;cases hy
           have e2:(⟨b,0,none⟩:Addr).add j=⟨b,j,none⟩:=by
            unfold Addr.add;by_cases h0:j=0
            .subst h0;simp
            .simp[h0]
           rw[e2,cell_of_row w b j _ _ _ V];have e3:(cur.toList.take ((x::xs).length*1))[j]? = cur.toList[j]?:=by rw[qx,qY (by omega)]
           rw[←Array.getElem?_toList,←e3,F,ZW];have e4:∀(l:tL Int),(l.map λb=>[Value.int .u8 b]).flatten=l.map λb=>Value.int .u8 b:=λl=>by
            induction l with
            | nil=>rfl
            | cons a l ih=>rw[zY,zF,ih];rfl
           rw[e4,qt,hy];rfl
          refine Calls.mono (Any.Builder_String_w Tryz.laysBString Tryz.extraBS l.b b lr.cap u1 cur (x::xs) w u (by simp) V U ZR (by omega) Y) λe w' ⟨D,f⟩=>⟨_,D,_,_,z,g,h,Fz.Le.refl z,Ga.Le.refl g,(λi hi=>m i (qN (by omega) (qN (mH_ nx _) hi))),.str .nil,?_⟩
          subst f;refine J.gone (C:=λk=>k=b) (λk p=>⟨r',_,hr,⟨lr,_,h5,e1,p⟩,?_⟩) ⟨?_,?_,?_,?_⟩ (λk p ZV=>?_) λj o q=>(up2 q).2.2
          .cases hq:upH H [(id,none),(r',none)] r' with
           | none=>rfl
           | some o=>exact absurd rfl (up2 hq).2.1
          .unfold World.freeze;split<;>rfl
          .unfold World.freeze;split<;>rfl
          .unfold World.freeze;split<;>rfl
          .unfold World.freeze;split
           .exact qA _
           .simp only[Array.size_modify];exact qA _
          .unfold World.freeze;split
           .rfl
           .simp only[zJ];rw[qG λe=>ZV e.symm];rfl
     .cases h
    .cases h
   .cases h
  .cases h
 .cases h
end Go.Proofs.YtokncnjohiobcaaGreatDoor
namespace Go
namespace Rt
open Go.RowKit Go.Sort Go.Proofs
section
variable{P:tT}{E:TE}{z:Fz}{g:Ga}{w w' w0:tS}{Bs:tL Nat}{F0:Nat->Prop}{t:Ty}{enc:Den E.S t->tL tW}
structure EncOK(E:TE)(t:Ty)(enc:Den E.S t->tL tW):Prop where
 out:∀(z:Fz) (x:Den E.S t) (r:tL tW),RD E z (E.flat t) (E.fl t x) r->r=enc x
 into:∀(z:Fz) (x:Den E.S t),RD E z (E.flat t) (E.fl t x) (enc x)
theorem EncOK.len(f:EncOK E t enc)(x:Den E.S t):(enc x).length=E.size t:=(f.into ⟨λ_=>False,default⟩ x).len
theorem rows_enc(f:EncOK E t enc){xs:tL (Den E.S t)}{rows:tL (tL tW)}(h:Rows E z t xs rows)(j:rows.length=xs.length):rows=xs.map enc:=by
 apply zG;intro i;rw[qt];rcases qb i xs.length with hi|hi
 .have hx:=qQ hi;have hr:=qQ (show i<rows.length by omega);rw[hr,hx,f.out z _ _ (h i _ _ hx hr)];rfl
 .rw[qe (by omega),qe hi];rfl
theorem ff_(f:EncOK E t enc):∀(xs:tL (Den E.S t)),(xs.map enc).flatten.length=xs.length*E.size t
 | []=>by simp
 | x::xs=>by rw[zY,zF,qLa,f.len,ff_ f xs,qLc,zK,Nat.add_comm]
def RowQ(E:TE)(t:Ty)(enc:Den E.S t->tL tW)(w:tS)(e:tA)(xs:tL (Den E.S t))(A:tO Addr)(cap:Nat):Prop:=(A=none/\cap=0/\xs=[])\/∃b cs,A=some ⟨b,0,none⟩/\w.heap[b]? = some (.cells (cs:tL tW).toArray e (0,0))/\xs.length<=cap/\cap<=maxLen/\cs.length=cap*E.size t/\cs.take (xs.length*E.size t)=(xs.map enc).flatten
theorem rowQ_of(O:EncOK E t enc){id:Nat}{e:tA}{xs:tL (Den E.S t)}{foc:tL (Nat×Int×Den E.S t)}(h:ObjR P E z g w id (.row e t xs foc)):∃l,g id=some l/\l.n=xs.length/\l.c=E.size t/\RowQ E t enc w e xs l.A l.cap:=by
 obtain⟨l,rows,h1,y,D,f,C,G,j,_⟩:=h;rw[D,rows_enc O j (by omega)]at f;refine⟨l,h1,y,D,?_⟩;obtain⟨_,s⟩:=f;rcases s with⟨s,U⟩|⟨b,cap,cur,F,_,M,J,q,p,m⟩
 .injection s with x V u;exact .inl ⟨x,u,zT.1 (by omega)⟩
 .injection F with x _ u;subst u;exact .inr ⟨b,cur.toList,x,by simpa using M,by omega,q,by simpa using p,by rw[y]at m;exact m⟩
theorem rowQ_mk(m:EncOK E t enc){id:Nat}{e:tA}{xs:tL (Den E.S t)}{l:Loc}(h:RowQ E t enc w e xs l.A l.cap)(C:g id=some l)(j:l.n=xs.length)(q:l.c=E.size t):ObjR P E z g w id (.row e t xs []):=by
 refine⟨l,xs.map enc,C,j,q,?_,by simp[j],λr hr=>?_,λi x r hx hr=>?_,λp u=>nomatch u⟩
 .rw[q,j];refine⟨ff_ m xs,?_⟩;rcases h with⟨s,f,rfl⟩|⟨b,cs,s,y,h1,G,F,D⟩
  .exact .inl ⟨by rw[s,f];rfl,rfl⟩
  .exact .inr ⟨b,l.cap,cs.toArray,by rw[s],qv _,y,h1,G,by simpa using F,D⟩
 .obtain⟨x,_,rfl⟩:=zZ.1 hr;rw[m.len,q]
 .rw[qt,hx]at hr;obtain rfl:=qSj hr;exact m.into z x
theorem AE_{β:Type}[Inhabited β](f:β->tW)(D:Array β)(cs:tL tW)(h:D.size<=cs.length):(putCells f 0 D cs.toArray).toList=D.toList.map f++cs.drop D.size:=by
 apply zG;intro i;simp only[putCells,Array.toList_mapIdx,List.getElem?_mapIdx];by_cases hi:i<D.size
 .have j:i<cs.length:=by omega
  rw[ze (by simpa using hi),qt,qQ j,qS,qY ⟨qv _,by omega⟩,Nat.sub_zero,getElem!_pos D i hi];simp[hi]
 .rw[zH (by simpa using Nat.le_of_not_lt hi),qo];have m:D.size+(i-(D.toList.map f).length)=i:=by simp;omega
  rw[m];cases hx:cs[i]? with
  | none=>rfl
  | some v=>rw[qS,qG (by omega)]
theorem RowQ.put{β:Type}[Inhabited β]{e:tA}{xs zs:tL (Den E.S t)}{b cap:Nat}(h:RowQ E t enc w e xs (some ⟨b,0,none⟩) cap)(V:zs.length<=xs.length)(f:β->tW)(D:Array β)(J:D.size=xs.length*E.size t)(Y:(D.toList.map f).take (zs.length*E.size t)=(zs.map enc).flatten)(q:Nat)(os:Array Go.Obj)
  (O:w'=grow (putRow f (Go.Sort.ahead w q) b 0 D) os):RowQ E t enc w' e zs (some ⟨b,0,none⟩) cap/\Grow w w'/\(∀k,k<w.heap.size->k≠b->w'.heap[k]? = w.heap[k]?):=by
 rcases h with⟨h,_⟩|⟨b',cs,m,y,h1,h2,Z,h4⟩
 .cases h
 .injection m with m;injection m with m;subst m;have hb:b<w.heap.size:=by
   rcases qb b w.heap.size with F|F
   .exact F
   .rw[qi F]at y;cases y
  have C:D.size<=cs.length:=by rw[J,Z];exact qf _ h1
  have j:∀(W:tS) k,k<W.heap.size->(grow W os).heap[k]? = W.heap[k]?:=λW k G=>by
   show(W.heap++os)[k]? = _;rw[Array.getElem?_append_left G]
  have U:(putRow f (Go.Sort.ahead w q) b 0 D).heap.size=w.heap.size:=by simp[putRow,mapBlock,Go.Sort.ahead]
  have s:(putRow f (Go.Sort.ahead w q) b 0 D).heap[b]? = some (.cells (putCells f 0 D cs.toArray) e (0,0)):=by
   show(mapBlock (Go.Sort.ahead w q) b (putCells f 0 D)).heap[b]? = _;unfold mapBlock;have x:(Go.Sort.ahead w q).heap[b]? = some (.cells cs.toArray e (0,0)):=y;simp only[zJ,if_true,x,qS,onCells]
  subst O;refine⟨.inr ⟨b,D.toList.map f++cs.drop D.size,rfl,?_,by omega,h2,?_,?_⟩,⟨rfl,rfl,rfl,?_⟩,λk G p=>?_⟩
  .rw[j _ _ (by omega),s,←AE_ f D cs C,qw]
  .rw[qLa,zj,qk,qO];omega
  .have u:zs.length*E.size t<=(D.toList.map f).length:=by
    have M:D.toList.length=xs.length*E.size t:=J;rw[zj,M];exact qf _ V
   rw[List.take_append_of_le_length u];exact Y
  .have M:(grow (putRow f (Go.Sort.ahead w q) b 0 D) os).heap.size=(putRow f (Go.Sort.ahead w q) b 0 D).heap.size+os.size:=by simp[grow]
   omega
  .rw[j _ _ (by omega)];show(mapBlock (Go.Sort.ahead w q) b (putCells f 0 D)).heap[k]? = _;unfold mapBlock;simp only[zJ];rw[qG λe=>p e.symm];rfl
theorem HR.rowQ{e:tA}{xs zs:tL (Den E.S t)}{foc:tL (Nat×Int×Den E.S t)}{i:Nat}{H H':Nat->tO (Obj E)}(J:EncOK E t enc){l f:Loc}{i':Nat}{g':Ga}(h:HR P E Bs F0 w0 w z g H)(hi:H i=some (.row e t xs foc))(G:g i=some l)(u:g.Le g')(m:g' i'=some f)(Y:f.A=l.A)(y:f.n=zs.length)(M:f.c=E.size t)
  (O:Grow w w') (D:∀k,k<w.heap.size->¬dT_ l.A k->w'.heap[k]? = w.heap[k]?) (hr:RowQ E t enc w' e zs f.A f.cap)
  (V:∀j o,H' j=some o->(j=i'/\o = .row e t zs [])\/(j≠i'/\j≠i/\H j=some o)):HR P E Bs F0 w0 w' z g' H':=by
 refine h.turn u (i:=i) (i':=i') (C:=dT_ l.A) (λq ⟨a,U,s⟩=>⟨_,hi,l,a,G,U,s⟩) O D (o':=.row e t zs []) (rowQ_mk J hr m y M) (λq s=>?_) λj p F=>?_
 .obtain⟨l2,a2,x,Z,rfl⟩:=s;rw[m]at x;obtain rfl:=qSj x;exact .inl ⟨a2,by rw[←Y];exact Z,rfl⟩
 .rcases V j p F with h1|⟨h1,h2,h3⟩
  .exact .inl h1
  .exact .inr ⟨h1,.inl h2,h3⟩
end
end Rt
end Go
namespace Go.Proofs
open Go.Shelf
def Tryz.laysSortF_ren:Go.Shelf.Ren:=⟨λ|6=>175|15=>279|14=>278|28=>400|29=>382|20=>392|21=>393|22=>394|23=>395|24=>396|25=>397|26=>398|27=>399|46=>521|47=>522|48=>523|49=>524|50=>525|57=>633|n=>n,λ|22=>41|24=>88|25=>328|3=>3|39=>422|0=>0|53=>511|55=>405|4=>4|46=>523|45=>522|50=>310|5=>5|9=>9|66=>642|70=>646|76=>719|77=>304|n=>n,λ|n=>n⟩
theorem Tryz.laysSortF:Go.Proofs.SlLaysF0.n6 Tryz.prog Tryz.laysSortF_ren:={
 mixed:=by kernel_rfl
 f6:=⟨Tryz.f175.name,by decide,Tryz.func175.trans (qM some (by kernel_rfl))⟩
 f14:=⟨Tryz.f278.name,by decide,Tryz.func278.trans (qM some (by kernel_rfl))⟩
 f15:=Tryz.func279.trans (qM some (by kernel_rfl))
 f20:=⟨Tryz.f392.name,by decide,Tryz.func392.trans (qM some (by kernel_rfl))⟩
 f21:=⟨Tryz.f393.name,by decide,Tryz.func393.trans (qM some (by kernel_rfl))⟩
 f22:=⟨Tryz.f394.name,by decide,Tryz.func394.trans (qM some (by kernel_rfl))⟩
 f23:=⟨Tryz.f395.name,by decide,Tryz.func395.trans (qM some (by kernel_rfl))⟩
 f24:=⟨Tryz.f396.name,by decide,Tryz.func396.trans (qM some (by kernel_rfl))⟩
 f25:=⟨Tryz.f397.name,by decide,Tryz.func397.trans (qM some (by kernel_rfl))⟩
 f26:=⟨Tryz.f398.name,by decide,Tryz.func398.trans (qM some (by kernel_rfl))⟩
 f27:=⟨Tryz.f399.name,by decide,Tryz.func399.trans (qM some (by kernel_rfl))⟩
 f28:=Tryz.func400.trans (qM some (by kernel_rfl))
 f29:=Tryz.func382.trans (qM some (by kernel_rfl))
 f46:=⟨Tryz.f521.name,by decide,Tryz.func521.trans (qM some (by kernel_rfl))⟩
 f47:=Tryz.func522.trans (qM some (by kernel_rfl))
 f48:=Tryz.func523.trans (qM some (by kernel_rfl))
 f49:=⟨Tryz.f524.name,by decide,Tryz.func524.trans (qM some (by kernel_rfl))⟩
 f50:=⟨Tryz.f525.name,by decide,Tryz.func525.trans (qM some (by kernel_rfl))⟩
 f57:=⟨Tryz.f633.name,by decide,Tryz.func633.trans (qM some (by kernel_rfl))⟩
 t0:=Tryz.underlying0
 a0:=Tryz.isAgg0
 z0:=Tryz.sizeOf0
 v0:=Tryz.zeroValue0
 t3:=Tryz.underlying3
 a3:=Tryz.isAgg3
 z3:=Tryz.sizeOf3
 v3:=Tryz.zeroValue3
 t4:=Tryz.underlying4
 a4:=Tryz.isAgg4
 z4:=Tryz.sizeOf4
 v4:=Tryz.zeroValue4
 t5:=Tryz.underlying5
 a5:=Tryz.isAgg5
 z5:=Tryz.sizeOf5
 v5:=Tryz.zeroValue5
 t9:=Tryz.underlying9
 a9:=Tryz.isAgg9
 z9:=Tryz.sizeOf9
 v9:=Tryz.zeroValue9
 t22:=Tryz.underlying41
 a22:=Tryz.isAgg41
 z22:=Tryz.sizeOf41
 v22:=Tryz.zeroValue41
 t25:=Tryz.underlying328
 a25:=Tryz.isAgg328
 z25:=Tryz.sizeOf328
 v25:=Tryz.zeroValue328
 t39:=Tryz.underlying422
 a39:=Tryz.isAgg422
 z39:=Tryz.sizeOf422
 v39:=Tryz.zeroValue422
 t45:=Tryz.underlying522
 a45:=Tryz.isAgg522
 z45:=Tryz.sizeOf522
 v45:=Tryz.zeroValue522
 t46:=Tryz.underlying523
 a46:=Tryz.isAgg523
 z46:=Tryz.sizeOf523
 v46:=Tryz.zeroValue523
 t50:=Tryz.underlying310
 a50:=Tryz.isAgg310
 z50:=Tryz.sizeOf310
 v50:=Tryz.zeroValue310
 t53:=Tryz.underlying511
 a53:=Tryz.isAgg511
 z53:=Tryz.sizeOf511
 v53:=Tryz.zeroValue511
 t55:=Tryz.underlying405
 a55:=Tryz.isAgg405
 z55:=Tryz.sizeOf405
 v55:=Tryz.zeroValue405
 t66:=Tryz.underlying642
 a66:=Tryz.isAgg642
 z66:=Tryz.sizeOf642
 v66:=Tryz.zeroValue642
 t70:=Tryz.underlying646
 a70:=Tryz.isAgg646
 z70:=Tryz.sizeOf646
 v70:=Tryz.zeroValue646
 t76:=Tryz.underlying719
 a76:=Tryz.isAgg719
 z76:=Tryz.sizeOf719
 v76:=Tryz.zeroValue719
 t77:=Tryz.underlying304
 a77:=Tryz.isAgg304
 z77:=Tryz.sizeOf304
 v77:=Tryz.zeroValue304 }
end Go.Proofs
namespace Go
namespace Rt
open Go.RowKit Go.Sort Go.Shelf Go.Proofs
section
variable{α:Type}[Inhabited α]
theorem flat_get(enc:α->tL tW)(k:Nat)(j:∀x,(enc x).length=k):∀(L:tL α) (t:Nat),t<L.length*k->(L.map enc).flatten[t]? = (enc (L[t/k]?.getD default))[t%k]?
 | [],t,h=>by simp at h
 | x::L,t,h=>by
  have p:0<k:=by
   rcases qg k with m|m
   .subst m;simp at h
   .exact m
  rw[zY,zF];rcases qb t k with f|f
  .rw[ze (by rw[j];exact f),Nat.div_eq_of_lt f,Nat.mod_eq_of_lt f];rfl
  .obtain⟨u,rfl⟩:∃u,t=u+k:=⟨t-k,by omega⟩;rw[zH (by rw[j];omega),j,Nat.add_sub_cancel,Nat.add_div_right _ p,Nat.add_mod_right,flat_get enc k j L u (by
    rw[qLc,zK]at h;omega)]
   rfl
theorem rA_(enc:α->tL tW)(k:Nat)(m:∀x,(enc x).length=k)(d:Array α):flatK enc k d=(d.toList.map enc).flatten.toArray:=by
 have j:∀(xs:tL α),(xs.map enc).flatten.length=xs.length*k:=λxs=>by
  induction xs with
  | nil=>simp
  | cons x xs u=>rw[zY,zF,qLa,m,u,qLc,zK,Nat.add_comm]
 refine Sort.ext_get! (by rw[size_flatK,←qO,←qO,List.toList_toArray,j]) λt f=>?_
 rw[size_flatK]at f;rw[get_flatK _ _ _ t f];have s:0<k:=by
  rcases qg k with p|p
  .subst p;simp at f
  .exact p
 have h1:=flat_get enc k m d.toList t (by simpa using f);have q:t/k<d.size:=jM (by rwa [zp]at f);have y:d.toList[t/k]?.getD default=d[t/k]!:=by
  rw[getElem!_pos d _ q,Array.getElem?_toList,Array.getElem?_eq_getElem q];rfl
 rw[y]at h1;have hm:t%k<(enc d[t/k]!).length:=by rw[m];exact Nat.mod_lt _ s
 have h:t<(d.toList.map enc).flatten.length:=by rw[j];simpa using f
 rw[getElem!_pos (enc d[t/k]!) _ hm,getElem!_pos (d.toList.map enc).flatten.toArray t (by simpa using h)];rw[qQ hm,qQ h]at h1;simpa using(qSj h1).symm
end
section
variable{P:tT}{E:TE}{w:tS}{t:Ty}{enc:Den E.S t->tL tW}[Inhabited (Den E.S t)]
theorem RowQ.holdsK(s:EncOK E t enc){e:tA}{xs:tL (Den E.S t)}{b cap:Nat}(h:RowQ E t enc w e xs (some ⟨b,0,none⟩) cap):HoldsK enc (E.size t) w b 0 xs.toArray/\xs.length<=cap/\cap<=maxLen/\b<w.heap.size:=by
 rcases h with⟨h,_⟩|⟨F,cs,j,m,h1,C,D,y⟩
 .cases h
 .injection j with j;injection j with j;subst j;refine⟨?_,h1,C,?_⟩
  .unfold HoldsK;rw[rA_ enc (E.size t) s.len];intro q x;have f:q<xs.length*E.size t:=by
    rw[←ff_ s xs];simpa using x
   refine⟨?_,by unfold World.frozen?;simp only[m];simp⟩;rw[qj,cell_of_row w b q _ e (0,0) m];have:(cs.take (xs.length*E.size t))[q]? = cs[q]?:=by rw[qx,qY f]
   rw[jH,←this,y,getElem!_pos _ q x];have p:q<(xs.map enc).flatten.length:=by rw[ff_ s];exact f
   rw[qQ p];simp
  .rcases qb b w.heap.size with u|u
   .exact u
   .rw[qi u]at m;cases m
def mq_{α:Type}(key:α->Int)(x y:α):Int:=Lib.compareInt (key x) (key y)
theorem nl_{α:Type}(key:α->Int):ltOf (mq_ key)=λx y=>decide (key x<key y):=by
 funext x y
 unfold ltOf mq_ Lib.compareInt;by_cases h1:key x<key y
 .simp[h1]
 .by_cases f:key y<key x<;>simp[h1,f]
theorem byKey_swo{α:Type}(key:α->Int):SWO (ltOf (mq_ key)) where
 irrefl x:=by rw[nl_];simp
 trans x y z h1 f:=by rw[nl_]at *;simp at *;omega
 ntrans x y z h1 f:=by rw[nl_]at *;simp at *;omega
theorem sortF_run{ρ:Ren}(L:SlLaysF0.n6 P ρ)(p:EncOK E t enc)(aE:∀w,(isAgg (ρ.t 24)).run P w = .ok true w)(zE:∀w,(Go.sizeOf (ρ.t 24)).run P w = .ok (E.size t) w)(h1:∀x,∀v∈enc x,v.oneCell'=true)(key:Den E.S t->Int)(g:Nat)
  (eg:∀args w,(callFunc g args).run P w = .ok (.enter g args) w) (D:∀x y W,Calls P g #[.agg (enc x).toArray,.agg (enc y).toArray] W λe w'=>e = .returned (.int .i64 (mq_ key x y))/\∃q os,w'=grow (W.drewN q) os)
  {e:tA} {xs zs:tL (Den E.S t)} {A:tO Addr} {cap:Nat} (hx:RowQ E t enc w e xs A cap) (F:hy_ key xs=some zs) :
  Ret P (ρ.f 6) #[.slice A xs.length cap,.func (.func g) #[] #[]] w λv w'=>v = .tuple #[]/\zs.length=xs.length/\RowQ E t enc w' e zs A cap/\Grow w w'/\∀k,k<w.heap.size->¬dT_ A k->w'.heap[k]? = w.heap[k]?:=by
 unfold hy_ at F;split at F
 .rename_i G;obtain rfl:=qSj F;have C:(Sort.pdq (λx y=>decide (key x<key y)) xs.toArray 0 xs.length (Lib.bitLen xs.length) true true).size=xs.length:=by
   have h:=pdq_sorts (ltOf (mq_ key)) (byKey_swo key) xs.toArray 0 xs.length (Lib.bitLen xs.length) true true (qv _) (by simp) (Or.inl rfl);rw[nl_]at h;simpa using h.1.1
  cases xs with
  | nil=>
   have O:(Sort.pdq (λx y=>decide (key x<key y)) ([]:tL (Den E.S t)).toArray 0 ([]:tL (Den E.S t)).length (Lib.bitLen ([]:tL (Den E.S t)).length) true true).toList=[]:=zT.1 (by rw[qO,C];rfl);refine Calls.mono (AnyF.slices_SortFunc_none L A cap _ w) λe w' ⟨p,s⟩=>⟨_,p,rfl,by rw[O],?_,?_,λk _ _=>?_⟩
   .subst s;rw[O];exact hx
   .subst s;exact Grow.refl _
   .subst s;rfl
  | cons x xs=>
   obtain⟨b,rfl⟩:∃b,A=some ⟨b,0,none⟩:=by
    rcases hx with⟨_,_,h⟩|⟨b,_,h,_⟩
    .cases h
    .exact⟨b,h⟩
   obtain⟨hH,h2,h3,hb⟩:=hx.holdsK p;have hc:CmpLays P g #[] enc (E.size t) (mq_ key) b 0 (x::xs).toArray.size w:=λm os dk hs x y=>D x y _
   refine Calls.mono (AnyQ.slices_SortFunc_eq L (E.size t) aE zE enc p.len h1 (mq_ key) (byKey_swo key) g #[] b 0 cap (x::xs).toArray w eg hc hH hb (by simpa using G)) λe w' ⟨J,q,os,s⟩=>⟨_,J,rfl,?_⟩
   have M:Lib.bitLen (x::xs).toArray.size=Lib.bitLen (x::xs).length:=by simp
   rw[nl_,M]at s;generalize hd:Sort.pdq (λx y=>decide (key x<key y)) (x::xs).toArray 0 (x::xs).length (Lib.bitLen (x::xs).length) true true=d at *
   have u:w'=grow (putRow id (Sort.ahead w q) b 0 (flatK enc (E.size t) d)) os:=by
    rw[s,←hd];rfl
   rw[rA_ enc (E.size t) p.len]at u;have j:d.toList.length=(x::xs).length:=by rw[qO,C]
   obtain⟨Y,V,U⟩:=hx.put (E:=E) (t:=t) (enc:=enc) (w':=w') (zs:=d.toList) (Nat.le_of_eq j) id (d.toList.map enc).flatten.toArray (by
    rw[zq,ff_ p,j]) (by
    rw[List.map_id,List.toList_toArray,zA];exact Nat.le_of_eq (ff_ p _)) q os u
   exact⟨j,Y,V,λk hk Z=>U k hk λe=>Z ⟨_,rfl,e⟩⟩
 .cases F
end
end Rt
end Go
namespace Go.Proofs.YtokncnjohiobcaaGreatDoor
open Go.RowKit Go.Rt Go.Sort
def encN(x:Xx):tL tW:=[.int .i64 x.Id_,.int .i64 x.Xn,.int .i64 x.Yz,S x.Xk,.int .i64 x.Xg,S x.Wh,S x.Wg,S x.Zr,.int .i64 x.Ys,.int .i64 x.Yt,S x.Xi]
theorem encN_ok:EncOK te (.st nodeN) encN:=⟨λz x r h=>by
  obtain⟨V,J,h⟩:=RD.int_inv h;obtain⟨v2,G,h⟩:=RD.int_inv h;obtain⟨v3,F,h⟩:=RD.int_inv h;obtain⟨v4,D,h⟩:=RD.str_inv h;obtain⟨v5,C,h⟩:=RD.int_inv h;obtain⟨U,y,h⟩:=RD.str_inv h;obtain⟨O,u,h⟩:=RD.str_inv h;obtain⟨M,s,h⟩:=RD.str_inv h;obtain⟨v9,q,h⟩:=RD.int_inv h;obtain⟨p,j,h⟩:=RD.int_inv h;obtain⟨m,f,h⟩:=RD.str_inv h;rw[J,G,F,D,C,y,u,s,q,j,f,h.nil_inv];rfl,λz x=>.int (.int (.int (.str (.int (.str (.str (.str (.int (.int (.str .nil))))))))))⟩
set_option maxHeartbeats 1000000 in
theorem nanI(x:Int)(W:tS):Calls Tryz.prog 280 #[.int .i64 x] W λe w'=>e = .returned (.bool false)/\w'=W:=by
 go_enter Tryz.func280,Tryz.ntmps280
 go_wp2
 go_ret
 exact⟨rfl,rfl⟩
set_option maxHeartbeats 1000000 in
theorem compareI(x y:Int)(W:tS):Calls Tryz.prog 177 #[.int .i64 x,.int .i64 y] W λe w'=>e = .returned (.int .i64 (Lib.compareInt x y))/\w'=W:=by
 go_enter Tryz.func177,Tryz.ntmps177
 go_wp2_with (go_at_call 280;refine(nanI _ _).mono ?_;rintro e w' ⟨rfl,f⟩;rw[f])
 all_goals (go_ret;refine⟨?_,rfl⟩;unfold Lib.compareInt;(repeat' split)<;>first|rfl|(exfalso;omega))
set_option maxHeartbeats 4000000 in
theorem closureN(x y:Xx)(W:tS):Calls Tryz.prog 176 #[.agg (encN x).toArray,.agg (encN y).toArray] W λe w'=>e = .returned (.int .i64 (mq_ (λ(n:Xx)=>n.Id_) x y))/\∃q os,w'=grow (W.drewN q) os:=by
 unfold mq_;simp only;have f:=λW=>compareI x.Id_ y.Id_ W
 generalize Lib.compareInt x.Id_ y.Id_=r at f ⊢;unfold encN;cases x
 cases y
 go_enter Tryz.func176,Tryz.ntmps176
 go_wp2_with (go_at_call 177;refine(f _).mono ?_;rintro e w' ⟨rfl,rfl⟩)
 go_ret
 rw[alloc_eq_grow,alloc_eq_grow,grow_grow];exact⟨rfl,0,_,rfl⟩
def rB_:InlF te:=λH _ xs _ k=>match xs with
 | [.one (.own id),.one (.clo g [])]=>match Nat.beq g 176,H id with
  | true,some (.row e t f _)=>match Nat.beq e 88 with
   | true=>if h:t = .st nodeN then Option.bind (hy_ (λ(x:Xx)=>x.Id_) (d2_ (E:=te) h f)) λzs=>k (some (.tup [])) [(id,some (.row e (.st nodeN) zs []))]else none
   | false=>none
  | _,_=>none
 | _=>none
theorem vc_:l5_ Tryz.prog te 175 rB_/\cr_ Tryz.prog 175=true:=by
 refine⟨?_,by kernel_rfl⟩;intro z g nx H xs vs R k r Bs F0 w0 w D U m h;unfold rB_ at h;split at h
 .rename_i id fn;split at h
  .rename_i e t M foc hg hi;obtain rfl:=qNb hg;split at h
   .rename_i he;obtain rfl:=qNb he;split at h
    .rename_i ht;subst ht;obtain⟨zs,hs,h⟩:=bind_some h;have u:hy_ (λ(x:Xx)=>x.Id_) M=some zs:=hs;obtain⟨l0,J,O,c0,Z⟩:=rowQ_of encN_ok (U.hold _ _ hi);cases m with
     | cons Y m=>cases m with
      | cons v2 m=>
       cases m
       obtain⟨l1,V,rfl⟩:=Y;rw[J]at V;obtain rfl:=qSj V;obtain⟨us,rfl,hu⟩:=v2;cases hu
       rw[O]
       letI:Inhabited (Den te.S (.st nodeN)):=(inferInstance:Inhabited Xx)
       have p:=sortF_run (P:=Tryz.prog) (E:=te) (t:=.st nodeN) (enc:=encN) Tryz.laysSortF encN_ok Tryz.isAgg88 Tryz.sizeOf88 (λx v m=>by
        simp only[encN,qV,List.not_mem_nil,or_false]at m;rcases m with rfl|rfl|rfl|rfl|rfl|rfl|rfl|rfl|rfl|rfl|rfl<;>rfl) (λ(x:Xx)=>x.Id_) 176 (enters_of Tryz.func176 (by kernel_rfl) rfl) (λx y W=>closureN x y W) Z u
       refine Ret.mono (f:=175) p λv w' ⟨s,q,C,G,F⟩=>?_
       subst s;refine⟨.tup [],_,z,g,h,Fz.Le.refl z,Ga.Le.refl g,(λi hi=>D i (qN (by omega) (qN (mH_ nx _) hi))),⟨[],rfl,.nil⟩,?_⟩;exact U.rowQ encN_ok (i:=id) (i':=id) (xs:=M) (zs:=zs) hi J (Ga.Le.refl g) J rfl (O.trans q.symm) c0 G F C λj o hj=>by
        rcases aP_ hj with h|⟨h1,h2⟩
        .exact .inl h
        .exact .inr ⟨h1,h1,h2⟩
    .cases h
   .cases h
  .cases h
 .cases h
end Go.Proofs.YtokncnjohiobcaaGreatDoor
namespace Go.Proofs.YtokncnjohiobcaaGreatDoor
open Go.Rt Go.RowKit
noncomputable section
set_option maxRecDepth 100000
abbrev qI:Ty:=.int .i64
abbrev qU:Ty:=.int .u32
abbrev qJ:Ty×tL (tO Nat):=(.int .i64,[])
abbrev qB:Ty×tL (tO Nat):=(.bool,[])
def qp:Nat->Pl->Pl|0,x=>x|n+1,x=>.s .p (qp n x)
def qd(n:Nat):Pl:=.dr (List.replicate n 0) [] false []
def qu2{α β ω τ:Type}(f:α->β->τ)(a:α×β×ω):τ:=f a.1 a.2.1
def qu3{α β γ ω τ:Type}(f:α->β->γ->τ)(a:α×β×γ×ω):τ:=f a.1 a.2.1 a.2.2.1
def qu4{α β γ δ ω τ:Type}(f:α->β->γ->δ->τ)(a:α×β×γ×δ×ω):τ:=f a.1 a.2.1 a.2.2.1 a.2.2.2.1
def qu5{α β γ δ ε ω τ:Type}(f:α->β->γ->δ->ε->τ)(a:α×β×γ×δ×ε×ω):τ:=f a.1 a.2.1 a.2.2.1 a.2.2.2.1 a.2.2.2.2.1
def qu6{α β γ δ ε ζ ω τ:Type}(f:α->β->γ->δ->ε->ζ->τ)(a:α×β×γ×δ×ε×ζ×ω):τ:=f a.1 a.2.1 a.2.2.1 a.2.2.2.1 a.2.2.2.2.1 a.2.2.2.2.2.1
def qu7{α β γ δ ε ζ η ω τ:Type}(f:α->β->γ->δ->ε->ζ -> η -> τ)(a:α×β×γ×δ×ε×ζ × η × ω):τ:=f a.1 a.2.1 a.2.2.1 a.2.2.2.1 a.2.2.2.2.1 a.2.2.2.2.2.1 a.2.2.2.2.2.2.1
def qu8{α β γ δ ε ζ η θ ω τ:Type}(f:α->β->γ->δ->ε->ζ -> η -> θ -> τ)(a:α×β×γ×δ×ε×ζ × η × θ × ω):τ:=f a.1 a.2.1 a.2.2.1 a.2.2.2.1 a.2.2.2.2.1 a.2.2.2.2.2.1 a.2.2.2.2.2.2.1 a.2.2.2.2.2.2.2.1
structure KK(i:Nat)(C:Con te):Type where(h:OKF i C)(q:C.I=none:=by rfl)
theorem KK.t{f:Nat}{C:Con te}(k:KK f C){r:Tab te}(t:r.OK Tryz.prog te):(tb f C r).OK Tryz.prog te:=ac_ k.1 t k.2
instance{f:Nat}{C:Con te}:CoeFun (KK f C) λ_=>∀{r:Tab te},r.OK Tryz.prog te->(tb f C r).OK Tryz.prog te:=⟨KK.t⟩
def aA(i:Nat){tab:Tab te}(ps:List Pm)(rs:Rs)(f:PA te ps->Option (Tp te.S (rs.ts++aI_ ps)))(t:tab.OK Tryz.prog te)(pl:Pl)(ali:Bool:=false)(hn:((Tryz.prog.funcs[i]?).isSome&&cr_ Tryz.prog i&&(ali||(jj_ te rs&&eT_ te ps)))=true:=by kernel_rfl)(h:∀a,f a=(Tryz.prog.funcs[i]?).bind λg=>kS_ Tryz.prog te eqL tab g ps rs pl a:=by intro _;kernel_rfl):KK i (af_ te ps rs ali f):=⟨by
 simp only[Bool.and_eq_true]at hn;obtain⟨⟨h1,h2⟩,h3⟩:=hn;obtain⟨_,m⟩:=Option.isSome_iff_exists.1 h1;rw[m]at h;exact⟨aa_ ad_ t m h3 h,h2⟩,rfl⟩
def qu1{α β γ:Type}(f:α->γ)(a:α×β):γ:=f a.1
def k22:=aA 22 [.d (.st 27)] [qB] (qu1 t3_) ab_ .p
def k10:=aA 10 [.d (.st 37)] [qB] (qu1 ot_) (k22 ab_) (qp 2 (.s (.s .p (.lp ⟨[(38,.d qI)],[],[1,37],[0],[],23015⟩ ⟨[],[],[],[],[],23015⟩ true .p)) .p))
def k4:=aA 4 [.d (.st 60)] [qB] (qu1 kV_) (k10 ab_) .p
def zj0:JP:=⟨[(3,.d qI)],[],[0],[],[],2⟩
def zj1:JP:=⟨[],[],[],[],[],2⟩
def zp0:Pl:=.s (.s .p (.lp zj0 zj1 true .p)) .p
def zp1:Pl:=.s .p zp0
def k286:=aA 286 [.d (.sl (.st 21))] [qB] (qu1 jn_) ab_ zp1
def k416:=aA 416 [.d .str] [qB] (qu1 eX_) ab_ .p
def zj2:JP:=⟨[],[],[0],[],[],2⟩
def zp2:Pl:=.s (.s .p (.lp zj0 zj2 true .p)) .p
def k634:=aA 634 [.d .str] [qB] (qu1 jo_) (k416 ab_) (.s .p (.j ⟨[(0,.d .str)],[],[],[],[],1⟩ false .p zp2))
def k635:=aA 635 [.d .str] [qB] (qu1 hz_) ab_ zp1
def zp3:Pl:=.s (qd 8) .p
def zp4:Pl:=.s .p (.s zp3 .p)
def k529:=aA 529 [.d (.sl (.st 21)),.d (.st 21)] [qJ] (qu2 ll_) (k635 (k634 ab_)) (qp 2 (.s (.s .p (.lp ⟨[(5,.d qI)],[],[0,3],[0],[],9023⟩ ⟨[],[],[],[],[],9023⟩ true zp4)) .p))
def zp5:Pl:=.s (qd 9) .p
def zp6:Pl:=.s .p (.s zp5 .p)
def k406:=aA 406 [.d (.sl (.st 21))] [qJ] (qu1 dK_) (k529 ab_) (.s .p (.s (.s .p (.lp zj0 zj1 true zp6)) .p))
def k407:=aA 407 [.d .str] [(.str,[])] (qu1 hA_) ab_ (qp 2 (.s (.s .p (.lp ⟨[(3,.d .str),(4,.d .bool),(5,.d qI)],[],[0],[],[],6⟩ ⟨[(3,.d .str),(4,.d .bool)],[],[0],[],[],6⟩ false (.s .p (.j ⟨[(3,.d .str),(4,.d .bool)],[],[0,5],[],[],10⟩ false .p .p)))) .p))
def zj3:JP:=⟨[(5,.d .str)],[],[0,6],[],[],13⟩
def zp7:Pl:=qd 16
def k287:=aA 287 [.d (.sl (.st 21))] [(.str,[]),qJ] (qu1 fT_) (k407 (k406 ab_)) (qp 3 (.s (.s .p (.lp ⟨[(5,.d .str),(6,.d qI)],[],[0],[],[],9⟩ ⟨[(5,.d .str)],[],[],[],[],9⟩ false (.s .p (.j zj3 false (.j zj3 false .p (qp 2 zp7)) .p)))) .p))
def zj4:JP:=⟨[(4,.d .str),(5,.d qI)],[],[0],[],[],7⟩
def zj5:JP:=⟨[(4,.d .str)],[],[],[],[],7⟩
def k184:=aA 184 [.d (.sl (.st 28))] [(.str,[]),qJ] (qu1 jp_) (k287 (k286 ab_)) (qp 3 (.s (.s .p (.lp zj4 zj5 true .p)) .p))
def k288:=aA 288 [.d (.st 31),.d (.st 30),.d (.st 29)] [qB] (qu3 eg_) ab_ (.s .p (.s (.s .p (.lp ⟨[(12,.d qI)],[],[3,4,5,11],[0,2,4],[],11⟩ ⟨[],[],[],[],[],11⟩ true .p)) .p))
def zj6:JP:=⟨[(8,.d qI)],[],[0,1,7],[],[],4⟩
def zj7:JP:=⟨[],[],[],[],[],4⟩
def zp8:Pl:=.s .p (.s (.s .p (.lp zj6 zj7 true .p)) .p)
def k408:=aA 408 [.d (.sl qI),.d qI] [qB] (qu2 ks_) ab_ zp8
def k289:=aA 289 [.d (.st 31),.d qI] [qJ] (qu2 hB_) (k408 ab_) (qp 2 (.s (.s .p (.lp ⟨[(5,.d qI),(10,.d qI)],[],[1,2,9],[0],[],8⟩ ⟨[(5,.d qI)],[],[],[],[],8⟩ false (qp 2 (.j ⟨[(5,.d qI)],[],[1,2,9,10],[0],[],9⟩ false .p .p)))) .p))
def zj8:JP:=⟨[],[],[],[],[],7⟩
def zp9:Pl:=.s .p (.s (.s .p (.lp ⟨[(9,.d qI)],[],[1,2,8],[0],[],7⟩ zj8 true .p)) .p)
def k409:=aA 409 [.d (.st 31),.d qI] [qJ] (qu2 kt_) ab_ zp9
def zp10:Pl:=.s (qd 30) .p
def k290:=aA 290 [.d (.st 31),.d (.st 30)] [qB] (qu2 hC_) (k409 ab_) (qp 3 zp10)
def zj9:JP:=⟨[],[],[],[],[],10014⟩
def k291:=aA 291 [.d (.st 31),.d (.st 30)] [qB] (qu2 fG_) (k408 (k409 ab_)) (qp 2 (.s (.s .p (.lp ⟨[(26,.d qI)],[],[2,3,25],[0,2],[],10014⟩ zj9 true (qp 2 (.s (.s .p (.s (qd 8) (.s (.s (qd 14) .p) .p))) .p)))) .p))
def k185:=aA 185 [.d (.st 31),.d (.st 30)] [qB] (qu2 hD_) (k291 (k290 (k289 (k288 ab_)))) .p
def zp11:Pl:=.s (qd 29) .p
def k104:=aA 104 [.d (.st 31)] [qB] (qu1 hE_) (k185 (k184 ab_)) (qp 3 (.s (.s .p (.lp ⟨[(5,.d qI),(34,.d qI)],[],[1,33],[0],[],13021⟩ ⟨[],[],[],[],[],13021⟩ true (qp 2 (.s (.s .p (.s zp11 .p)) .p)))) .p))
def c_71:Con te:=af_ te [.d .str] [qB] false λa=>bL_ a.1
theorem mr_:OKF 71 c_71:=⟨aa_ ad_ ab_ Tryz.func71 (by kernel_rfl) (pl:=.s .p (.s .p (.s (.s .p (.lp ⟨[(3,.d (.int .i64))],[],[0],[],[],4006⟩ ⟨[],[],[],[],[],4006⟩ true .p)) .p))) λ_=>by kernel_rfl,by kernel_rfl⟩
def c_62:Con te:=af_ te [.d .str] [qB] false λa=>bq_ a.1
theorem j0_:OKF 62 c_62:=⟨aa_ ad_ ab_ Tryz.func62 (by kernel_rfl) (pl:=.s .p (.s (.s .p (.lp ⟨[(3,.d (.int .i64))],[],[0],[],[],2⟩ ⟨[],[],[0],[],[],2⟩ true .p)) .p)) λ_=>by kernel_rfl,by kernel_rfl⟩
def k292:=aA 292 [.d (.st 34),.d qI] [qB] (qu2 eB_) ab_ .p
def k215:=aA 215 [.d .str] [(.sl .str,[some 9])] (qu1 kW_) ab_ (qp 3 (.s (.s .p (.lp ⟨[(3,.one (.own 4)),(4,.d qI),(5,.d qI)],[(4,false,.row 9 .str [])],[0],[],[],5⟩ ⟨[(3,.one (.own 4))],[(4,false,.row 9 .str [])],[],[],[],5⟩ false (.s .p (.j ⟨[(3,.one (.own 9)),(4,.d qI)],[(9,false,.row 9 .str [])],[0,5],[],[],10⟩ false .p .p)))) .p))
def k128:=aA 128 [.d .str] [qB] (qu1 bV_) ab_ .p
set_option maxRecDepth 100000
def zo0:OT:=.free 20 (.free 21 (.alt 22 (.alt 23 (.alt 24 (.free 25 (.alt 26 .nil .nil)) .nil) .nil) .nil))
def zo1:OT:=.free 13 (.free 14 (.alt 15 (.alt 16 (.free 17 (.alt 18 (.free 19 (.spl 19 zo0 zo0)) .nil)) .nil) .nil))
def zo2:OT:=.free 6 (.free 7 (.alt 8 (.alt 9 (.free 10 (.alt 11 (.free 12 (.spl 12 zo1 zo1)) .nil)) .nil) .nil))
def zo3:OT:=.free 6 (.free 7 (.alt 8 (.alt 9 (.free 10 (.alt 11 (.free 12 .nil) .nil)) .nil) .nil))
def zo4:OT:=.free 10 (.free 11 (.free 12 (.alt 13 (.alt 14 (.free 15 (.alt 16 (.free 17 .nil) .nil)) .nil) .nil)))
def zo5:OT:=.free 6 (.free 7 (.alt 8 (.free 9 (.spl 9 zo4 zo4)) .nil))
def k126:=aA 126 [.d .str] [(.sl .str,[some 9]),qJ] (qu1 eC_) (k128 (ac_ j0_ (k215 ab_))) (qp 3 (.s (.s .p (.lp ⟨[(5,.d qI)],[(6,true,.row 9 .str [])],[0,4],[],[],10⟩ ⟨[],[(6,true,.row 9 .str [])],[0,4],[],[],10⟩ true (.s .p (.s (.s (.ot 0 (.free 0 (.free 1 (.alt 2 (.alt 3 (.free 4 (.free 5 (.spl 5 zo2 zo2))) .nil) .nil)))) .p) .p)))) (.s .p (.s (.s .p (.lp ⟨[(6,.one (.own 12)),(7,.d qI)],[(6,true,.row 9 .str []),(12,false,.row 9 .str [])],[0,4],[],[],13⟩ ⟨[(6,.one (.own 12))],[(12,false,.row 9 .str [])],[],[],[],13⟩ false (.s .p (.j ⟨[(6,.one (.own 17))],[(6,true,.row 9 .str []),(17,false,.row 9 .str [])],[0,4,7],[],[],18⟩ false (.s .p (.s (.ot 0 (.free 0 (.free 1 (.alt 2 (.alt 3 (.free 4 (.free 5 (.spl 5 zo3 zo3))) .nil) .nil)))) (.s .p (.s (.ot 0 (.free 0 (.free 1 (.alt 2 (.alt 3 (.free 4 (.free 5 (.spl 5 zo5 zo5))) .nil) .nil)))) .p)))) .p)))) .p))))
def k127:=aA 127 [.d .bool,.d (.sl .str)] [(.str,[])] (qu2 kX_) ab_ (qp 2 (.s (.s .p (.lp ⟨[(5,.d .str),(6,.d qI)],[],[0,1],[],[],3⟩ ⟨[(5,.d .str)],[],[0],[],[],3⟩ false (.s .p (.s (.j ⟨[(5,.d .str)],[],[0,1,6],[],[],7⟩ false .p .p) .p)))) .p))
def k61:=aA 61 [.d .str] [(.str,[]),qJ] (qu1 dL_) (k127 (k128 (k126 ab_))) .p
def k186:=aA 186 [.d (.st 34),.d (.st 33)] [qB] (qu2 gt_) (k128 (k61 (k292 (ac_ j0_ (ac_ mr_ ab_))))) (qp 5 (.s (.s .p (.lp ⟨[(7,.d qI)],[],[2,3],[0,2],[],59034⟩ ⟨[],[],[2,3],[0,2],[],59034⟩ true .p)) (.s (.s .p (.lp ⟨[(8,.d qI)],[],[2,3],[0,2],[],59035⟩ ⟨[],[],[],[],[],59035⟩ true (.s .p (.s (.s (qd 28) .p) .p)))) .p)))
def zp12:Pl:=.s (qd 49) .p
def zp13:Pl:=.s (qd 17) .p
def k105:=aA 105 [.d (.st 34)] [qB] (qu1 hF_) (k186 ab_) (qp 2 (.s zp12 (.s (.s .p (.lp ⟨[(4,.d qI)],[],[1,3],[0],[],40017⟩ ⟨[],[],[],[],[],40017⟩ true (.s .p (.s (.s zp3 (.s .p (.s (.s .p (.lp ⟨[(5,.d .bool),(6,.d qI)],[],[1,3,4],[0],[],40032⟩ ⟨[(5,.d .bool)],[],[1,3,4],[0],[],40032⟩ false (.s .p zp13))) (.s (qd 22) .p)))) .p)))) .p)))
def k187:=aA 187 [.d (.sl .str)] [(.str,[]),qJ] (qu1 gu_) ab_ (qp 4 (.s (.s .p (.lp ⟨[(4,.d .str),(5,.d qI)],[],[0],[],[],10⟩ ⟨[(4,.d .str)],[],[],[],[],10⟩ true (.s .p (.s (.s (.s .p (.lp ⟨[(6,.d qI)],[],[0,4,5],[],[],15⟩ ⟨[],[],[0,4,5],[],[],15⟩ true .p)) (.j ⟨[(4,.d .str)],[],[0,5],[],[],15⟩ false .p .p)) .p)))) .p))
def zp14:Pl:=.s .p (.s (.s .p (.lp ⟨[(5,.d qI)],[],[1,2],[0],[],4⟩ zj7 true .p)) .p)
def k188:=aA 188 [.d (.st 36),.d .str] [qJ] (qu2 hG_) ab_ zp14
def zj10:JP:=⟨[(3,.d qI)],[],[0],[],[],5⟩
def zj11:JP:=⟨[],[],[],[],[],5⟩
def k106:=aA 106 [.d (.sl (.st 36))] [qB] (qu1 hH_) (k188 (ac_ j0_ (k187 ab_))) (qp 2 (.s (.s .p (.lp zj10 zj11 true (.s .p (.s (.s .p (.s (.s (qd 39) .p) (.s .p (.lp ⟨[(5,.d qI)],[],[0,3,4],[13],[],31026⟩ ⟨[],[],[0,3],[],[],31026⟩ true (.s .p (.s (qp 2 (.s (qd 44) .p)) .p)))))) .p)))) .p))
def k189:=aA 189 [.d (.st 27)] [qB] (qu1 hI_) ab_ .p
def k318:=aA 318 [.d (.sl (.st 3)),.d .str] [qJ] (qu2 ku_) ab_ zp8
def zp15:Pl:=.s (qd 26) .p
def k216:=aA 216 [.d (.sl (.st 3)),.d qI] [qJ] (qu2 gX_) (k318 (ac_ mr_ ab_)) (qp 3 (.s (.s .p (.lp ⟨[(37,.d qI)],[],[0,5,36],[5],[],6030⟩ ⟨[],[],[],[],[],6030⟩ true (qp 2 (.s (.s .p zp15) .p)))) .p))
def zp16:Pl:=qp 2 (.s (.s .p (.lp ⟨[(10,.d qI)],[],[0,9],[],[],7⟩ zj8 true .p)) .p)
def k129:=aA 129 [.d (.sl (.st 3))] [qJ] (qu1 hJ_) (k216 ab_) zp16
def zp17:Pl:=.s (qd 13) .p
def k130:=aA 130 [.d (.sl (.st 4))] [qJ] (qu1 hK_) (ac_ mr_ ab_) (qp 2 (.s (.s .p (.lp zj10 zj11 true (.s .p (.s (qp 2 (.s zp17 .p)) .p)))) .p))
def k183:=aA 183 [.d qI] [qB] (qu1 jr_) ab_ .p
def c_101:Con te:=af_ te [.d qI] [qB] false λa=>bM_ a.1
theorem pL_:OKF 101 c_101:=⟨aa_ ad_ ab_ Tryz.func101 (by kernel_rfl) (pl:=.p) λ_=>by kernel_rfl,by kernel_rfl⟩
def k103:=aA 103 [.d (.st 5)] [qB] (qu1 gv_) (ac_ pL_ (k183 ab_)) .p
def zp18:Pl:=.s (qd 15) .p
def k54:=aA 54 [.d (.st 6)] [qB] (qu1 dM_) (ac_ pL_ (ac_ j0_ (k103 ab_))) (qp 3 (.s zp18 (.s (.s .p (.lp ⟨[(4,.d qI)],[],[3],[],[],38027⟩ ⟨[],[],[],[],[],38027⟩ true (.s .p (.s (.s (.s (qd 42) .p) (.s .p (.s (.s .p (.lp ⟨[(5,.d .bool),(6,.d qI)],[],[3,4],[],[],65048⟩ ⟨[(5,.d .bool)],[],[3,4],[],[],65048⟩ true (.s .p (.s (.s (qd 23) (.s (qd 28) .p)) .p)))) .p))) .p)))) .p)))
set_option maxRecDepth 100000
def k319:=aA 319 [.d (.st 6),.d qI] [qJ] (qu2 ov_) ab_ zp14
def c_217:Con te:=af_ te [.d (.st 6),.d qI] [(.st 5,[]),qB] false (qu2 cD_)
theorem lu_:OKF 217 c_217:=⟨aa_ ad_ (k319 ab_) Tryz.func217 (by kernel_rfl) (pl:=.p) λ_=>by kernel_rfl,by kernel_rfl⟩
def k293:=aA 293 [.d qI,.d qI] [qB] (qu2 nN_) ab_ .p
def zj12:JP:=⟨[],[],[],[],[],10013⟩
def k190:=aA 190 [.d (.st 7)] [qB] (qu1 fU_) (k293 (ac_ lu_ (k54 (k130 (k129 ab_))))) (qp 2 (.s (.s .p (.lp ⟨[(25,.d qI)],[],[1,24],[0],[],10013⟩ zj12 true (qp 2 (.s (.s .p (.s (.dr [0,0,0,0,0,0,0,0,0,0,4,1,2,4] [10] false []) zp15)) .p)))) .p))
def k410:=aA 410 [.d qI] [qB] (qu1 wk_) ab_ .p
def zp19:Pl:=.s (.s .p (.lp ⟨[(5,.d qI)],[],[0,1],[],[],2⟩ zj1 true .p)) .p
def zp20:Pl:=.s .p zp19
def k179:=aA 179 [.d (.sl (.st 8)),.d .str] [qJ] (qu2 mS_) ab_ zp20
def k294:=aA 294 [.d (.st 9)] [qB] (qu1 hL_) (k179 (k410 ab_)) (qp 2 (.s (.s .p (.lp ⟨[(3,.d qI)],[],[1],[0],[],11009⟩ ⟨[],[],[],[],[],11009⟩ true (.s .p (.s (.s .p zp15) .p)))) .p))
def k405:=aA 405 [.d (.int .u64),.d qI] [(.str,[])] (qu2 gw_) ab_ (qp 2 (.s (.s .p (.lp ⟨[(0,.d (.int .u64)),(5,.d .str),(6,.d qI)],[],[1],[],[],3⟩ ⟨[(5,.d .str)],[],[],[],[],3⟩ false .p)) .p))
def zj13:JP:=⟨[(3,.d .str)],[],[0],[],[],4⟩
def k403:=aA 403 [.d .str] [(.str,[])] (qu1 js_) (k405 ab_) (qp 2 (.s (.lp zj13 zj13 false .p) .p))
def k526:=aA 526 [] [(.sl qU,[some 511])] (λ_=>nO_) ab_ .p
def k528:=aA 528 [.d qU,.d qI] [(qU,[])] (qu2 aN_) ab_ (.s .p zp5)
def k527:=aA 527 [.d .str] [(.sl qU,[some 511])] (qu1 g0_) (k528 ab_) (qp 2 (.s (.s .p (.lp ⟨[(3,.one (.own 3)),(4,.d qI)],[(3,false,.row 511 qU [])],[0],[],[],4⟩ ⟨[(3,.one (.own 3))],[(3,false,.row 511 qU [])],[],[],[],4⟩ false (.s .p (.s (.dr [0,0,0,0,0,0,0,0,0,0,0,0,0,0,0,0,0,0,0,0,0,0,0,0,0,0,0,0,0,0,1,2,4] [] false []) .p)))) (.s (.s .p (.lp ⟨[(3,.one (.own 5)),(5,.d qI)],[(5,false,.row 511 qU [])],[],[],[],6⟩ ⟨[(3,.one (.own 5))],[(5,false,.row 511 qU [])],[],[],[],6⟩ false (.s .p (.s (.s (qd 12) (qp 2 (.dr [0,0,0,0,0,0,0,0,0,0,0,0,0,0,0,0,1,2,4] [] false []))) .p)))) .p)))
def k404:=aA 404 [.d (.sl qU),.d .str] [(.sl qU,[some 511])] (qu2 kZ_) (k528 (k527 (k526 ab_))) (qp 2 (.s zp7 (.s zp7 (.s (.s .p (.lp ⟨[(7,.d qU),(8,.d qU),(9,.d qU),(10,.d qU),(11,.d qU),(12,.d qU),(13,.d qU),(14,.d qU),(15,.d qI)],[(1,true,.row 511 qU []),(4,true,.row 511 qU [])],[0,5,6],[],[],41⟩ ⟨[(7,.d qU),(8,.d qU),(9,.d qU),(10,.d qU),(11,.d qU),(12,.d qU),(13,.d qU),(14,.d qU)],[],[0],[],[],41⟩ false (.s .p (.s zp10 .p)))) (.s (.dr [0,0,0,0,0,0,0,0,0,0,0,0,0,0,0,0,0,0,0,0,0,0,0,0,0,0,0,0,0,0,0,0,0,0,0,0,0,0,0,0,1,4] [] false []) .p)))))
def k284:=aA 284 [.d .str] [(.str,[])] (qu1 nP_) (k405 (k404 (k403 ab_))) (qp 3 (.s (.s .p (.lp ⟨[(3,.one (.own 8)),(5,.d qI)],[(8,false,.row 511 qU [])],[4],[],[],9⟩ ⟨[(3,.one (.own 8))],[(8,false,.row 511 qU [])],[],[],[],9⟩ false .p)) (.s .p (.s (.s .p (.lp ⟨[(6,.d .str),(7,.d qI)],[(8,true,.row 511 qU [])],[3],[],[],11⟩ ⟨[(6,.d .str)],[],[],[],[],11⟩ false .p)) .p))))
def k180:=aA 180 [.d qI,.d .str] [(.str,[])] (qu2 k0_) (k284 ab_) .p
def k98:=aA 98 [.d (.st 9),.d .str,.d qI] [(.str,[]),qJ] (qu3 nQ_) (k180 (k179 ab_)) .p
def k49:=aA 49 [.d (.st 9),.d .str,.d qI] [(.str,[]),qJ] (qu3 fV_) (k98 ab_) .p
def k50:=aA 50 [.b 155 (.st 61),.d qI] [qJ] (qu2 az_) ab_ (.s .p (.s (.s (qd 18) .p) (.s .p (.s (.s .p (.lp ⟨[(5,.d qI),(6,.d qI)],[],[0,1],[0],[],13011⟩ ⟨[(5,.d qI)],[],[0,1],[0],[],13011⟩ true (.s .p (.s (.s .p zp7) .p)))) .p))))
def zp21:Pl:=.s .p (.s zp7 .p)
def k99:=aA 99 [.b 155 (.st 61),.d qI] [(.str,[])] (qu2 bm_) ab_ (.s .p (.s (.s (qd 18) .p) zp21))
def k51:=aA 51 [.b 155 (.st 61)] [(.st 5,[]),(.st 62,[])] (qu1 dW_) (k99 (k50 ab_)) (qp 14 (.s (.dr [0,0,1,1] [] true [1,3]) .p))
def k181:=aA 181 [.d qI] [qJ] (qu1 ju_) ab_ (qp 3 (.s (.lp ⟨[(3,.d qI),(4,.d qI)],[],[],[],[],8⟩ ⟨[(4,.d qI)],[],[],[],[],8⟩ false .p) .p))
def zp22:Pl:=.s .p (.s (qd 23) .p)
def k100:=aA 100 [.d (.st 62)] [qB] (qu1 hM_) (k181 ab_) zp22
def zj14:JP:=⟨[(3,.d qI),(4,.d qI)],[],[0],[],[],3⟩
def zj15:JP:=⟨[(3,.d qI)],[],[],[],[],3⟩
def k285:=aA 285 [.d qI] [qJ] (qu1 g1_) ab_ (qp 2 (.s (.s .p (.lp zj14 zj15 false .p)) .p))
set_option maxRecDepth 100000
def cS_182(f:Xs->tR->Int->Int->Int->Int->Int->tV->tO (tR×Int)):Con te:=af_ te [.d (.st 9),.d .str,.d qI,.d qI,.d qI,.d qI,.d qI,.d .bool] [(.str,[]),qJ] false (qu8 f)
def zp23:Pl:=.s (qd 21) .p
theorem okS_182(f:Xs->tR->Int->Int->Int->Int->Int->tV->tO (tR×Int))(h:OKF 182 (cS_182 f)):OKF 182 (cS_182 (eZ_ f)):=⟨aa_ ad_ (k285 (k49 (ac_ h ab_))) Tryz.func182 (by kernel_rfl) (pl:=qp 8 (.s (.s .p (.lp ⟨[(24,.d .str),(25,.d qI)],[],[2,3,4,5,6,7,8,20,22,23],[0],[],34⟩ ⟨[(24,.d .str)],[],[],[],[],34⟩ true (.s .p (.j ⟨[(24,.d .str)],[],[2,3,4,5,6,7,8,20,22,23,25],[0],[],37⟩ true (qp 3 zp23) .p)))) .p)) λ_=>by kernel_rfl,by kernel_rfl⟩
theorem okN_182:∀n,OKF 182 (cS_182 (ei_ n))
 | 0=>⟨bf_ λ_=>rfl,by kernel_rfl⟩
 | n+1=>okS_182 _ (okN_182 n)
def c_182:Con te:=cS_182 (ei_ BIG)
theorem ok_182:OKF 182 c_182:=okN_182 BIG
def k102:=aA 102 [.d (.st 9),.d qI,.d (.st 62)] [(.str,[]),qJ] (qu3 cV_) (ac_ ok_182 (k100 ab_)) .p
def cS_52(f:Xs->Xx->Yl->Int->tO ((tL Xx)×Int)):Con te:=af_ te [.d (.st 9),.d (.st 5),.d (.st 62),.d qI] [(.sl (.st 5),[]),qJ] true (qu4 f)
theorem okS_52(f:Xs->Xx->Yl->Int->tO ((tL Xx)×Int))(h:OKF 52 (cS_52 f)):OKF 52 (cS_52 (cE_ f)):=⟨aa_ ad_ (k51 (k102 (ac_ pL_ (k100 (ac_ h ab_))))) Tryz.func52 (by kernel_rfl) (pl:=qp 8 (.s (.lp ⟨[(14,.one (.own 4032)),(15,.one (.own 4033))],[(4032,false,.row 88 (.st 5) []),(4033,false,.row 158 (.st 62) []),(4029,true,.box 155 (.st 61))],[3,4,5,12,16],[0,2],[],4034⟩ ⟨[(14,.one (.own 4032)),(15,.one (.own 4033))],[(4032,false,.row 88 (.st 5) []),(4033,false,.row 158 (.st 62) [])],[3,4,5],[0,2],[],4034⟩ true .p) (.s .p (.s (.s .p (.lp ⟨[(19,.one (.own 4039)),(20,.d qI)],[(4032,true,.row 88 (.st 5) []),(4033,true,.row 158 (.st 62) []),(4039,false,.row 88 (.st 5) [])],[3,4,14,15],[0],[],4040⟩ ⟨[(19,.one (.own 4039))],[(4039,false,.row 88 (.st 5) [])],[],[],[],4040⟩ true (.s .p (.s (.s (.dr [0,0,0,0,0,0,0,0,0,0,0,0,0,1,4,4,4,4,4] [] false []) .p) .p)))) .p)))) λ_=>by kernel_rfl,by kernel_rfl⟩
theorem okN_52:∀n,OKF 52 (cS_52 (ce_ n))
 | 0=>⟨bf_ λ_=>rfl,by kernel_rfl⟩
 | n+1=>okS_52 _ (okN_52 n)
def c_52:Con te:=cS_52 (ce_ BIG)
theorem ok_52:OKF 52 c_52:=okN_52 BIG
def zj16:JP:=⟨[(5,.d qI)],[],[0,3,4],[],[],8⟩
def k53:=aA 53 [.d (.sl (.st 5))] [(.sl (.st 5),[])] (qu1 jv_) ab_ (qp 2 (.s (.s .p (.lp ⟨[(3,.d (.sl (.st 5))),(4,.d qI)],[],[0],[],[],3⟩ ⟨[(3,.d (.sl (.st 5)))],[],[],[],[],3⟩ false (.s .p (.s (.s .p (.s (.lp zj16 zj16 false (.s zp13 .p)) .p)) .p)))) .p)) true
def k21:=aA 21 [.d (.st 9),.d .str] [(.st 6,[]),qJ] (qu2 du_) (k54 (k53 (ac_ ok_52 (k51 (k50 (k49 ab_)))))) .p true
def zp24:Pl:=.s (.s (qd 24) .p) .p
def k191:=aA 191 [.d (.st 11)] [qB] (qu1 bh_) (k54 (k21 (k294 (k190 ab_)))) (qp 2 (.s (.s .p (.lp ⟨[(26,.d qI)],[],[1,25],[0],[],10013⟩ zj12 true (qp 2 (.s (qp 2 zp24) .p)))) .p))
def k295:=aA 295 [.d (.st 15)] [qJ] (qu1 jw_) ab_ .p
def k296:=aA 296 [.d (.st 12)] [qB] (qu1 i5_) ab_ .p
def k297:=aA 297 [.d (.st 14)] [qB] (qu1 e0_) ab_ (.s .p (.s (.pr 6) .p))
def k192:=aA 192 [.d (.st 15)] [qB] (qu1 hN_) (k297 (k296 (k295 ab_))) (qp 3 (.s (.s .p (.lp ⟨[(4,.d qI)],[],[1,3],[0],[],6013⟩ ⟨[],[],[],[],[],6013⟩ true (.s .p (.s (.s .p (.s (qd 43) .p)) .p)))) .p))
def k411:=aA 411 [.d (.int .u8)] [qB] (qu1 ej_) ab_ .p
def k298:=aA 298 [.d (.st 16)] [qB] (qu1 hO_) (k411 ab_) (qp 2 (.s (.s .p (.lp ⟨[(3,.d qI)],[],[1],[0],[],13010⟩ ⟨[],[],[1],[0],[],13010⟩ true .p)) (.s (.s .p (.lp ⟨[(4,.d qI)],[],[1],[0],[],13011⟩ ⟨[],[],[],[],[],13011⟩ true .p)) .p)))
def k193:=aA 193 [.d (.st 18)] [qB] (qu1 hP_) (k298 ab_) (qp 2 (.s (qd 5) (.s (.s .p (.lp ⟨[(3,.d qI),(4,.d .bool),(27,.d qI)],[],[1,26],[0],[],9017⟩ ⟨[(4,.d .bool)],[],[],[],[],9017⟩ true .p)) .p)))
def k531:=aA 531 [.d .str] [qJ] (qu1 g3_) ab_ (qp 2 (.s (.s .p (.lp zj10 zj11 true .p)) .p))
def k636:=aA 636 [.d .str] [qB] (qu1 eD_) ab_ .p
def c_742:Con te:=af_ te [.g (.st 65) [some 800],.d (.st 63)] [(.st 65,[some 800])] false (qu2 bn_)
theorem ok_742:OKF 742 c_742:=⟨aa_ ad_ ab_ Tryz.func742 (by kernel_rfl) (pl:=.p) λ_=>by kernel_rfl,by kernel_rfl⟩
def c_822:Con te:=af_ te [.d .str,.l (.st 65) [some 800],.d (.int .u8)] [qB] false (qu3 eE_)
theorem ok_822:OKF 822 c_822:=⟨aa_ ad_ ab_ Tryz.func822 (by kernel_rfl) (pl:=.p) λ_=>by kernel_rfl,by kernel_rfl⟩
def zj17:JP:=⟨[(6,.one (.own 17))],[(1,true,.cells 796 [.own 0,.v qI,.v qI,.v .bool]),(0,true,.row 800 (.st 63) []),(17,false,.row 5 (.int .u8) [])],[0,3,4,5],[3,12],[],18⟩
theorem e_1028(a:PA te [.d .str,.g (.st 65) [some 800]]):hQ_ a.1 a.2.1=kS_ Tryz.prog te eqL (ti 1030 (inlF Tryz.prog te eqL fu_ Tryz.f1030 (.p:Pl)) (tb 742 c_742 (tb 822 c_822 fu_))) Tryz.f1028 [.d .str,.g (.st 65) [some 800]] [(.st 65,[some 800])] (qp 3 (.j ⟨[],[(1,true,.cells 796 [.own 0,.v qI,.v qI,.v .bool]),(0,true,.row 800 (.st 63) []),(12,true,.box 800 (.st 63))],[0,3,4,5],[3],[],16⟩ false .p (.s .p (.s (.lp zj17 zj17 true (qp 2 (.j ⟨[(7,.one (.ptr 17030)),(8,.d (.int .u8))],[(0,true,.row 800 (.st 63) []),(17030,false,.cells 796 [.own 0,.v qI,.v qI,.v .bool])],[0,3,4,5,6],[1,3,12,17],[],17031⟩ false .p (.s .p (.j ⟨[(9,.d (.int .u8))],[(0,true,.row 800 (.st 63) []),(17030,true,.cells 796 [.own 0,.v qI,.v qI,.v .bool])],[0,3,4,5,6,7,8],[1,3,12,17],[],17033⟩ true (.s .p (.s (qp 3 (.j ⟨[(9,.d (.int .u8))],[(0,true,.row 800 (.st 63) []),(17030,true,.cells 796 [.own 0,.v qI,.v qI,.v .bool])],[0,3,4,5,6,7,8,10],[1,3,12,17],[],29054⟩ false .p .p)) .p)) .p))))) .p)))) a:=by kernel_rfl
def c_1028:Con te:=af_ te [.d .str,.g (.st 65) [some 800]] [(.st 65,[some 800])] false (qu2 hQ_)
theorem ok_1028:OKF 1028 c_1028:=⟨aa_ ad_ (dm_ ⟨fS_ ad_ ab_ Tryz.func1030,by kernel_rfl⟩ (ac_ ok_742 (ac_ ok_822 ab_))) Tryz.func1028 (by kernel_rfl) e_1028,by kernel_rfl⟩
def c_1029:Con te:=af_ te [.d (.int .u8)] [qB] false λa=>fH_ a.1
theorem ok_1029:OKF 1029 c_1029:=⟨aa_ ad_ ab_ Tryz.func1029 (by kernel_rfl) (pl:=qp 2 (.s (.s .p (.lp ⟨[(4,.d qI)],[],[0,3],[],[],3⟩ ⟨[],[],[],[],[],3⟩ true .p)) .p)) λ_=>by kernel_rfl,by kernel_rfl⟩
set_option maxRecDepth 100000
def lv_(f:tR->Xw->tO Xw):Con te:=af_ te [.d .str,.g (.st 65) [some 800]] [(.st 65,[some 800])] false λa=>f a.1 a.2.1
def cS_986(f:tR->Xw->tO Xw):Con te:=af_ te [.d .str,.g (.st 65) [some 800]] [(.st 65,[some 800])] false λa=>jx_ f a.1 a.2.1
theorem okS_986(f:tR->Xw->tO Xw)(h:OKF 741 (lv_ f)):OKF 986 (cS_986 f):=⟨aa_ (tab:=(ti 1030 (inlF Tryz.prog te eqL fu_ Tryz.f1030 (.p:Pl)) (tb 1029 c_1029 (tb 1028 c_1028 (tb 822 c_822 (tb 741 (lv_ f) (tb 742 c_742 fu_))))))) ad_ (dm_ ⟨fS_ ad_ ab_ Tryz.func1030,by kernel_rfl⟩ (ac_ ok_1029 (ac_ ok_1028 (ac_ ok_822 (ac_ h (ac_ ok_742 ab_)))))) Tryz.func986 (by kernel_rfl) (pl:=qp 2 (.j ⟨[],[(1,true,.cells 796 [.own 10,.v qI,.v qI,.v .bool]),(10,false,.row 800 (.st 63) [])],[3,4],[3],[],11⟩ true (qp 12 (.j ⟨[(7,.one (.ptr 3024)),(8,.d (.int .u8))],[(3024,false,.cells 796 [.own 0,.v qI,.v qI,.v .bool]),(0,true,.row 800 (.st 63) [])],[4],[3],[],3025⟩ false .p .p)) .p)) λ_=>by kernel_rfl,by kernel_rfl⟩
def zj18:JP:=⟨[],[(38,true,.box 800 (.st 63))],[3,6,7,8,9],[0,1,5,26],[35],42⟩
def k823:=aA 823 [.g (.st 65) [some 800],.d qI,.d (.st 63)] [(.st 65,[some 800])] (qu3 e1_) ab_ (qp 4 (.s (.s .p (.lp ⟨[(7,.one (.own 26)),(8,.d qI)],[(0,true,.row 800 (.st 63) []),(26,false,.row 800 (.st 63) [])],[3,6],[1,5],[],27⟩ ⟨[(7,.one (.own 26))],[(0,true,.row 800 (.st 63) []),(26,false,.row 800 (.st 63) [])],[3,6],[1,5],[],27⟩ false (.s .p (.s (.s .p (.j zj18 false .p (.j zj18 false .p .p))) .p)))) .p))
def cS_906(f:tR->Xw->tO Xw):Con te:=af_ te [.d .str,.g (.st 65) [some 800]] [(.st 65,[some 800])] false λa=>ix_ f a.1 a.2.1
theorem okS_906(f:tR->Xw->tO Xw)(h:OKF 741 (lv_ f)):OKF 906 (cS_906 f):=⟨aa_ ad_ (ac_ ok_742 (k823 (ac_ ok_822 (ac_ (okS_986 f h) ab_)))) Tryz.func906 (by kernel_rfl) (pl:=qp 3 (.j ⟨[],[(1,true,.cells 796 [.own 16,.v qI,.v qI,.v .bool]),(16,false,.row 800 (.st 63) [])],[3,4],[3],[],17⟩ false .p .p)) λ_=>by kernel_rfl,by kernel_rfl⟩
def cS_821(f:tR->Xw->tO Xw):Con te:=af_ te [.d .str,.g (.st 65) [some 800]] [(.st 65,[some 800])] false λa=>g4_ f a.1 a.2.1
theorem okS_821(f:tR->Xw->tO Xw)(h:OKF 741 (lv_ f)):OKF 821 (cS_821 f):=⟨aa_ ad_ (ac_ (okS_906 f h) ab_) Tryz.func821 (by kernel_rfl) (pl:=.s .p (.s (.lp ⟨[],[(1,true,.cells 796 [.own 5,.v qI,.v qI,.v .bool]),(5,false,.row 800 (.st 63) [])],[0,3,4],[3],[],6⟩ ⟨[],[(1,true,.cells 796 [.own 5,.v qI,.v qI,.v .bool]),(5,false,.row 800 (.st 63) [])],[3,4],[3],[],6⟩ false .p) .p)) λ_=>by kernel_rfl,by kernel_rfl⟩
theorem okS_741(f:tR->Xw->tO Xw)(h:OKF 741 (lv_ f)):OKF 741 (lv_ (iy_ f)):=⟨aa_ ad_ (ac_ ok_742 (k823 (ac_ ok_822 (ac_ (okS_821 f h) (ac_ h ab_))))) Tryz.func741 (by kernel_rfl) (pl:=.p) λ_=>by kernel_rfl,by kernel_rfl⟩
theorem okN_741:∀n,OKF 741 (lv_ (fW_ n))
 | 0=>⟨bf_ λ_=>rfl,by kernel_rfl⟩
 | n+1=>okS_741 _ (okN_741 n)
def c_741:Con te:=lv_ (fW_ BIG)
theorem ok_741:OKF 741 c_741:=okN_741 BIG
def k637:=aA 637 [.d .str] [(.st 64,[some 800]),qJ,qJ] (qu1 fI_) (ac_ ok_741 (ac_ ok_742 ab_)) (qp 3 (.s (.s .p (.s (.s (.dr [0,0,0,1,4,4] [] true [0]) .p) .p)) .p))
def k530:=aA 530 [.d (.st 19)] [qB] (qu1 fJ_) (k637 (k636 (k531 ab_))) (qp 2 (.s (.s .p (.j ⟨[(17,.d .bool)],[],[1,16],[0],[],5009⟩ false .p (qp 5 (.j ⟨[(49,.d .bool)],[],[1,16],[0],[],5013⟩ false .p .p)))) .p))
def k412:=aA 412 [.d (.st 20)] [qB] (qu1 hR_) (k530 ab_) (qp 3 (.s (.s .p (.lp ⟨[(4,.d qI)],[],[1,3],[0],[],3011⟩ ⟨[],[],[],[],[],3011⟩ true .p)) .p))
def k299:=aA 299 [.d (.sl (.st 20))] [(.str,[]),qJ] (qu1 jy_) (k412 ab_) (qp 3 (.s (.s .p (.lp zj4 zj5 true (.s .p (.s (.s .p (.j ⟨[(4,.d .str)],[],[0,5],[],[],17⟩ false .p (.s .p (.lp ⟨[(4,.d .str),(6,.d qI)],[],[0,5],[],[],18⟩ ⟨[(4,.d .str)],[],[0,5],[],[],18⟩ false .p)))) .p)))) .p))
def k138:=aA 138 [.d .str] [qB] (qu1 dS_) (ac_ mr_ ab_) .p
def k413:=aA 413 [.d (.st 22)] [qJ] (qu1 hS_) (k406 (k531 ab_)) (qp 2 (.s (.s .p (.lp ⟨[(4,.d qI)],[(11,true,.row 9 .str [])],[1,3],[0],[],15⟩ ⟨[],[],[1],[0],[],15⟩ true .p)) (.s .p (.s (.s .p (.lp ⟨[(7,.d qI)],[],[1],[0],[],22⟩ ⟨[],[],[1],[0],[],22⟩ true .p)) .p))))
def k145:=aA 145 [.d qI] [qB] (qu1 ow_) ab_ .p
def k146:=aA 146 [.d qI,.d qI] [(.str,[])] (qu2 e2_) ab_ (qp 2 (.s (.lp ⟨[(0,.d qI),(5,.d .str)],[],[1],[],[],2⟩ ⟨[(5,.d .str)],[],[],[],[],2⟩ false .p) .p))
def k75:=aA 75 [.d qI,.d qI] [(.str,[])] (qu2 dG_) (k146 (k145 ab_)) .p
def k300:=aA 300 [.d (.st 22)] [(.str,[]),qJ] (qu1 hT_) (k75 (k287 (k413 ab_))) (qp 3 zp11)
def k194:=aA 194 [.d (.st 24)] [qB] (qu1 hU_) (k300 (k138 (k299 ab_))) (qp 2 (.s (.s .p (.lp ⟨[(5,.d qI)],[],[1],[0],[],5015⟩ ⟨[],[],[],[],[],5015⟩ true (.s .p (.s (.s .p (.s (.s (qd 47) .p) (.s .p (.lp ⟨[(7,.d qI)],[],[1,5,6],[0,5025],[],43039⟩ ⟨[],[],[1,5],[0],[],43039⟩ true .p)))) .p)))) .p))
def k68:=aA 68 [.d .str,.d .str] [(.st 26,[]),qJ] (qu2 i6_) ab_ .p true
def k532:=aA 532 [.d (.sl (.st 21)),.d .str] [(.str,[]),qB] (qu2 fv_) ab_ (.s .p (.s (.s .p (.lp ⟨[(6,.d qI)],[],[0,1],[],[],3⟩ ⟨[],[],[],[],[],3⟩ true .p)) .p))
def k414:=aA 414 [.d (.sl (.st 21)),.d .str] [(.str,[])] (qu2 g5_) (k532 ab_) .p
def zj19:JP:=⟨[],[],[0],[],[],5⟩
def k301:=aA 301 [.d (.sl (.st 21))] [qB] (qu1 hV_) (k414 (k406 ab_)) (qp 2 (.s (.s .p (.lp zj10 zj19 true .p)) .p))
def k303:=aA 303 [.d (.sl (.st 21))] [(.sl (.st 21),[some 102])] (qu1 de_) (k416 ab_) (qp 2 (.s (.s .p (.lp ⟨[(3,.one (.own 3)),(4,.d qI)],[(3,false,.row 102 (.st 21) [])],[0],[],[],4⟩ ⟨[(3,.one (.own 3))],[(3,false,.row 102 (.st 21) [])],[],[],[],4⟩ false (.s .p (.j ⟨[(3,.one (.own 8))],[(8,false,.row 102 (.st 21) [])],[0,4],[],[],9⟩ false .p .p)))) .p))
set_option maxRecDepth 100000
def k415:=aA 415 [.d (.sl (.st 21)),.d (.sl (.st 21))] [qB] (qu2 g6_) ab_ (qp 2 (.s (.s .p (.lp ⟨[(5,.d qI)],[],[0,1],[],[],7⟩ zj8 true zp6)) .p))
def k302:=aA 302 [.d (.sl (.sl (.st 21))),.d (.sl (.st 21))] [qJ] (qu2 eF_) (k415 (k303 ab_)) zp20
def k417:=aA 417 [.d (.st 25),.d (.st 25)] [qB] (qu2 e3_) (k415 ab_) .p
def k304:=aA 304 [.d (.st 25)] [qB] (qu1 hW_) (k417 ab_) .p
def zj20:JP:=⟨[(4,.d .bool)],[],[3],[],[],2⟩
def k418:=aA 418 [.d .str] [qJ] (qu1 cX_) ab_ (.s .p (.s (.s .p (.j zj20 false .p .p)) .p))
def k422:=aA 422 [.d (.sl (.st 21))] [(.str,[])] (qu1 e4_) (k532 ab_) .p
def k533:=aA 533 [.d (.sl (.st 21))] [(.str,[])] (qu1 e5_) (k532 ab_) .p
def k419:=aA 419 [.d (.sl (.st 21))] [qJ] (qu1 e6_) (k533 (k422 (k406 ab_))) .p
def k420:=aA 420 [.d (.st 25)] [qB] (qu1 fX_) ab_ .p
def k534:=aA 534 [.d .str] [qJ] (qu1 hX_) ab_ .p
def zp25:Pl:=.s .p (.s (qd 12) .p)
def k421:=aA 421 [.d (.st 25)] [qJ] (qu1 hY_) (k534 (k418 ab_)) (.s .p (.s (.s (qd 7) zp25) .p))
def k305:=aA 305 [.d (.st 25)] [qB] (qu1 hZ_) (k422 (k421 (k420 (k419 (k418 ab_))))) (.s .p (.s zp12 (qp 2 (.j ⟨[(3,.d qI),(5,.d qI)],[],[1,4],[0],[],53022⟩ false .p (.j ⟨[(4,.d .str)],[],[1,3,5],[0],[],53022⟩ false .p .p)))))
def zo6:OT:=.alt 16 (.free 18 (.alt 19 .nil .nil)) .nil
def zo7:OT:=.alt 15 zo6 .nil
def zo8:OT:=.alt 14 zo7 .nil
def zo9:OT:=.alt 13 zo8 .nil
def zo10:OT:=.free 8 (.free 10 (.free 12 (.free 17 (.alt 9 (.alt 11 zo9 .nil) (.alt 11 (.alt 9 zo9 (.alt 13 (.alt 9 zo8 (.alt 14 (.alt 9 zo7 (.alt 15 (.alt 9 zo6 .nil) .nil)) .nil)) .nil)) .nil)))))
def k195:=aA 195 [.d (.st 26)] [qB] (qu1 h0_) (k305 (k304 (k302 (k303 (k301 (k68 ab_)))))) (qp 3 (.s (.s .p (.lp ⟨[(5,.d qI)],[],[1],[0],[],22027⟩ ⟨[],[],[1],[0],[],22027⟩ true (.s .p (.s (.j ⟨[(74,.d .bool)],[],[1,5],[0],[],22032⟩ false (.ot 7 (.free 7 (.spl 7 zo10 zo10))) .p) .p)))) (.s (.s .p (.lp ⟨[(6,.d qI)],[],[1],[0],[],22028⟩ ⟨[],[],[],[],[],22028⟩ true (.s .p (.s (.s .p (.s (qd 36) .p)) .p)))) .p)))
def zp26:Pl:=qp 2 (.s (.s .p zp5) .p)
def k107:=aA 107 [.d (.st 37),.d (.st 27)] [qB] (qu2 h1_) (ac_ j0_ (k195 (k194 (k193 (k192 (k191 (k190 (k189 ab_)))))))) (qp 2 (.s (qp 16 (.s (.s (.s .p (.lp ⟨[(51,.d qI)],[],[2,3,50],[0,2],[],30⟩ ⟨[],[],[],[],[],30⟩ true zp26)) .p) .p)) .p))
def zj21:JP:=⟨[],[],[],[],[],24015⟩
def zp27:Pl:=qp 2 (.s (.s .p zp3) .p)
def k55:=aA 55 [.d (.st 37)] [qB] (qu1 fY_) (k107 (k106 (k105 (k104 ab_)))) (qp 2 (.s (.s .p (.lp ⟨[(39,.d qI)],[],[1,38],[0],[],24015⟩ zj21 true zp27)) .p))
def k196:=aA 196 [.d (.st 37),.d qI] [qJ] (qu2 eG_) ab_ .p
def k108:=aA 108 [.d (.st 37),.d qI] [qJ,qJ] (qu2 jz_) (k196 ab_) .p
def k197:=aA 197 [.d qI,.d qI,.d qI] [qB] (qu3 iP_) ab_ .p
def k198:=aA 198 [.d qI] [qB] (qu1 gx_) ab_ .p
def k199:=aA 199 [.d (.st 43),.d (.st 43)] [qB] (qu2 gy_) ab_ .p
def k109:=aA 109 [.d (.sl (.st 43))] [qB] (qu1 h2_) (k199 (k198 (k197 ab_))) (.s .p (.s (.s .p (.lp zj0 zj2 true (.s .p (.s (.s .p zp18) .p)))) .p))
def k200:=aA 200 [.d (.sl (.st 44)),.d .str] [qJ] (qu2 mV_) ab_ zp8
def k306:=aA 306 [.d (.st 38)] [qB] (qu1 fZ_) ab_ .p
def k201:=aA 201 [.d (.sl (.st 38))] [qB] (qu1 f0_) (k306 ab_) (qp 2 (.s (.s .p (.lp zj10 zj11 true (.s .p zp24))) .p))
def k202:=aA 202 [.d qI] [qB] (qu1 h3_) ab_ .p
def zp28:Pl:=qp 2 (.s (.s .p (.lp ⟨[(9,.d qI)],[],[0,8],[],[],7⟩ zj8 true .p)) .p)
def k110:=aA 110 [.d (.sl (.st 44))] [qB] (qu1 h4_) (k202 (k201 (k200 (ac_ j0_ ab_)))) zp28
set_option maxRecDepth 100000
def zp29:Pl:=.s .p (.s (.s .p (.j ⟨[(4,.d .bool)],[],[],[],[],2⟩ false .p .p)) .p)
def k307:=aA 307 [.d qI] [qB] (qu1 gz_) ab_ zp29
def k535:=aA 535 [.d qI] [(.str,[])] (qu1 jA_) ab_ .p
def k423:=aA 423 [.d qI] [(.str,[])] (qu1 g7_) (k535 ab_) .p
def k424:=aA 424 [.d (.st 41)] [qJ] (qu1 lm_) ab_ .p
def k427:=aA 427 [.d qI] [(.str,[])] (qu1 e7_) ab_ (.s .p (.s (qp 7 (.j ⟨[(10,.d .bool)],[],[3],[],[],8⟩ false .p (qp 13 (.j ⟨[(25,.d .bool)],[],[3],[],[],20⟩ false .p (qp 11 (.j ⟨[(38,.d .bool)],[],[3],[],[],30⟩ false .p .p)))))) .p))
def k425:=aA 425 [.d qI,.d (.int .u8)] [qB] (qu2 jB_) (k427 ab_) (qp 2 (.s (.s .p (.lp ⟨[(6,.d qI)],[],[1,5],[],[],5⟩ zj11 true .p)) .p))
def k536:=aA 536 [.d (.st 41),.d (.int .u8)] [qB] (qu2 e8_) ab_ .p
def k426:=aA 426 [.d (.st 41),.d (.int .u8)] [qB] (qu2 jC_) (k536 ab_) .p
def k537:=aA 537 [.d qI,.d qI] [qJ] (qu2 aX_) ab_ .p
def k538:=aA 538 [.d .str,.d qI] [qJ] (qu2 cF_) ab_ .p
def k539:=aA 539 [.d (.sl .str)] [qJ] (qu1 h5_) (ac_ j0_ ab_) zp28
def k541:=aA 541 [.d (.st 39)] [qJ] (qu1 i7_) ab_ .p
def k540:=aA 540 [.d (.sl (.st 39))] [qJ] (qu1 jD_) (k541 ab_) zp16
def k824:=aA 824 [.d qI,.d qI] [qB] (qu2 i8_) ab_ .p
def k825:=aA 825 [.d qI,.d qI] [qB] (qu2 dX_) ab_ .p
def k743:=aA 743 [.d (.st 40)] [qB] (qu1 fK_) (k825 (k824 ab_)) .p
def k638:=aA 638 [.d (.st 40)] [qJ] (qu1 f1_) (ac_ j0_ (k743 ab_)) .p
def k542:=aA 542 [.d (.st 41),.d (.int .u8)] [qJ] (qu2 ek_) (k638 (k538 (ac_ j0_ (k537 ab_)))) .p
def k428:=aA 428 [.d (.st 41),.d (.int .u8)] [qJ] (qu2 h6_) (k542 (k541 (k540 (k539 (k538 (k537 ab_)))))) .p
def zp30:Pl:=.s .p (.s zp17 .p)
def zp31:Pl:=.s .p (.s (.s (qd 6) .p) .p)
def k308:=aA 308 [.d (.st 41)] [qJ] (qu1 cx_) (k428 (k427 (k426 (k425 (k424 (k423 ab_)))))) (qp 3 (.s (.s .p (.lp ⟨[(4,.d qI)],[],[1],[0],[],13⟩ ⟨[],[],[1],[0],[],13⟩ true zp30)) (.s .p (.s (.s .p (.lp ⟨[(6,.d qI)],[],[1,5],[0],[],18⟩ ⟨[],[],[],[],[],18⟩ true zp31)) .p))))
def zj22:JP:=⟨[],[],[0],[],[],4⟩
def zp32:Pl:=qp 2 (.s (.s .p (.s (qd 11) .p)) .p)
def k203:=aA 203 [.d (.sl (.st 41))] [qB] (qu1 h7_) (k308 (k307 ab_)) (.s .p (.s (.s .p (.lp ⟨[(7,.d qI)],[],[0,6],[],[],4⟩ zj22 true (qp 2 (.s (qp 3 (.lp ⟨[(26,.d qI)],[],[0,3,6,7,25],[],[],7017⟩ ⟨[],[],[0,6,7],[],[],7017⟩ true zp32)) .p)))) .p))
def k112:=aA 112 [.d (.sl (.st 38))] [qB] (qu1 f2_) ab_ (.s .p (.s (.s .p (.lp ⟨[(6,.d qI)],[],[0,5],[],[],4⟩ zj7 true .p)) .p))
def k204:=aA 204 [.d qI,.d qI] [(.str,[])] (qu2 g8_) (k75 ab_) .p
def k111:=aA 111 [.d (.st 42),.d .bool] [qB] (qu2 h8_) (k204 (k112 (k203 (k201 ab_)))) (qp 3 zp13)
def k56:=aA 56 [.d (.st 37),.d (.st 45)] [qB] (qu2 f3_) (k112 (k111 (k110 (k109 (k108 (k55 ab_)))))) (qp 5 (.s (.s .p (.lp ⟨[(95,.d qI)],[],[3,94],[2],[],58036⟩ ⟨[],[],[3],[2],[],58036⟩ true (qp 2 (.s (.s .p zp12) .p)))) (.s (.s .p (.lp ⟨[(151,.d qI)],[],[3,150],[2],[],58040⟩ ⟨[],[],[],[],[],58040⟩ true .p)) .p)))
def k113:=aA 113 [.d (.st 46)] [qB] (qu1 h9_) ab_ .p
def k114:=aA 114 [.d (.st 46)] [qB] (qu1 jE_) ab_ .p
def k309:=aA 309 [.d qI] [qB] (qu1 bZ_) (k423 ab_) .p
def k310:=aA 310 [.d (.sl (.st 47)),.d qI] [qJ] (qu2 c5_) ab_ zp20
def k311:=aA 311 [.d (.sl (.st 47)),.d qI] [qJ] (qu2 eH_) ab_ zp20
end
end Go.Proofs.YtokncnjohiobcaaGreatDoor
