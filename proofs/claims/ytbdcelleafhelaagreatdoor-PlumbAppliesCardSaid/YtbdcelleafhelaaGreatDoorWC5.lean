/-
 What the statements of this seat hang on,part 5: Fns Te Ch ShCt LCt ShFi LFi LGa LGb ShGr LGr ShIb LIb Lw Ls LIa LIc LIm ShIx LIx ShSb.
-/
import Derived.Test.YtbdcelleafhelaaGreatDoorWC4
import Derived.Test.YtbdcelleafhelaaGreatDoorProg
import Derived.KernelRfl
import Derived.Test.YtbdcelleafhelaaGreatDoorRows
import Derived.LaidMore
import Derived.LaidSub
import Derived.Lib.LaidTab
import Derived.Stop.Joined
import Derived.Lay
import Derived.MakeChecks
import Derived.Shelf.Strings.Count
import Derived.Ground.NamesProg
import Derived.Lib.Agree
import Derived.Shelf.Strconv.Itoa4
import Derived.Shelf.Strings.Builder2
import Derived.Shelf.Strings.Search1
import Derived.Shelf.Slices.Delete
import Derived.Shelf.Spec.SlicesInsertGrow
import Derived.Shelf.SlLaysE
import Derived.Shelf.RegionOpenPlain
import Derived.WalkKit
import Derived.Deep.LoopGhost
import Derived.Deep.RegionLaw
import Derived.Lib.Walk
import Derived.Sort.WalkB12
import Derived.Lib.SliceRun
import Derived.Laws.Externs
import Derived.Shelf.Strings.Search2
import Derived.Shelf.Strings.Builder1
namespace Go.Proofs.YtbdcelleafhelaaGreatDoor
open Go.Rt Go.RowKit
noncomputable section
structure Xq where (Xc Xn:Str) (Xa:Bool)
deriving DecidableEq,Inhabited
structure Xx where (Xd Xr Xt Xf:Str) (Xv:List Xq) (Xm:Str)
deriving DecidableEq,Inhabited
structure Xp where (Xy Xg Xl:Str)
deriving DecidableEq,Inhabited
structure Xw where (Xh:List Xp)
deriving DecidableEq,Inhabited
structure Xz where (Op_ C_:Int) (Xu:Str) (Yq:Bool) (X_ Y_:Int)
deriving DecidableEq,Inhabited
structure Xk where (Yx:List Xz) (Yj:Int)
deriving DecidableEq,Inhabited
structure regex_parser where (s_:Str) (at_ groups_:Int) (code_:List Xz) (bad_:Int)
deriving DecidableEq,Inhabited
structure plumb_state where (m_:Xx) (text_:Str) (caps_:List Int) (port_:Str)
deriving DecidableEq,Inhabited
structure regex_thread where (at_:Int) (caps_:List Int)
deriving DecidableEq,Inhabited
structure regex_machine where (r_:Xk) (s_:Str) (pos_:Int) (visited_:List Int) (list_:List regex_thread)
deriving DecidableEq,Inhabited
structure Xj where (L_:List Xz) (At_ N_:Int) (Xi:Bool)
deriving DecidableEq,Inhabited
structure Yz where (S_:Str) (At_:List Int)
deriving DecidableEq,Inhabited
structure Xe where (K_:Int) (At_:List Int)
deriving DecidableEq,Inhabited
structure Xb where (L_:List Xe) (Xo:List Bool)
deriving DecidableEq,Inhabited
structure Xs where (At_:List Int) (Yv Yw:Int) (Ok_:Bool)
deriving DecidableEq,Inhabited
structure Yk where (a0_ a1_ a2_ a3_ a4_ a5_ a6_ a7_ a8_ a9_ Yy Yh Yg Yf Ym Yn Yp Yb Yc Yd:Int)
deriving DecidableEq,Inhabited
def globP:Yk:=Yk.mk 1 10 100 1000 10000 100000 1000000 10000000 100000000 1000000000 10000000000 100000000000 1000000000000 10000000000000 100000000000000 1000000000000000 10000000000000000 100000000000000000 1000000000000000000 10000000000000000000
def fs_(x0:Xx)(s2:Int):Option (Step Int (Out Unit Bool)):=(bif(decide (s2<(x0.Xv.length:Int)))then(ah_ x0.Xv s2).bind λy3=>(ah_ x0.Xv s2).bind λy4=>(bif(decide ((w64 ((y3.Xc.length:Int)+(y4.Xn.length:Int)))>2000))then some (.done (.ret (false)))else some (.next (w64 (s2+1))))else some (.done (.fall ())))
def fP_(x0:Xx):Option Bool:=(ae_ (fs_ x0) BIG 0).bind λwo1=>match wo1 with | .ret r1=>some r1 | .fall _=>some (((((((decide ((x0.Xd.length:Int)<=2000))&&(decide ((x0.Xr.length:Int)<=2000)))&&(decide ((x0.Xt.length:Int)<=2000)))&&(decide ((x0.Xf.length:Int)<=2000)))&&(decide ((x0.Xv.length:Int)<=40)))&&(decide ((x0.Xm.length:Int)<=70000))))
def strings_Index(x0:Str)(x1:Str):Option Int:=(stringslite_Index x0 x1).bind λy1=>some (y1)
def strings_Contains(x0:Str)(x1:Str):Option Bool:=(strings_Index x0 x1).bind λy1=>some ((decide (y1>=0)))
def bt_(x0:Str)(x1:Str):Option Bool:=Option.bind (bif(decide ((x0.length:Int)>=(x1.length:Int)))then(bc_ x0 0 (x1.length:Int)).bind λy1=>some (y1==x1)else some false) λ(y2:Bool)=>some (y2)
def co_(x0:Str)(x1:Str):Option Str:=(bt_ x0 x1).bind λy1=>(bif y1 then(bc_ x0 (x1.length:Int) (x0.length:Int)).bind λy2=>some (y2)else some (x0))
def strings_TrimPrefix(x0:Str)(x1:Str):Option Str:=(co_ x0 x1).bind λy1=>some (y1)
def ft_(y1:Str)(s2:Int):Option (Step Int (Out Unit Bool)):=(bif(decide (s2<(y1.length:Int)))then(an_ y1 s2).bind λy7=>(bif(((((decide (y7<97))||(decide (y7>122)))&&((decide (y7<48))||(decide (y7>57))))&&(y7 != 45))&&(y7 != 95))then some (.done (.ret (false)))else some (.next (w64 (s2+1))))else some (.done (.fall ())))
def hI_(x0:Str):Option Bool:=(strings_TrimPrefix x0 [33]).bind λy1=>Option.bind (bif((y1==[])||(decide ((y1.length:Int)>32)))then some true else(an_ y1 0).bind λy2=>some (decide (y2<97)) ) λ(y3:Bool)=>Option.bind (bif y3 then some true else(an_ y1 0).bind λy4=>some (decide (y4>122)) ) λ(y5:Bool)=>(bif y5 then some (false)else(ae_ (ft_ y1) BIG 0).bind λwo1=>match wo1 with | .ret r1=>some r1 | .fall _=>some (true))
def strings_IndexByte(x0:Str)(x1:Int):Option Int:=(stringslite_IndexByte x0 x1).bind λy1=>some (y1)
def f5_(x0:Str)(x1:Str)(s2:Int):Option (Step Int (Out Unit Int)):=(bif(decide (s2<(x0.length:Int)))then(an_ x0 s2).bind λy3=>(strings_IndexByte x1 y3).bind λy4=>(bif(decide (y4>=0))then some (.done (.ret (s2)))else some (.next (w64 (s2+1))))else some (.done (.fall ())))
def ex_(x0:Str)(x1:Str):Option Int:=(ae_ (f5_ x0 x1) BIG 0).bind λwo1=>match wo1 with | .ret r1=>some r1 | .fall _=>some ((x0.length:Int))
def bA_(x0:List Xq)(x1:Xq->Option Bool)(s2:Int):Option (Step Int (Out Unit Int)):=(bif(decide (s2<(x0.length:Int)))then(ah_ x0 s2).bind λy3=>(x1 y3).bind λy4=>(bif y4 then some (.done (.ret (s2)))else some (.next (w64 (s2+1))))else some (.done (.fall ())))
def ba_(x0:List Xq)(x1:Xq->Option Bool):Option Int:=(ae_ (bA_ x0 x1) BIG 0).bind λwo1=>match wo1 with | .ret r1=>some r1 | .fall _=>some ((-1))
def bg_(x0:List Xq)(x1:Xq->Option Bool):Option Bool:=(ba_ x0 x1).bind λy1=>some ((decide (y1>=0)))
def i6_(x0:Xq)(x1:Xq):Option Bool:=some ((x0.Xc==x1.Xc))
def fu_(x0:List Xq)(x1:Xq):Option Int:=(bif(decide ((x0.length:Int)>=32))then some (22)else(hI_ x1.Xc).bind λy1=>(bif(!y1)then some (6)else(bif(x1.Xa&&(!(x1.Xn==[])))then some (2)else(ex_ x1.Xn [0,10,13]).bind λy2=>(bif(decide (y2<(x1.Xn.length:Int)))then some (2)else(bif(decide ((x1.Xn.length:Int)>1024))then some (4)else(bg_ x0 (λ(u1:Xq)=>Option.bind (i6_ u1 x1) λ(v1:Bool)=>some v1)).bind λy3=>(bif y3 then some (7)else some (0)))))))
def f6_(x0:List Xq)(s2:Int):Option (Step Int (Out Unit Int)):=(bif(decide (s2<(x0.length:Int)))then(ah_ x0 s2).bind λy4=>(bc_ x0 0 s2).bind λy5=>(fu_ y5 y4).bind λy6=>(bif(y6 != 0)then some (.done (.ret (y6)))else some (.next (w64 (s2+1))))else some (.done (.fall ())))
def gV_(x0:List Xq):Option Int:=(ae_ (f6_ x0) BIG 0).bind λwo1=>match wo1 with | .ret r1=>some r1 | .fall _=>some (0)
def gW_(x0:Xq):Option Bool:=some (x0.Xa)
def eD_(x0:List Xq):Option Bool:=(bg_ x0 (λ(u1:Xq)=>Option.bind (gW_ u1) λ(v1:Bool)=>some v1)).bind λy1=>some (y1)
def fv_(x0:Xx)(s2:Int×(List Str)):Option (Step (Int×(List Str)) (Out Unit Int)):=(bif(decide (s2.1<([x0.Xd,x0.Xr,x0.Xt,x0.Xf].length:Int)))then(ah_ s2.2 s2.1).bind λy3=>(bif(decide ((y3.length:Int)>1024))then some (.done (.ret (4)))else(strings_Contains y3 [10]).bind λy4=>(bif y4 then some (.done (.ret (2)))else some (.next ((w64 (s2.1+1)),s2.2))))else some (.done (.fall ())))
def bP_(x0:Xx):Option Int:=(ae_ (fv_ x0) BIG (0,[x0.Xd,x0.Xr,x0.Xt,x0.Xf])).bind λwo1=>match wo1 with | .ret r1=>some r1 | .fall _=>(gV_ x0.Xv).bind λy5=>(bif(y5 != 0)then some (y5)else(eD_ x0.Xv).bind λy6=>(bif y6 then some (2)else(bif(decide ((x0.Xm.length:Int)>65536))then some (4)else some (0))))
def utf8_DecodeRuneInString(_:Str):Option (Int×Int):=none
def lX_(o1:Int)(x0:Str)(x1:Str)(x2:Str)(s2:Int×Int×(List Int)):Option (Step (Int×Int×(List Int)) (Int×(List Int))):=(bif(decide (s2.2.1<o1))then(bc_ x0 s2.1 (x0.length:Int)).bind λy8=>(strings_Index y8 x1).bind λy9=>(bc_ x0 s2.1 (w64 (s2.1+y9))).bind λy10=>(room 1 s2.2.2 (aJ_ y10)).bind λy11=>(room 1 y11 (aJ_ x2)).bind λy12=>some (.next ((w64 ((w64 (s2.1+y9))+(x1.length:Int))),(w64 (s2.2.1+1)),y12))else some (.done (s2.1,s2.2.2)))
def lY_(o1:Int)(x0:Str)(x2:Str)(s4:Int×Int×(List Int)):Option (Step (Int×Int×(List Int)) (Int×(List Int))):=(bif(decide (s4.2.1<(w64 (o1-1))))then(bc_ x0 s4.1 (x0.length:Int)).bind λy19=>(utf8_DecodeRuneInString y19).bind λy20=>(bc_ x0 s4.1 (w64 (s4.1+y20.2))).bind λy21=>(room 1 s4.2.2 (aJ_ y21)).bind λy22=>(room 1 y22 (aJ_ x2)).bind λy23=>some (.next ((w64 (s4.1+y20.2)),(w64 (s4.2.1+1)),y23))else some (.done (s4.1,s4.2.2)))
def strings_Replace(x0:Str)(x1:Str)(x2:Str)(x3:Int):Option Str:=(bif((x1==x2)||(x3==0))then some (x0)else Option.bind ( (strings_Count x0 x1).bind λy1=>(bif(y1==0)then some (.ret (x0))else(bif((decide (x3<0))||(decide (y1<x3)))then some (.fall y1)else some (.fall x3))) ) λ(wo1:Out Int Str)=>match wo1 with | .ret r1=>some r1 | .fall o1=>(growB ([]:List Int) (w64 ((x0.length:Int)+(w64 (o1*(w64 ((x2.length:Int)-(x1.length:Int)))))))).bind λy2=>Option.bind ( (bif(decide ((x1.length:Int)>0))then(ae_ (lX_ o1 x0 x1 x2) BIG (0,0,y2)).bind λo2=>some (o2.1,o2.2)else(room 1 y2 (aJ_ x2)).bind λy13=>(ae_ (lY_ o1 x0 x2) BIG (0,0,y13)).bind λo3=>some (o3.1,o3.2)) ) λ(o4:Int×(List Int))=>(bc_ x0 o4.1 (x0.length:Int)).bind λy24=>(room 1 o4.2 (aJ_ y24)).bind λy25=>some ((bytesS y25)))
def strings_ReplaceAll(x0:Str)(x1:Str)(x2:Str):Option Str:=(strings_Replace x0 x1 x2 (-1)).bind λy1=>some (y1)
def n8_(x0:Str):Option Str:=Option.bind (bif(!(x0==[]))then(ex_ x0 [32,9,39]).bind λy1=>some (y1==(x0.length:Int))else some false) λ(y2:Bool)=>(bif y2 then some (x0)else(strings_ReplaceAll x0 [39] [39,39]).bind λy3=>(cat [39] y3).bind λy4=>(cat y4 [39]).bind λy5=>some (y5))
def n9_(x0:List Str)(s2:Int×Int):Option (Step (Int×Int) Int):=(bif(decide (s2.2<(x0.length:Int)))then(ah_ x0 s2.2).bind λy4=>Option.bind ( (bif(decide ((y4.length:Int)>(w64 (9223372036854775807-s2.1))))then none else some ()) ) λ(_:Unit)=>some (.next ((w64 (s2.1+(y4.length:Int))),(w64 (s2.2+1))))else some (.done s2.1))
def oa_(y8:List Str)(x1:Str)(s4:Int×(List Int)):Option (Step (Int×(List Int)) (List Int)):=(bif(decide (s4.1<(y8.length:Int)))then(ah_ y8 s4.1).bind λy12=>(room 1 s4.2 (aJ_ x1)).bind λy13=>(room 1 y13 (aJ_ y12)).bind λy14=>some (.next ((w64 (s4.1+1)),y14))else some (.done s4.2))
def strings_Join(x0:List Str)(x1:Str):Option Str:=(bif((x0.length:Int)==0)then some ([])else(bif((x0.length:Int)==1)then(ah_ x0 0).bind λy1=>some (y1)else Option.bind ( (bif(decide ((x1.length:Int)>0))then Option.bind ( (quoI .i64 9223372036854775807 (w64 ((x0.length:Int)-1))).bind λy2=>(bif(decide ((x1.length:Int)>=y2))then none else some ()) ) λ(_:Unit)=>some (w64 (0+(w64 ((x1.length:Int)*(w64 ((x0.length:Int)-1))))))else some 0) ) λ(o2:Int)=>(ae_ (n9_ x0) BIG (o2,0)).bind λo5=>(growB ([]:List Int) o5).bind λy5=>(ah_ x0 0).bind λy6=>(room 1 y5 (aJ_ y6)).bind λy7=>(bc_ x0 1 (x0.length:Int)).bind λy8=>(ae_ (oa_ y8 x1) BIG (0,y7)).bind λo6=>some ((bytesS o6))))
def p3_(x0:List Xq)(s2:Int×(List Str)):Option (Step (Int×(List Str)) (List Str)):=(bif(decide (s2.1<(x0.length:Int)))then Option.bind ( (ah_ x0 s2.1).bind λy10=>(bif y10.Xa then(cat y10.Xc [63]).bind λy11=>(room 16 s2.2 [y11]).bind λy12=>some y12 else(cat y10.Xc [61]).bind λy13=>(n8_ y10.Xn).bind λy14=>(cat y13 y14).bind λy15=>(room 16 s2.2 [y15]).bind λy16=>some y16) ) λ(o2:(List Str))=>some (.next ((w64 (s2.1+1)),o2))else some (.done s2.2))
def ob_(x0:List Xq):Option (Str×Int):=(gV_ x0).bind λy1=>(bif(y1 != 0)then some (([],y1))else(cY_ 16 ([]:Str) (x0.length:Int)).bind λ_=>(ae_ (p3_ x0) BIG (0,[])).bind λo3=>(strings_Join o3 [32]).bind λy17=>some ((y17,0)))
def lZ_(x0:Int):Option Bool:=some ((((x0==8)||(x0==10))||(x0==16)))
def num_Text(x0:Int)(x1:Int):Option Str:=(lZ_ x1).bind λy1=>(bif(!y1)then some ([])else(d9_ x0 x1).bind λy2=>some (y2))
def jN_(x0:Xx):Option (Str×Int):=(bP_ x0).bind λy1=>(bif(y1 != 0)then some (([],y1))else(ob_ x0.Xv).bind λy2=>(bif(y2.2 != 0)then some (([],y2.2))else(num_Text (x0.Xm.length:Int) 10).bind λy3=>(strings_Join [x0.Xd,x0.Xr,x0.Xt,x0.Xf,y2.1,y3,x0.Xm] [10]).bind λy4=>some ((y4,0))))
def jq_(_:Str)(_:Int):Option (List Str):=none
def lo_(o1:Int)(x0:Str)(x1:Str)(x2:Int)(s2:Str×Int×(List Str)):Option (Step (Str×Int×(List Str)) (Str×Int×(List Str))):=(bif(decide (s2.2.1<(w64 ((minI o1 (w64 ((x0.length:Int)+1)))-1))))then(strings_Index s2.1 x1).bind λy8=>(bif(decide (y8<0))then some (.done (s2.1,s2.2.1,s2.2.2))else(bc_ s2.1 0 (w64 (y8+x2))).bind λy9=>(ah_ s2.2.2 s2.2.1).bind λ_=>(bc_ s2.1 (w64 (y8+(x1.length:Int))) (s2.1.length:Int)).bind λy11=>some (.next (y11,(w64 (s2.2.1+1)),(s2.2.2.set s2.2.1.toNat y9))))else some (.done (s2.1,s2.2.1,s2.2.2)))
def strings_genSplit(x0:Str)(x1:Str)(x2:Int)(x3:Int):Option (List Str):=(bif(x3==0)then some ([])else(bif(x1==[])then(jq_ x0 x3).bind λy1=>some (y1)else Option.bind ( (bif(decide (x3<0))then(strings_Count x0 x1).bind λy2=>some (w64 (y2+1))else some x3) ) λ(o1:Int)=>(cY_ 16 ([]:Str) (minI o1 (w64 ((x0.length:Int)+1)))).bind λy3=>(ae_ (lo_ o1 x0 x1 x2) BIG (x0,0,y3)).bind λo2=>(ah_ o2.2.2 o2.2.1).bind λ_=>(bc_ (o2.2.2.set o2.2.1.toNat o2.1) 0 (w64 (o2.2.1+1))).bind λ_=>some (((o2.2.2.set o2.2.1.toNat o2.1).take (w64 (o2.2.1+1)).toNat))))
def strings_SplitN(x0:Str)(x1:Str)(x2:Int):Option (List Str):=(strings_genSplit x0 x1 0 x2).bind λy1=>some (y1)
def fw_(x0:Int):Option Bool:=some (((x0==32)||(x0==9)))
def strings_HasPrefix(x0:Str)(x1:Str):Option Bool:=(bt_ x0 x1).bind λy1=>some (y1)
def ci_(x0:Str)(s2:Int×(List Int)):Option (Step (Int×(List Int)) (Out Unit (Str×Int×Bool))):=(bif(decide (s2.1<(x0.length:Int)))then Option.bind ( (an_ x0 s2.1).bind λy7=>(bif(y7 != 39)then(an_ x0 s2.1).bind λy8=>(room 1 s2.2 [y8]).bind λy9=>some (.fall (s2.1,y9))else Option.bind (bif((w64 (s2.1+1))==(x0.length:Int))then some true else(an_ x0 (w64 (s2.1+1))).bind λy10=>some (y10 != 39) ) λ(y11:Bool)=>(bif y11 then some (.ret (((bytesS s2.2),(w64 (s2.1+1)),true)))else(room 1 s2.2 [39]).bind λy12=>some (.fall ((w64 (s2.1+1)),y12)))) ) λ(wo2:Out (Int×(List Int)) (Str×Int×Bool))=>match wo2 with | .ret r2=>some (.done (.ret r2)) | .fall o2=>some (.next ((w64 (o2.1+1)),o2.2))else some (.done (.fall ())))
def fQ_(x0:Str):Option (Str×Int×Bool):=(ae_ (ci_ x0) BIG (0,[])).bind λwo3=>match wo3 with | .ret r3=>some r3 | .fall _=>some (([],0,false))
def kZ_(x0:Str):Option (Xq×Int×Int):=(ex_ x0 [32,9,61,63,39]).bind λy1=>(bc_ x0 0 y1).bind λy2=>(bc_ x0 y1 (x0.length:Int)).bind λy3=>Option.bind ( (strings_HasPrefix y3 [63]).bind λy4=>(bif y4 then some (.fall ((w64 (y1+1)),(Xq.mk y2 [] true)))else(strings_HasPrefix y3 [61,39]).bind λy5=>(bif y5 then(bc_ y3 2 (y3.length:Int)).bind λy6=>(fQ_ y6).bind λy7=>(bif(!y7.2.2)then some (.ret (((Xq.mk [] [] false),0,48)))else some (.fall ((w64 (y1+(w64 (2+y7.2.1)))),(Xq.mk y2 y7.1 false))))else(strings_HasPrefix y3 [61]).bind λy8=>(bif y8 then(ex_ y3 [32,9]).bind λy9=>(bc_ y3 1 y9).bind λy10=>(strings_Contains y10 [39]).bind λy11=>(bif y11 then some (.ret (((Xq.mk [] [] false),0,2)))else some (.fall ((w64 (y1+y9)),(Xq.mk y2 y10 false))))else some (.ret (((Xq.mk [] [] false),0,2)))))) ) λ(wo1:Out (Int×Xq) (Xq×Int×Int))=>match wo1 with | .ret r1=>some r1 | .fall o1=>Option.bind (bif(decide (o1.1<(x0.length:Int)))then(an_ x0 o1.1).bind λy12=>(fw_ y12).bind λy13=>some (!y13)else some false) λ(y14:Bool)=>(bif y14 then some (((Xq.mk [] [] false),0,2))else some ((o1.2,o1.1,0)))
def cD_(x0:Str)(s2:Int×(List Xq)):Option (Step (Int×(List Xq)) (Out (List Xq) ((List Xq)×Int×Int))):=(bif(decide (s2.1<(x0.length:Int)))then(an_ x0 s2.1).bind λy7=>(fw_ y7).bind λy8=>(bif y8 then some (.next ((w64 (s2.1+1)),s2.2))else(bc_ x0 s2.1 (x0.length:Int)).bind λy9=>(kZ_ y9).bind λy10=>Option.bind ( (bif(y10.2.2==0)then(fu_ s2.2 y10.1).bind λy11=>some y11 else some y10.2.2) ) λ(o2:Int)=>(bif(o2 != 0)then some (.done (.ret (([],s2.1,o2))))else(room 40 s2.2 [y10.1]).bind λy12=>some (.next ((w64 (s2.1+y10.2.1)),y12))))else some (.done (.fall s2.2)))
def iB_(x0:Str):Option ((List Xq)×Int×Int):=(ae_ (cD_ x0) BIG (0,[])).bind λwo3=>match wo3 with | .ret r3=>some r3 | .fall o3=>some ((o3,0,0))
def num_digit(x0:Int):Option Int:=(bif((decide (x0>=48))&&(decide (x0<=57)))then some ((w64 ((IntKind.u8.wrap (x0-48)))))else(bif((decide (x0>=97))&&(decide (x0<=102)))then some ((w64 ((w64 ((IntKind.u8.wrap (x0-97))))+10)))else some (16)))
def num_Parse_L1(x0:Str)(x1:Int)(x2:Int)(s2:Int×Int):Option (Step (Int×Int) (Out Int (Int×Int))):=(bif(decide (s2.2<(x0.length:Int)))then(an_ x0 s2.2).bind λy9=>(num_digit y9).bind λy10=>Option.bind (bif(decide (y10>=x1))then some true else(quoI .i64 (w64 (x2-y10)) x1).bind λy11=>some (decide (s2.1>y11)) ) λ(y12:Bool)=>(bif(y12||(decide (y10>x2)))then some (.done (.ret ((0,5))))else some (.next ((w64 ((w64 (s2.1*x1))+y10)),(w64 (s2.2+1)))))else some (.done (.fall s2.1)))
def num_Parse(x0:Str)(x1:Int)(x2:Int):Option (Int×Int):=(lZ_ x1).bind λy1=>(bif((!y1)||(decide (x2<0)))then some ((0,1))else Option.bind (bif(x0==[])then some true else Option.bind (bif(decide ((x0.length:Int)>1))then(an_ x0 0).bind λy2=>some (y2==48)else some false) λ(y3:Bool)=>some y3 ) λ(y4:Bool)=>(bif y4 then some ((0,5))else(ae_ (num_Parse_L1 x0 x1 x2) BIG (0,0)).bind λwo1=>match wo1 with | .ret r1=>some r1 | .fall o1=>some ((o1,0))))
def jO_(x0:Str):Option (Xx×Int):=(strings_SplitN x0 [10] 7).bind λy1=>(bif(decide ((y1.length:Int)<=6))then some (((Xx.mk [] [] [] [] [] []),2))else(ah_ y1 4).bind λy2=>(iB_ y2).bind λy3=>(bif(y3.2.2 != 0)then some (((Xx.mk [] [] [] [] [] []),y3.2.2))else(ah_ y1 5).bind λy4=>(num_Parse y4 10 65536).bind λy5=>(bif(y5.2 != 0)then some (((Xx.mk [] [] [] [] [] []),y5.2))else(ah_ y1 6).bind λy6=>(bif(decide ((y6.length:Int)<y5.1))then some (((Xx.mk [] [] [] [] [] []),3))else(ah_ y1 6).bind λy7=>(bif(decide ((y7.length:Int)>y5.1))then some (((Xx.mk [] [] [] [] [] []),2))else(ah_ y1 0).bind λy8=>(ah_ y1 1).bind λy9=>(ah_ y1 2).bind λy10=>(ah_ y1 3).bind λy11=>(ah_ y1 6).bind λy12=>(bP_ (Xx.mk y8 y9 y10 y11 y3.1 y12)).bind λy13=>(bif(y13 != 0)then some (((Xx.mk [] [] [] [] [] []),y13))else some (((Xx.mk y8 y9 y10 y11 y3.1 y12),0))))))))
def dR_(x0:Str)(x1:Str):Option Bool:=Option.bind (bif(decide ((x0.length:Int)>=(x1.length:Int)))then(bc_ x0 (w64 ((x0.length:Int)-(x1.length:Int))) (x0.length:Int)).bind λy1=>some (y1==x1)else some false) λ(y2:Bool)=>some (y2)
def dD_(x0:Str)(x1:Str):Option Str:=(dR_ x0 x1).bind λy1=>(bif y1 then(bc_ x0 0 (w64 ((x0.length:Int)-(x1.length:Int)))).bind λy2=>some (y2)else some (x0))
def strings_TrimSuffix(x0:Str)(x1:Str):Option Str:=(dD_ x0 x1).bind λy1=>some (y1)
def strings_Split(x0:Str)(x1:Str):Option (List Str):=(strings_genSplit x0 x1 0 (-1)).bind λy1=>some (y1)
def jP_(x0:Str):Option (List Str):=(bif(x0==[])then some ([])else(strings_TrimSuffix x0 [10]).bind λy1=>(strings_Split y1 [10]).bind λy2=>some (y2))
def d5_(x0:Xw):Option Bool:=Option.bind (bif(decide ((x0.Xh.length:Int)>0))then(ah_ x0.Xh (w64 ((x0.Xh.length:Int)-1))).bind λy1=>some (y1.Xy==[112,108,117,109,98])else some false) λ(y2:Bool)=>some (y2)
def dA_(x0:Str)(x1:Str):Option (Str×Str×Bool):=(stringslite_Index x0 x1).bind λy1=>(bif(decide (y1>=0))then(bc_ x0 0 y1).bind λy2=>(bc_ x0 (w64 (y1+(x1.length:Int))) (x0.length:Int)).bind λy3=>some ((y2,y3,true))else some ((x0,[],false)))
def strings_Cut(x0:Str)(x1:Str):Option (Str×Str×Bool):=(dA_ x0 x1).bind λy1=>some ((y1.1,y1.2.1,y1.2.2))
def ic_(x0:Str):Option Xp:=(strings_Cut x0 [32]).bind λy1=>(strings_Cut y1.2.1 [32]).bind λy2=>some ((Xp.mk y1.1 y2.1 y2.2.1))
def cp_(x0:Str):Option (List Str):=Option.bind ( (bif(x0==[115,114,99])then some (x0==[115,114,99])else(bif(x0==[100,115,116])then some (x0==[100,115,116])else(bif(x0==[119,100,105,114])then some (x0==[119,100,105,114])else(bif(x0==[116,121,112,101])then some (x0==[116,121,112,101])else some (x0==[100,97,116,97]))))) ) λ(o1:Bool)=>(bif o1 then some ([[105,115],[105,115,110],[109,97,116,99,104,101,115],[115,101,116]])else(bif(x0==[97,116,116,114])then some ([[105,115],[105,115,110],[97,100,100],[100,101,108,101,116,101]])else(bif(x0==[112,108,117,109,98])then some ([[116,111]])else some ([]))))
def b1_(x0:List Str)(x1:Str)(s2:Int):Option (Step Int (Out Unit Int)):=(bif(decide (s2<(x0.length:Int)))then(ah_ x0 s2).bind λy2=>(bif(x1==y2)then some (.done (.ret (s2)))else some (.next (w64 (s2+1))))else some (.done (.fall ())))
def dl_(x0:List Str)(x1:Str):Option Int:=(ae_ (b1_ x0 x1) BIG 0).bind λwo1=>match wo1 with | .ret r1=>some r1 | .fall _=>some ((-1))
def aA_(x0:List Str)(x1:Str):Option Bool:=(dl_ x0 x1).bind λy1=>some ((decide (y1>=0)))
def av_(x0:regex_parser)(x1:Xz):Option (Int×regex_parser):=(room 56 x0.code_ [x1]).bind λy1=>some (((w64 ((y1.length:Int)-1)),(regex_parser.mk x0.s_ x0.at_ x0.groups_ y1 x0.bad_)))
def bq_(x0:regex_parser):Option (Int×Bool×regex_parser):=(bif(decide (x0.at_>=(x0.s_.length:Int)))then some ((0,false,x0))else(an_ x0.s_ x0.at_).bind λy1=>some ((y1,true,x0)))
def aX_(x0:regex_parser):Option (Bool×regex_parser):=some ((false,(regex_parser.mk x0.s_ x0.at_ x0.groups_ x0.code_ x0.at_)))
def aF_(x0:regex_parser)(x1:Int):Option (Bool×regex_parser):=(bq_ x0).bind λy1=>(bif((!y1.2.1)||(y1.1 != x1))then some ((false,y1.2.2))else some ((true,(regex_parser.mk y1.2.2.s_ (w64 (y1.2.2.at_+1)) y1.2.2.groups_ y1.2.2.code_ y1.2.2.bad_))))
def bG_(f126:regex_parser->Int->Option (Bool×regex_parser))(x0:regex_parser)(x1:Int):Option (Bool×regex_parser):=(bif(decide (x0.groups_>=9))then(aX_ x0).bind λy1=>some ((y1.1,y1.2))else Option.bind (av_ (regex_parser.mk x0.s_ (w64 (x0.at_+1)) (w64 (x0.groups_+1)) x0.code_ x0.bad_) (Xz.mk 8 0 [] false (w64 (2*(w64 (x0.groups_+1)))) 0)) λ(y2:Int×regex_parser)=>(f126 y2.2 (w64 (x1+1))).bind λy3=>(bif(!y3.1)then some ((false,y3.2))else(aF_ y3.2 41).bind λy4=>(bif(!y4.1)then(aX_ y4.2).bind λy5=>some ((y5.1,y5.2))else Option.bind (av_ y4.2 (Xz.mk 8 0 [] false (w64 ((w64 (2*(w64 (x0.groups_+1))))+1)) 0)) λ(y6:Int×regex_parser)=>some ((true,y6.2)))))
def cu_(x0:regex_parser):Option (Int×Bool×regex_parser):=(bq_ (regex_parser.mk x0.s_ (w64 (x0.at_+1)) x0.groups_ x0.code_ x0.bad_)).bind λy1=>(bif(!y1.2.1)then(aX_ y1.2.2).bind λy2=>some ((0,y2.1,y2.2))else(bif(y1.1==110)then some ((10,true,(regex_parser.mk y1.2.2.s_ (w64 (y1.2.2.at_+1)) y1.2.2.groups_ y1.2.2.code_ y1.2.2.bad_)))else(bif(y1.1==116)then some ((9,true,(regex_parser.mk y1.2.2.s_ (w64 (y1.2.2.at_+1)) y1.2.2.groups_ y1.2.2.code_ y1.2.2.bad_)))else some ((y1.1,true,(regex_parser.mk y1.2.2.s_ (w64 (y1.2.2.at_+1)) y1.2.2.groups_ y1.2.2.code_ y1.2.2.bad_))))))
def b4_(x0:regex_parser):Option (Int×Bool×regex_parser):=(bq_ x0).bind λy1=>(bif(((!y1.2.1)||(y1.1==93))||(y1.1==45))then(aX_ y1.2.2).bind λy2=>some ((0,y2.1,y2.2))else(bif(y1.1==92)then(cu_ y1.2.2).bind λy3=>some ((y3.1,y3.2.1,y3.2.2))else some ((y1.1,true,(regex_parser.mk y1.2.2.s_ (w64 (y1.2.2.at_+1)) y1.2.2.groups_ y1.2.2.code_ y1.2.2.bad_)))))
def cj_(s2:Bool×Str×Int×Int×Int×(List Xz)×Xz):Option (Step (Bool×Str×Int×Int×Int×(List Xz)×Xz) (Out (Str×Int×Int×Int×(List Xz)×Xz) (Bool×regex_parser))):=(bif s2.1 then(b4_ (regex_parser.mk s2.2.1 s2.2.2.1 s2.2.2.2.1 s2.2.2.2.2.2.1 s2.2.2.2.2.1)).bind λy7=>(bif(!y7.2.1)then some (.done (.ret ((false,y7.2.2))))else Option.bind ( (aF_ y7.2.2 45).bind λy8=>(bif y8.1 then(b4_ y8.2).bind λy9=>(bif(!y9.2.1)then some (.ret ((false,y9.2.2)))else(bif(decide (y9.1<y7.1))then(aX_ (regex_parser.mk y9.2.2.s_ (w64 (y9.2.2.at_-1)) y9.2.2.groups_ y9.2.2.code_ y9.2.2.bad_)).bind λy10=>some (.ret ((y10.1,y10.2)))else some (.fall (y9.1,y9.2.2.s_,y9.2.2.at_,y9.2.2.groups_,y9.2.2.bad_,y9.2.2.code_))))else some (.fall (y7.1,y8.2.s_,y8.2.at_,y8.2.groups_,y8.2.bad_,y8.2.code_))) ) λ(wo2:Out (Int×Str×Int×Int×Int×(List Xz)) (Bool×regex_parser))=>match wo2 with | .ret r2=>some (.done (.ret r2)) | .fall o2=>(cat s2.2.2.2.2.2.2.Xu (bytesS [y7.1,o2.1])).bind λy11=>some (.next (false,o2.2.1,o2.2.2.1,o2.2.2.2.1,o2.2.2.2.2.1,o2.2.2.2.2.2,(Xz.mk s2.2.2.2.2.2.2.Op_ s2.2.2.2.2.2.2.C_ y11 s2.2.2.2.2.2.2.Yq s2.2.2.2.2.2.2.X_ s2.2.2.2.2.2.2.Y_))))else(aF_ (regex_parser.mk s2.2.1 s2.2.2.1 s2.2.2.2.1 s2.2.2.2.2.2.1 s2.2.2.2.2.1) 93).bind λy12=>(bif(!y12.1)then(b4_ y12.2).bind λy13=>(bif(!y13.2.1)then some (.done (.ret ((false,y13.2.2))))else Option.bind ( (aF_ y13.2.2 45).bind λy14=>(bif y14.1 then(b4_ y14.2).bind λy15=>(bif(!y15.2.1)then some (.ret ((false,y15.2.2)))else(bif(decide (y15.1<y13.1))then(aX_ (regex_parser.mk y15.2.2.s_ (w64 (y15.2.2.at_-1)) y15.2.2.groups_ y15.2.2.code_ y15.2.2.bad_)).bind λy16=>some (.ret ((y16.1,y16.2)))else some (.fall (y15.1,y15.2.2.s_,y15.2.2.at_,y15.2.2.groups_,y15.2.2.bad_,y15.2.2.code_))))else some (.fall (y13.1,y14.2.s_,y14.2.at_,y14.2.groups_,y14.2.bad_,y14.2.code_))) ) λ(wo3:Out (Int×Str×Int×Int×Int×(List Xz)) (Bool×regex_parser))=>match wo3 with | .ret r3=>some (.done (.ret r3)) | .fall o3=>(cat s2.2.2.2.2.2.2.Xu (bytesS [y13.1,o3.1])).bind λy17=>some (.next (false,o3.2.1,o3.2.2.1,o3.2.2.2.1,o3.2.2.2.2.1,o3.2.2.2.2.2,(Xz.mk s2.2.2.2.2.2.2.Op_ s2.2.2.2.2.2.2.C_ y17 s2.2.2.2.2.2.2.Yq s2.2.2.2.2.2.2.X_ s2.2.2.2.2.2.2.Y_))))else some (.done (.fall (y12.2.s_,y12.2.at_,y12.2.groups_,y12.2.bad_,y12.2.code_,s2.2.2.2.2.2.2)))))
def dS_(x0:regex_parser):Option (Bool×regex_parser):=(aF_ x0 94).bind λy1=>Option.bind (ae_ cj_ BIG (true,y1.2.s_,y1.2.at_,y1.2.groups_,y1.2.bad_,y1.2.code_,(Xz.mk 3 0 [] y1.1 0 0))) λ(wo4:Out (Str×Int×Int×Int×(List Xz)×Xz) (Bool×regex_parser))=>match wo4 with | .ret r4=>some r4 | .fall o4=>(av_ (regex_parser.mk o4.1 o4.2.1 o4.2.2.1 o4.2.2.2.2.1 o4.2.2.2.1) o4.2.2.2.2.2).bind λy18=>some ((true,y18.2))
def ax_(f126:regex_parser->Int->Option (Bool×regex_parser))(x0:regex_parser)(x1:Int):Option (Bool×regex_parser):=(bq_ x0).bind λy1=>(bif(!y1.2.1)then(aX_ y1.2.2).bind λy2=>some ((y2.1,y2.2))else Option.bind ( (bif(y1.1==40)then(bG_ f126 y1.2.2 x1).bind λy3=>some (.ret ((y3.1,y3.2)))else Option.bind ( (bif(y1.1==41)then some (y1.1==41)else(bif(y1.1==42)then some (y1.1==42)else(bif(y1.1==43)then some (y1.1==43)else some (y1.1==63)))) ) λ(o1:Bool)=>(bif o1 then(aX_ y1.2.2).bind λy4=>some (.ret ((y4.1,y4.2)))else(bif(y1.1==46)then Option.bind (av_ y1.2.2 (Xz.mk 2 0 [] false 0 0)) λ(y5:Int×regex_parser)=>some (.fall (y5.2.s_,y5.2.at_,y5.2.groups_,y5.2.bad_,y5.2.code_))else(bif(y1.1==94)then Option.bind (av_ y1.2.2 (Xz.mk 4 0 [] false 0 0)) λ(y6:Int×regex_parser)=>some (.fall (y6.2.s_,y6.2.at_,y6.2.groups_,y6.2.bad_,y6.2.code_))else(bif(y1.1==36)then Option.bind (av_ y1.2.2 (Xz.mk 5 0 [] false 0 0)) λ(y7:Int×regex_parser)=>some (.fall (y7.2.s_,y7.2.at_,y7.2.groups_,y7.2.bad_,y7.2.code_))else(bif(y1.1==91)then(dS_ (regex_parser.mk y1.2.2.s_ (w64 (y1.2.2.at_+1)) y1.2.2.groups_ y1.2.2.code_ y1.2.2.bad_)).bind λy8=>some (.ret ((y8.1,y8.2)))else(bif(y1.1==92)then(cu_ y1.2.2).bind λy9=>(bif(!y9.2.1)then some (.ret ((false,y9.2.2)))else Option.bind (av_ y9.2.2 (Xz.mk 1 y9.1 [] false 0 0)) λ(y10:Int×regex_parser)=>some (.ret ((true,y10.2))))else Option.bind (av_ y1.2.2 (Xz.mk 1 y1.1 [] false 0 0)) λ(y11:Int×regex_parser)=>some (.fall (y11.2.s_,y11.2.at_,y11.2.groups_,y11.2.bad_,y11.2.code_))))))))) ) λ(wo2:Out (Str×Int×Int×Int×(List Xz)) (Bool×regex_parser))=>match wo2 with | .ret r2=>some r2 | .fall o2=>some ((true,(regex_parser.mk o2.1 (w64 (o2.2.1+1)) o2.2.2.1 o2.2.2.2.2 o2.2.2.2.1))))
def b8_(s2:Int×(List Xz)):Option (Step (Int×(List Xz)) (List Xz)):=(bif(decide (s2.1<(s2.2.length:Int)))then Option.bind ( (ah_ s2.2 s2.1).bind λy8=>(bif(y8.Op_==6)then(ah_ s2.2 s2.1).bind λy9=>(ah_ s2.2 s2.1).bind λy10=>(ah_ (s2.2.set s2.1.toNat (Xz.mk y10.Op_ y10.C_ y10.Xu y10.Yq (w64 (y9.X_+1)) y10.Y_)) s2.1).bind λy11=>(ah_ (s2.2.set s2.1.toNat (Xz.mk y10.Op_ y10.C_ y10.Xu y10.Yq (w64 (y9.X_+1)) y10.Y_)) s2.1).bind λy12=>some ((s2.2.set s2.1.toNat (Xz.mk y10.Op_ y10.C_ y10.Xu y10.Yq (w64 (y9.X_+1)) y10.Y_)).set s2.1.toNat (Xz.mk y12.Op_ y12.C_ y12.Xu y12.Yq y12.X_ (w64 (y11.Y_+1))))else(bif(y8.Op_==7)then(ah_ s2.2 s2.1).bind λy13=>(ah_ s2.2 s2.1).bind λy14=>some (s2.2.set s2.1.toNat (Xz.mk y14.Op_ y14.C_ y14.Xu y14.Yq (w64 (y13.X_+1)) y14.Y_))else some s2.2)) ) λ(o2:(List Xz))=>some (.next ((w64 (s2.1+1)),o2))else some (.done s2.2))
def b6_(x0:regex_parser)(x1:Int)(x2:Xz):Option regex_parser:=(ae_ b8_ BIG (x1,x0.code_)).bind λo3=>((insN (α:=Xz) 56) o3 x1 [x2]).bind λy15=>some (regex_parser.mk x0.s_ x0.at_ x0.groups_ y15 x0.bad_)
def bi_(f126:regex_parser->Int->Option (Bool×regex_parser))(x0:regex_parser)(x1:Int):Option (Bool×regex_parser):=(ax_ f126 x0 x1).bind λy1=>(bif(!y1.1)then some ((false,y1.2))else Option.bind ( (aF_ y1.2 42).bind λy2=>(bif y2.1 then Option.bind (b6_ y2.2 (x0.code_.length:Int) (Xz.mk 6 0 [] false (w64 ((x0.code_.length:Int)+1)) 0)) λ(y3:regex_parser)=>Option.bind (av_ y3 (Xz.mk 7 0 [] false (x0.code_.length:Int) 0)) λ(y4:Int×regex_parser)=>(ah_ y4.2.code_ (x0.code_.length:Int)).bind λy5=>some (y4.2.s_,y4.2.at_,y4.2.groups_,y4.2.bad_,(y4.2.code_.set (x0.code_.length:Int).toNat (Xz.mk y5.Op_ y5.C_ y5.Xu y5.Yq y5.X_ (y4.2.code_.length:Int))))else(aF_ y2.2 43).bind λy6=>(bif y6.1 then Option.bind (av_ y6.2 (Xz.mk 6 0 [] false (x0.code_.length:Int) 0)) λ(y7:Int×regex_parser)=>(ah_ y7.2.code_ y7.1).bind λy8=>some (y7.2.s_,y7.2.at_,y7.2.groups_,y7.2.bad_,(y7.2.code_.set y7.1.toNat (Xz.mk y8.Op_ y8.C_ y8.Xu y8.Yq y8.X_ (w64 (y7.1+1)))))else(aF_ y6.2 63).bind λy9=>(bif y9.1 then Option.bind (b6_ y9.2 (x0.code_.length:Int) (Xz.mk 6 0 [] false (w64 ((x0.code_.length:Int)+1)) 0)) λ(y10:regex_parser)=>(ah_ y10.code_ (x0.code_.length:Int)).bind λy11=>some (y10.s_,y10.at_,y10.groups_,y10.bad_,(y10.code_.set (x0.code_.length:Int).toNat (Xz.mk y11.Op_ y11.C_ y11.Xu y11.Yq y11.X_ (y10.code_.length:Int))))else some (y9.2.s_,y9.2.at_,y9.2.groups_,y9.2.bad_,y9.2.code_)))) ) λ(o1:Str×Int×Int×Int×(List Xz))=>some ((true,(regex_parser.mk o1.1 o1.2.1 o1.2.2.1 o1.2.2.2.2 o1.2.2.2.1))))
def bk_(x1:Int)(f126:regex_parser->Int->Option (Bool×regex_parser))(s2:Str×Int×Int×Int×(List Xz)):Option (Step (Str×Int×Int×Int×(List Xz)) (Out Unit (Bool×regex_parser))):=(bq_ (regex_parser.mk s2.1 s2.2.1 s2.2.2.1 s2.2.2.2.2 s2.2.2.2.1)).bind λy3=>(bif(((!y3.2.1)||(y3.1==124))||((y3.1==41)&&(decide (x1>0))))then some (.done (.ret ((true,y3.2.2))))else(bi_ f126 y3.2.2 x1).bind λy4=>(bif(!y4.1)then some (.done (.ret ((false,y4.2))))else some (.next (y4.2.s_,y4.2.at_,y4.2.groups_,y4.2.bad_,y4.2.code_))))
def ck_(f126:regex_parser->Int->Option (Bool×regex_parser))(x0:regex_parser)(x1:Int):Option (Bool×regex_parser):=(ae_ (bk_ x1 f126) BIG (x0.s_,x0.at_,x0.groups_,x0.bad_,x0.code_)).bind λwo1=>match wo1 with | .ret r1=>some r1 | .fall _=>none
def b2_(rec0:regex_parser->Int->Option (Bool×regex_parser))(x0:regex_parser)(x1:Int):Option (Bool×regex_parser):=(ck_ rec0 x0 x1).bind λy1=>(bif(!y1.1)then some ((false,y1.2))else(aF_ y1.2 124).bind λy2=>(bif(!y2.1)then some ((true,y2.2))else Option.bind (b6_ y2.2 (x0.code_.length:Int) (Xz.mk 6 0 [] false (w64 ((x0.code_.length:Int)+1)) 0)) λ(y3:regex_parser)=>Option.bind (av_ y3 (Xz.mk 7 0 [] false 0 0)) λ(y4:Int×regex_parser)=>(ah_ y4.2.code_ (x0.code_.length:Int)).bind λy5=>(rec0 (regex_parser.mk y4.2.s_ y4.2.at_ y4.2.groups_ (y4.2.code_.set (x0.code_.length:Int).toNat (Xz.mk y5.Op_ y5.C_ y5.Xu y5.Yq y5.X_ (w64 (y4.1+1)))) y4.2.bad_) x1).bind λy6=>(bif(!y6.1)then some ((false,y6.2))else(ah_ y6.2.code_ y4.1).bind λy7=>some ((true,(regex_parser.mk y6.2.s_ y6.2.at_ y6.2.groups_ (y6.2.code_.set y4.1.toNat (Xz.mk y7.Op_ y7.C_ y7.Xu y7.Yq (y6.2.code_.length:Int) y7.Y_)) y6.2.bad_))))))
def aj_:Nat->regex_parser->Int->Option (Bool×regex_parser) | 0=>λ_ _=>none|n+1=>b2_ (aj_ n)
def aE_(x0:Str):Option (Xk×Int×Int):=(bif(decide ((x0.length:Int)>256))then some (((Xk.mk [] 0),0,4))else Option.bind (av_ (regex_parser.mk x0 0 0 [] 0) (Xz.mk 8 0 [] false 0 0)) λ(y1:Int×regex_parser)=>(aj_ BIG y1.2 0).bind λy2=>(bif(!y2.1)then some (((Xk.mk [] 0),y2.2.bad_,49))else Option.bind (av_ y2.2 (Xz.mk 8 0 [] false 1 0)) λ(y3:Int×regex_parser)=>Option.bind (av_ y3.2 (Xz.mk 9 0 [] false 0 0)) λ(y4:Int×regex_parser)=>some (((Xk.mk y4.2.code_ (w64 (y4.2.groups_+1))),0,0))))
def d6_(x0:Xp):Option Bool:=Option.bind ( (both ( (both ( (cp_ x0.Xy).bind λy7=>(aA_ y7 x0.Xg).bind λy8=>(bif(!y8)then some true else(bif(x0.Xl==[])then some true else(bif(decide ((x0.Xl.length:Int)>1024))then some true else(strings_Contains x0.Xl [10]).bind λy9=>some y9)))) ( (cp_ x0.Xy).bind λy4=>(aA_ y4 x0.Xg).bind λy5=>(bif(!y5)then some true else(bif(x0.Xl==[])then some true else(bif(decide ((x0.Xl.length:Int)>1024))then some true else(strings_Contains x0.Xl [10]).bind λy6=>some y6)))))) ( (cp_ x0.Xy).bind λy1=>(aA_ y1 x0.Xg).bind λy2=>(bif(!y2)then some true else(bif(x0.Xl==[])then some true else(bif(decide ((x0.Xl.length:Int)>1024))then some true else(strings_Contains x0.Xl [10]).bind λy3=>some y3))))) ) λ(o1:Bool)=>(bif o1 then some (false)else(bif(!(x0.Xg==[109,97,116,99,104,101,115]))then some (true)else(aE_ x0.Xl).bind λy10=>some ((y10.2.2==0))))
def hu_(y1:(List Str))(s2:Int×(List Xw)×(List Xp)):Option (Step (Int×(List Xw)×(List Xp)) (Out ((List Xw)×(List Xp)) ((List Xw)×Int×Int))):=(bif(decide (s2.1<(y1.length:Int)))then Option.bind ( (ah_ y1 s2.1).bind λy11=>(strings_HasPrefix y11 [35]).bind λy12=>(bif y12 then some (.fall (s2.2.1,s2.2.2))else(bif(y11==[])then(bif(decide ((s2.2.2.length:Int)>0))then(d5_ (Xw.mk s2.2.2)).bind λy13=>(bif(!y13)then some (.ret (([],(w64 (s2.1+1)),50)))else(room 24 s2.2.1 [(Xw.mk s2.2.2)]).bind λy14=>some (.fall (y14,[])))else some (.fall (s2.2.1,s2.2.2)))else(bif(((s2.2.2.length:Int)==0)&&(decide ((s2.2.1.length:Int)>=64)))then some (.ret (([],(w64 (s2.1+1)),22)))else(ic_ y11).bind λy15=>(d6_ y15).bind λy16=>Option.bind (bif(!y16)then some true else(d5_ (Xw.mk s2.2.2)).bind λy17=>some y17 ) λ(y18:Bool)=>(bif(y18||(decide ((s2.2.2.length:Int)>=32)))then some (.ret (([],(w64 (s2.1+1)),50)))else(room 48 s2.2.2 [y15]).bind λy19=>some (.fall (s2.2.1,y19)))))) ) λ(wo2:Out ((List Xw)×(List Xp)) ((List Xw)×Int×Int))=>match wo2 with | .ret r2=>some (.done (.ret r2)) | .fall o2=>some (.next ((w64 (s2.1+1)),o2.1,o2.2))else some (.done (.fall (s2.2.1,s2.2.2))))
def hJ_(x0:Str):Option ((List Xw)×Int×Int):=(jP_ x0).bind λy1=>Option.bind (ae_ (hu_ y1) BIG (0,[],[])) λ(wo3:Out ((List Xw)×(List Xp)) ((List Xw)×Int×Int))=>match wo3 with | .ret r3=>some r3 | .fall o3=>Option.bind ( (bif(decide ((o3.2.length:Int)>0))then(d5_ (Xw.mk o3.2)).bind λy20=>(bif(!y20)then some (.ret (([],(w64 ((y1.length:Int)+1)),50)))else(room 24 o3.1 [(Xw.mk o3.2)]).bind λy21=>some (.fall y21))else some (.fall o3.1)) ) λ(wo4:Out (List Xw) ((List Xw)×Int×Int))=>match wo4 with | .ret r4=>some r4 | .fall o4=>some ((o4,0,0))
def ej_(x0:Xw)(s2:Int):Option (Step Int (Out Unit Bool)):=(bif(decide (s2<(x0.Xh.length:Int)))then(ah_ x0.Xh s2).bind λy3=>(d6_ y3).bind λy4=>(bif((!y4)||(!((y3.Xy==[112,108,117,109,98])==(s2==(w64 ((x0.Xh.length:Int)-1))))))then some (.done (.ret (false)))else some (.next (w64 (s2+1))))else some (.done (.fall ())))
def eN_(x0:Xw):Option Bool:=(bif((decide ((x0.Xh.length:Int)<1))||(decide ((x0.Xh.length:Int)>32)))then some (false)else(ae_ (ej_ x0) BIG 0).bind λwo1=>match wo1 with | .ret r1=>some r1 | .fall _=>some (true))
def hg_(x0:List Xq):Option (List Xq):=(nilB x0 λ(n1:Bool)=>(bif n1 then some ([])else(room 40 ([]:List Xq) x0).bind λy1=>some (y1)))
def aH_(x0:List Xq):Option (List Xq):=room 40 ([]:List Xq) x0
theorem hh_:hg_=aH_:=funext λ_=>nilB_room
def ea_(x0:plumb_state)(x1:Int):Option (Str×plumb_state):=Option.bind (bif(decide ((w64 ((w64 (2*x1))+1))>=(x0.caps_.length:Int)))then some true else(ah_ x0.caps_ (w64 (2*x1))).bind λy1=>some (decide (y1<0)) ) λ(y2:Bool)=>Option.bind (bif y2 then some true else(ah_ x0.caps_ (w64 ((w64 (2*x1))+1))).bind λy3=>(ah_ x0.caps_ (w64 (2*x1))).bind λy4=>some (decide (y3<y4)) ) λ(y5:Bool)=>(bif y5 then some (([],x0))else(ah_ x0.caps_ (w64 (2*x1))).bind λy6=>(ah_ x0.caps_ (w64 ((w64 (2*x1))+1))).bind λy7=>(bc_ x0.text_ y6 y7).bind λy8=>some ((y8,x0)))
def ey_(x1:Str)(x0:plumb_state)(s2:Int×(List Str)):Option (Step (Int×(List Str)) (Out Unit (Str×Int×plumb_state))):=(bif(decide (s2.1<([[115,114,99],[100,115,116],[119,100,105,114],[116,121,112,101],[100,97,116,97]].length:Int)))then(ah_ s2.2 s2.1).bind λy3=>(strings_HasPrefix x1 y3).bind λy4=>(bif y4 then(bif(y3==[115,114,99])then some (.done (.ret ((x0.m_.Xd,(y3.length:Int),x0))))else(bif(y3==[100,115,116])then some (.done (.ret ((x0.m_.Xr,(y3.length:Int),x0))))else(bif(y3==[119,100,105,114])then some (.done (.ret ((x0.m_.Xt,(y3.length:Int),x0))))else(bif(y3==[116,121,112,101])then some (.done (.ret ((x0.m_.Xf,(y3.length:Int),x0))))else some (.done (.ret ((x0.m_.Xm,(y3.length:Int),x0))))))))else some (.next ((w64 (s2.1+1)),s2.2)))else some (.done (.fall ())))
def df_(x0:plumb_state)(x1:Str):Option (Str×Int×plumb_state):=(ae_ (ey_ x1 x0) BIG (0,[[115,114,99],[100,115,116],[119,100,105,114],[116,121,112,101],[100,97,116,97]])).bind λwo1=>match wo1 with | .ret r1=>some r1 | .fall _=>some (([36],0,x0))
def cl_(s2:Str×plumb_state×(List Int)):Option (Step (Str×plumb_state×(List Int)) ((List Int)×plumb_state)):=(bif(!(s2.1==[]))then(strings_Cut s2.1 [36]).bind λy17=>(room 1 s2.2.2 (aJ_ y17.1)).bind λy18=>(bif(!y17.2.2)then some (.done (y18,s2.2.1))else(strings_HasPrefix y17.2.1 [36]).bind λy19=>(bif y19 then(room 1 y18 (aJ_ [36])).bind λy20=>(bc_ y17.2.1 1 (y17.2.1.length:Int)).bind λy21=>some (.next (y21,s2.2.1,y20))else Option.bind (bif(!(y17.2.1==[]))then(an_ y17.2.1 0).bind λy22=>some (decide (y22>=48))else some false) λ(y23:Bool)=>Option.bind (bif y23 then(an_ y17.2.1 0).bind λy24=>some (decide (y24<=57))else some false) λ(y25:Bool)=>(bif y25 then(an_ y17.2.1 0).bind λy26=>(ea_ s2.2.1 (w64 ((IntKind.u8.wrap (y26-48))))).bind λy27=>(room 1 y18 (aJ_ y27.1)).bind λy28=>(bc_ y17.2.1 1 (y17.2.1.length:Int)).bind λy29=>some (.next (y29,y27.2,y28))else(df_ s2.2.1 y17.2.1).bind λy30=>(room 1 y18 (aJ_ y30.1)).bind λy31=>(bc_ y17.2.1 y30.2.1 (y17.2.1.length:Int)).bind λy32=>some (.next (y32,y30.2.2,y31)))))else some (.done (s2.2.2,s2.2.1)))
def bu_(x0:plumb_state)(x1:Str):Option (Str×plumb_state):=Option.bind (ae_ cl_ BIG (x1,x0,[])) λ(o1:(List Int)×plumb_state)=>some (((bytesS o1.1),o1.2))
def aO_(x1:Xq->Option Bool)(s2:Int×Int×(List Xq)):Option (Step (Int×Int×(List Xq)) (Int×(List Xq))):=(bif(decide (s2.2.1<(s2.2.2.length:Int)))then Option.bind ( (ah_ s2.2.2 s2.2.1).bind λy5=>(x1 y5).bind λy6=>(bif(!y6)then(ah_ s2.2.2 s2.1).bind λ_=>some ((w64 (s2.1+1)),(s2.2.2.set s2.1.toNat y5))else some (s2.1,s2.2.2)) ) λ(o2:Int×(List Xq))=>some (.next (o2.1,(w64 (s2.2.1+1)),o2.2))else some (.done (s2.1,s2.2.2)))
def bH_(x0:List Xq)(x1:Xq->Option Bool):Option (List Xq):=(ba_ x0 x1).bind λy1=>(bif(y1==(-1))then some (x0)else(ae_ (aO_ x1) BIG (y1,(w64 (y1+1)),x0)).bind λo3=>(bc_ o3.2 o3.1 (o3.2.length:Int)).bind λ_=>Option.bind (bc_ (dH_ o3.2 o3.1.toNat (Xq.mk [] [] false)) 0 o3.1) λ(_:List Xq)=>some (((dH_ o3.2 o3.1.toNat (Xq.mk [] [] false)).take o3.1.toNat)))
def kg_(x0:Xq)(x1:Str):Option Bool:=some ((x0.Xc==x1))
def gX_(x0:List Xq)(x1:Str):Option (List Xq):=(aH_ x0).bind λy1=>(bH_ y1 (λ(u1:Xq)=>Option.bind (kg_ u1 x1) λ(v1:Bool)=>some v1)).bind λy2=>some (y2)
def l0_(x0:Xq)(x1:Str):Option Bool:=some (((!x0.Xa)&&(x0.Xc==x1)))
def iC_(x0:List Xq)(x1:Str):Option Int:=(ba_ x0 (λ(u1:Xq)=>Option.bind (l0_ u1 x1) λ(v1:Bool)=>some v1)).bind λy1=>some (y1)
def jr_(x0:List Xq)(x1:Str):Option (Str×Bool):=(iC_ x0 x1).bind λy1=>(bif(decide (y1<0))then some (([],false))else(ah_ x0 y1).bind λy2=>some ((y2.Xn,true)))
def gY_(x1:List Xq)(x0:List Xq)(s2:Int):Option (Step Int (Out Unit Bool)):=(bif(decide (s2<(x1.length:Int)))then(ah_ x1 s2).bind λy3=>(jr_ x0 y3.Xc).bind λy4=>(bif((!y4.2)||((!y3.Xa)&&(!(y4.1==y3.Xn))))then some (.done (.ret (false)))else some (.next (w64 (s2+1))))else some (.done (.fall ())))
def gZ_(x0:List Xq)(x1:List Xq):Option Bool:=(ae_ (gY_ x1 x0) BIG 0).bind λwo1=>match wo1 with | .ret r1=>some r1 | .fall _=>some (true)
def k0_(x0:List Xq)(x1:Str)(x2:Str):Option (List Xq):=(aH_ x0).bind λy1=>(iC_ y1 x1).bind λy2=>(bif(decide (y2>=0))then(ah_ y1 y2).bind λy3=>some ((y1.set y2.toNat (Xq.mk y3.Xc x2 y3.Xa)))else(room 40 y1 [(Xq.mk x1 x2 false)]).bind λy4=>some (y4))
def cv_(y2:(List Xq)×Int×Int)(s2:Int×Str×Str×Str×Str×(List Xq)×Str×Str×(List Int)×Str×(List Xq)):Option (Step (Int×Str×Str×Str×Str×(List Xq)×Str×Str×(List Int)×Str×(List Xq)) plumb_state):=(bif(decide (s2.1<(y2.1.length:Int)))then(ah_ s2.2.2.2.2.2.2.2.2.2.2 s2.1).bind λy7=>(k0_ s2.2.2.2.2.2.1 y7.Xc y7.Xn).bind λy8=>some (.next ((w64 (s2.1+1)),s2.2.1,s2.2.2.1,s2.2.2.2.1,s2.2.2.2.2.1,y8,s2.2.2.2.2.2.2.1,s2.2.2.2.2.2.2.2.1,s2.2.2.2.2.2.2.2.2.1,s2.2.2.2.2.2.2.2.2.2.1,s2.2.2.2.2.2.2.2.2.2.2))else some (.done (plumb_state.mk (Xx.mk s2.2.1 s2.2.2.1 s2.2.2.2.1 s2.2.2.2.2.1 s2.2.2.2.2.2.1 s2.2.2.2.2.2.2.1) s2.2.2.2.2.2.2.2.1 s2.2.2.2.2.2.2.2.2.1 s2.2.2.2.2.2.2.2.2.2.1)))
def cB_(x0:plumb_state)(x1:Str)(x2:Str):Option (Bool×plumb_state):=(bif(x1==[100,101,108,101,116,101])then(gX_ x0.m_.Xv x2).bind λy1=>some ((true,(plumb_state.mk (Xx.mk x0.m_.Xd x0.m_.Xr x0.m_.Xt x0.m_.Xf y1 x0.m_.Xm) x0.text_ x0.caps_ x0.port_)))else(iB_ x2).bind λy2=>(bif(y2.2.2 != 0)then some ((false,x0))else(bif(!(x1==[97,100,100]))then(gZ_ x0.m_.Xv y2.1).bind λy3=>some (((y3==(x1==[105,115])),x0))else(eD_ y2.1).bind λy4=>(bif y4 then some ((false,x0))else(ae_ (cv_ y2) BIG (0,x0.m_.Xd,x0.m_.Xr,x0.m_.Xt,x0.m_.Xf,x0.m_.Xv,x0.m_.Xm,x0.text_,x0.caps_,x0.port_,y2.1)).bind λo1=>some ((true,o1))))))
def bits_Mul64(x0:Int)(x1:Int):Option (Int×Int):=some (((IntKind.u64.wrap ((IntKind.u64.wrap ((IntKind.u64.wrap ((x0.fdiv (2^32))*(x1.fdiv (2^32))))+((IntKind.u64.wrap ((IntKind.u64.wrap ((x0.fdiv (2^32))*(andI .u64 x1 4294967295)))+((IntKind.u64.wrap ((andI .u64 x0 4294967295)*(andI .u64 x1 4294967295))).fdiv (2^32)))).fdiv (2^32))))+((IntKind.u64.wrap ((andI .u64 (IntKind.u64.wrap ((IntKind.u64.wrap ((x0.fdiv (2^32))*(andI .u64 x1 4294967295)))+((IntKind.u64.wrap ((andI .u64 x0 4294967295)*(andI .u64 x1 4294967295))).fdiv (2^32)))) 4294967295)+(IntKind.u64.wrap ((andI .u64 x0 4294967295)*(x1.fdiv (2^32)))))).fdiv (2^32)))),(IntKind.u64.wrap (x0*x1))))
def bits_Mul(x0:Int)(x1:Int):Option (Int×Int):=(bits_Mul64 x0 x1).bind λy1=>some ((y1.1,y1.2))
def je_(s2:Int×(List Int)):Option (Step (Int×(List Int)) (List Int)):=(bif(decide (s2.1<(s2.2.length:Int)))then(bc_ s2.2 s2.1 (s2.2.length:Int)).bind λ_=>(bc_ s2.2 0 s2.1).bind λ_=>some (.next ((w64 (s2.1+((min (s2.2.take s2.1.toNat).length (s2.2.drop s2.1.toNat).length:Nat):Int))),(iT_ s2.2 s2.1.toNat (s2.2.take s2.1.toNat))))else some (.done s2.2))
def dm_(x0:List Int)(x1:Int):Option (List Int):=Option.bind ( (bif(decide (x1<0))then none else some ()) ) λ(_:Unit)=>(bits_Mul (IntKind.u64.wrap (x0.length:Int)) (IntKind.u64.wrap x1)).bind λy1=>Option.bind ( (bif((decide (y1.1>0))||(decide (y1.2>9223372036854775807)))then none else some ()) ) λ(_:Unit)=>(cY_ 8 (0:Int) (w64 (y1.2))).bind λy2=>(ae_ je_ BIG (((min x0.length y2.length:Nat):Int),(hB_ y2 x0))).bind λo3=>some (o3)
def kh_(x0:List Int):Option (List Int):=(nilB x0 λ(n1:Bool)=>(bif n1 then some ([])else(room 8 ([]:List Int) x0).bind λy1=>some (y1)))
def aU_(x0:List Int):Option (List Int):=room 8 ([]:List Int) x0
theorem ki_:kh_=aU_:=funext λ_=>nilB_room
def b7_(rec0:regex_machine->Int->(List Int)->Option regex_machine)(x0:regex_machine)(x1:Int)(x2:List Int):Option regex_machine:=(ah_ x0.visited_ x1).bind λy1=>(bif(decide (y1>0))then some (x0)else(ah_ x0.visited_ x1).bind λy2=>(ah_ x0.visited_ x1).bind λ_=>(ah_ x0.r_.Yx x1).bind λy4=>(bif(y4.Op_==7)then(rec0 (regex_machine.mk x0.r_ x0.s_ x0.pos_ (x0.visited_.set x1.toNat (w64 (y2+1))) x0.list_) y4.X_ x2).bind λy5=>some y5 else(bif(y4.Op_==6)then(rec0 (regex_machine.mk x0.r_ x0.s_ x0.pos_ (x0.visited_.set x1.toNat (w64 (y2+1))) x0.list_) y4.X_ x2).bind λy6=>(rec0 y6 y4.Y_ x2).bind λy7=>some y7 else(bif(y4.Op_==8)then(aU_ x2).bind λy8=>(ah_ y8 y4.X_).bind λ_=>(rec0 (regex_machine.mk x0.r_ x0.s_ x0.pos_ (x0.visited_.set x1.toNat (w64 (y2+1))) x0.list_) (w64 (x1+1)) (y8.set y4.X_.toNat x0.pos_)).bind λy10=>some y10 else(bif(y4.Op_==4)then(bif(x0.pos_==0)then(rec0 (regex_machine.mk x0.r_ x0.s_ x0.pos_ (x0.visited_.set x1.toNat (w64 (y2+1))) x0.list_) (w64 (x1+1)) x2).bind λy11=>some y11 else some (regex_machine.mk x0.r_ x0.s_ x0.pos_ (x0.visited_.set x1.toNat (w64 (y2+1))) x0.list_))else(bif(y4.Op_==5)then(bif(x0.pos_==(x0.s_.length:Int))then(rec0 (regex_machine.mk x0.r_ x0.s_ x0.pos_ (x0.visited_.set x1.toNat (w64 (y2+1))) x0.list_) (w64 (x1+1)) x2).bind λy12=>some y12 else some (regex_machine.mk x0.r_ x0.s_ x0.pos_ (x0.visited_.set x1.toNat (w64 (y2+1))) x0.list_))else(room 32 x0.list_ [(regex_thread.mk x1 x2)]).bind λy13=>some (regex_machine.mk x0.r_ x0.s_ x0.pos_ (x0.visited_.set x1.toNat (w64 (y2+1))) y13)))))))
def al_:Nat->regex_machine->Int->(List Int)->Option regex_machine | 0=>λ_ _ _=>none|n+1=>b7_ (al_ n)
def cg_(x0:Xz)(x1:Int)(s2:Bool×Int):Option (Step (Bool×Int) Bool):=(bif(decide ((w64 (s2.2+1))<(x0.Xu.length:Int)))then Option.bind (bif s2.1 then some true else(an_ x0.Xu s2.2).bind λy5=>Option.bind (bif(decide (y5<=x1))then(an_ x0.Xu (w64 (s2.2+1))).bind λy6=>some (decide (x1<=y6))else some false) λ(y7:Bool)=>some y7 ) λ(y8:Bool)=>some (.next (y8,(w64 (s2.2+2))))else some (.done s2.1))
def eE_(x0:Xz)(x1:Int):Option Bool:=(bif(x0.Op_==1)then some ((x0.C_==x1))else(bif(x0.Op_==2)then some ((x1 != 10))else(bif(x0.Op_==3)then(ae_ (cg_ x0 x1) BIG (false,0)).bind λo1=>some ((!(o1==x0.Yq)))else some (false))))
def cw_(s6:(List Int)×Int×(List Xz)×Int×Str×Int×(List Int)×(List regex_thread))(s8:Int×(List regex_thread)):Option (Step (Int×(List regex_thread)) (Out (List regex_thread) ((List Int)×(List regex_thread)))):=(bif(decide (s8.1<(s6.2.2.2.2.2.2.2.length:Int)))then(ah_ s8.2 s8.1).bind λy20=>(ah_ s6.2.2.1 y20.at_).bind λy21=>(bif(y21.Op_==9)then some (.done (.ret (y20.caps_,s8.2)))else some (.next ((w64 (s8.1+1)),s8.2)))else some (.done (.fall s8.2)))
def cT_(o7:(List Int)×Int×(List Xz)×Int×Str×Int×(List Int)×(List regex_thread))(x0:Xk)(y22:Int)(s10:Int×(List Xz)×Int×Str×Int×(List Int)×(List regex_thread)×(List regex_thread)):Option (Step (Int×(List Xz)×Int×Str×Int×(List Int)×(List regex_thread)×(List regex_thread)) ((List Xz)×Int×Str×Int×(List Int)×(List regex_thread))):=(bif(decide (s10.1<(o7.2.2.2.2.2.2.2.length:Int)))then Option.bind ( (ah_ s10.2.2.2.2.2.2.2 s10.1).bind λy28=>(ah_ x0.Yx y28.at_).bind λy29=>(eE_ y29 y22).bind λy30=>(bif y30 then(al_ BIG (regex_machine.mk (Xk.mk s10.2.1 s10.2.2.1) s10.2.2.2.1 s10.2.2.2.2.1 s10.2.2.2.2.2.1 s10.2.2.2.2.2.2.1) (w64 (y28.at_+1)) y28.caps_).bind λy31=>some (y31.r_.Yx,y31.r_.Yj,y31.s_,y31.pos_,y31.visited_,y31.list_,s10.2.2.2.2.2.2.2)else some (s10.2.1,s10.2.2.1,s10.2.2.2.1,s10.2.2.2.2.1,s10.2.2.2.2.2.1,s10.2.2.2.2.2.2.1,s10.2.2.2.2.2.2.2)) ) λ(o9:(List Xz)×Int×Str×Int×(List Int)×(List regex_thread)×(List regex_thread))=>some (.next ((w64 (s10.1+1)),o9.1,o9.2.1,o9.2.2.1,o9.2.2.2.1,o9.2.2.2.2.1,o9.2.2.2.2.2.1,o9.2.2.2.2.2.2))else some (.done (s10.2.1,s10.2.2.1,s10.2.2.2.1,s10.2.2.2.2.1,s10.2.2.2.2.2.1,s10.2.2.2.2.2.2.1)))
def cU_(x3:Bool)(x1:Str)(x0:Xk)(s6:(List Int)×Int×(List Xz)×Int×Str×Int×(List Int)×(List regex_thread)):Option (Step ((List Int)×Int×(List Xz)×Int×Str×Int×(List Int)×(List regex_thread)) (Out Unit ((List Int)×Int))):=Option.bind ( (ae_ (cw_ s6) BIG (0,s6.2.2.2.2.2.2.2)).bind λwo6=>match wo6 with | .ret r2=>(nilB r2.1 λ(n2:Bool)=>(bif((!n2)&&((!x3)||(s6.2.2.2.2.2.1==(x1.length:Int))))then some (r2.1,s6.2.2.2.2.2.1,s6.2.2.1,s6.2.2.2.1,s6.2.2.2.2.1,s6.2.2.2.2.2.1,s6.2.2.2.2.2.2.1,r2.2)else some (s6.1,s6.2.1,s6.2.2.1,s6.2.2.2.1,s6.2.2.2.2.1,s6.2.2.2.2.2.1,s6.2.2.2.2.2.2.1,r2.2))) | .fall o6=>(bif(false&&((!x3)||(s6.2.2.2.2.2.1==(x1.length:Int))))then some ([],s6.2.2.2.2.2.1,s6.2.2.1,s6.2.2.2.1,s6.2.2.2.2.1,s6.2.2.2.2.2.1,s6.2.2.2.2.2.2.1,o6)else some (s6.1,s6.2.1,s6.2.2.1,s6.2.2.2.1,s6.2.2.2.2.1,s6.2.2.2.2.2.1,s6.2.2.2.2.2.2.1,o6)) ) λ(o7:(List Int)×Int×(List Xz)×Int×Str×Int×(List Int)×(List regex_thread))=>(bif((decide (o7.2.2.2.2.2.1>=(x1.length:Int)))||((o7.2.2.2.2.2.2.2.length:Int)==0))then some (.done (.ret ((o7.1,o7.2.1))))else(an_ x1 o7.2.2.2.2.2.1).bind λy22=>(cY_ 8 (0:Int) (o7.2.2.1.length:Int)).bind λy23=>Option.bind (ae_ (cT_ o7 x0 y22) BIG (0,o7.2.2.1,o7.2.2.2.1,o7.2.2.2.2.1,(w64 (o7.2.2.2.2.2.1+1)),y23,[],o7.2.2.2.2.2.2.2)) λ(o10:(List Xz)×Int×Str×Int×(List Int)×(List regex_thread))=>some (.next (o7.1,o7.2.1,o10.1,o10.2.1,o10.2.2.1,o10.2.2.2.1,o10.2.2.2.2.1,o10.2.2.2.2.2)))
def fc_(x0:Xk)(x1:Str)(x2:Int)(x3:Bool):Option ((List Int)×Int):=(cY_ 8 (0:Int) (x0.Yx.length:Int)).bind λy1=>(dm_ [(-1)] (w64 (2*x0.Yj))).bind λy2=>Option.bind (al_ BIG (regex_machine.mk x0 x1 x2 y1 []) 0 y2) λ(y3:regex_machine)=>Option.bind (ae_ (cU_ x3 x1 x0) BIG ([],(-1),y3.r_.Yx,y3.r_.Yj,y3.s_,y3.pos_,y3.visited_,y3.list_)) λ(wo11:Out Unit ((List Int)×Int))=>match wo11 with | .ret r11=>some r11 | .fall _=>none
def b0_(x0:Xk)(x1:Str):Option ((List Int)×Bool):=(fc_ x0 x1 0 true).bind λy1=>(aU_ y1.1).bind λy2=>some ((y2,(decide (y1.2>=0))))
def bn_(x0:plumb_state)(x1:Xp):Option (Bool×plumb_state):=(bu_ x0 x1.Xl).bind λy1=>(bif((!(x1.Xg==[109,97,116,99,104,101,115]))&&(decide ((y1.1.length:Int)>65536)))then some ((false,y1.2))else(bif(x1.Xy==[112,108,117,109,98])then some ((true,(plumb_state.mk y1.2.m_ y1.2.text_ y1.2.caps_ y1.1)))else(bif(x1.Xy==[97,116,116,114])then(cB_ y1.2 x1.Xg y1.1).bind λy2=>some ((y2.1,y2.2))else(bif(x1.Xy==[115,114,99])then(bif(x1.Xg==[105,115])then some (((y1.2.m_.Xd==y1.1),y1.2))else(bif(x1.Xg==[105,115,110])then some (((!(y1.2.m_.Xd==y1.1)),y1.2))else(bif(x1.Xg==[115,101,116])then some ((true,(plumb_state.mk (Xx.mk y1.1 y1.2.m_.Xr y1.2.m_.Xt y1.2.m_.Xf y1.2.m_.Xv y1.2.m_.Xm) y1.2.text_ y1.2.caps_ y1.2.port_)))else(aE_ x1.Xl).bind λy3=>(bif(y3.2.2 != 0)then some ((false,y1.2))else(b0_ y3.1 y1.2.m_.Xd).bind λy4=>Option.bind ( (bif y4.2 then some (y1.2.m_.Xd,y1.2.m_.Xr,y1.2.m_.Xt,y1.2.m_.Xf,y1.2.m_.Xv,y1.2.m_.Xm,y1.2.m_.Xd,y4.1,y1.2.port_)else some (y1.2.m_.Xd,y1.2.m_.Xr,y1.2.m_.Xt,y1.2.m_.Xf,y1.2.m_.Xv,y1.2.m_.Xm,y1.2.text_,y1.2.caps_,y1.2.port_)) ) λ(o1:Str×Str×Str×Str×(List Xq)×Str×Str×(List Int)×Str)=>some ((y4.2,(plumb_state.mk (Xx.mk o1.1 o1.2.1 o1.2.2.1 o1.2.2.2.1 o1.2.2.2.2.1 o1.2.2.2.2.2.1) o1.2.2.2.2.2.2.1 o1.2.2.2.2.2.2.2.1 o1.2.2.2.2.2.2.2.2)))))))else(bif(x1.Xy==[100,115,116])then(bif(x1.Xg==[105,115])then some (((y1.2.m_.Xr==y1.1),y1.2))else(bif(x1.Xg==[105,115,110])then some (((!(y1.2.m_.Xr==y1.1)),y1.2))else(bif(x1.Xg==[115,101,116])then some ((true,(plumb_state.mk (Xx.mk y1.2.m_.Xd y1.1 y1.2.m_.Xt y1.2.m_.Xf y1.2.m_.Xv y1.2.m_.Xm) y1.2.text_ y1.2.caps_ y1.2.port_)))else(aE_ x1.Xl).bind λy5=>(bif(y5.2.2 != 0)then some ((false,y1.2))else(b0_ y5.1 y1.2.m_.Xr).bind λy6=>Option.bind ( (bif y6.2 then some (y1.2.m_.Xd,y1.2.m_.Xr,y1.2.m_.Xt,y1.2.m_.Xf,y1.2.m_.Xv,y1.2.m_.Xm,y1.2.m_.Xr,y6.1,y1.2.port_)else some (y1.2.m_.Xd,y1.2.m_.Xr,y1.2.m_.Xt,y1.2.m_.Xf,y1.2.m_.Xv,y1.2.m_.Xm,y1.2.text_,y1.2.caps_,y1.2.port_)) ) λ(o2:Str×Str×Str×Str×(List Xq)×Str×Str×(List Int)×Str)=>some ((y6.2,(plumb_state.mk (Xx.mk o2.1 o2.2.1 o2.2.2.1 o2.2.2.2.1 o2.2.2.2.2.1 o2.2.2.2.2.2.1) o2.2.2.2.2.2.2.1 o2.2.2.2.2.2.2.2.1 o2.2.2.2.2.2.2.2.2)))))))else(bif(x1.Xy==[119,100,105,114])then(bif(x1.Xg==[105,115])then some (((y1.2.m_.Xt==y1.1),y1.2))else(bif(x1.Xg==[105,115,110])then some (((!(y1.2.m_.Xt==y1.1)),y1.2))else(bif(x1.Xg==[115,101,116])then some ((true,(plumb_state.mk (Xx.mk y1.2.m_.Xd y1.2.m_.Xr y1.1 y1.2.m_.Xf y1.2.m_.Xv y1.2.m_.Xm) y1.2.text_ y1.2.caps_ y1.2.port_)))else(aE_ x1.Xl).bind λy7=>(bif(y7.2.2 != 0)then some ((false,y1.2))else(b0_ y7.1 y1.2.m_.Xt).bind λy8=>Option.bind ( (bif y8.2 then some (y1.2.m_.Xd,y1.2.m_.Xr,y1.2.m_.Xt,y1.2.m_.Xf,y1.2.m_.Xv,y1.2.m_.Xm,y1.2.m_.Xt,y8.1,y1.2.port_)else some (y1.2.m_.Xd,y1.2.m_.Xr,y1.2.m_.Xt,y1.2.m_.Xf,y1.2.m_.Xv,y1.2.m_.Xm,y1.2.text_,y1.2.caps_,y1.2.port_)) ) λ(o3:Str×Str×Str×Str×(List Xq)×Str×Str×(List Int)×Str)=>some ((y8.2,(plumb_state.mk (Xx.mk o3.1 o3.2.1 o3.2.2.1 o3.2.2.2.1 o3.2.2.2.2.1 o3.2.2.2.2.2.1) o3.2.2.2.2.2.2.1 o3.2.2.2.2.2.2.2.1 o3.2.2.2.2.2.2.2.2)))))))else(bif(x1.Xy==[116,121,112,101])then(bif(x1.Xg==[105,115])then some (((y1.2.m_.Xf==y1.1),y1.2))else(bif(x1.Xg==[105,115,110])then some (((!(y1.2.m_.Xf==y1.1)),y1.2))else(bif(x1.Xg==[115,101,116])then some ((true,(plumb_state.mk (Xx.mk y1.2.m_.Xd y1.2.m_.Xr y1.2.m_.Xt y1.1 y1.2.m_.Xv y1.2.m_.Xm) y1.2.text_ y1.2.caps_ y1.2.port_)))else(aE_ x1.Xl).bind λy9=>(bif(y9.2.2 != 0)then some ((false,y1.2))else(b0_ y9.1 y1.2.m_.Xf).bind λy10=>Option.bind ( (bif y10.2 then some (y1.2.m_.Xd,y1.2.m_.Xr,y1.2.m_.Xt,y1.2.m_.Xf,y1.2.m_.Xv,y1.2.m_.Xm,y1.2.m_.Xf,y10.1,y1.2.port_)else some (y1.2.m_.Xd,y1.2.m_.Xr,y1.2.m_.Xt,y1.2.m_.Xf,y1.2.m_.Xv,y1.2.m_.Xm,y1.2.text_,y1.2.caps_,y1.2.port_)) ) λ(o4:Str×Str×Str×Str×(List Xq)×Str×Str×(List Int)×Str)=>some ((y10.2,(plumb_state.mk (Xx.mk o4.1 o4.2.1 o4.2.2.1 o4.2.2.2.1 o4.2.2.2.2.1 o4.2.2.2.2.2.1) o4.2.2.2.2.2.2.1 o4.2.2.2.2.2.2.2.1 o4.2.2.2.2.2.2.2.2)))))))else(bif(x1.Xg==[105,115])then some (((y1.2.m_.Xm==y1.1),y1.2))else(bif(x1.Xg==[105,115,110])then some (((!(y1.2.m_.Xm==y1.1)),y1.2))else(bif(x1.Xg==[115,101,116])then some ((true,(plumb_state.mk (Xx.mk y1.2.m_.Xd y1.2.m_.Xr y1.2.m_.Xt y1.2.m_.Xf y1.2.m_.Xv y1.1) y1.2.text_ y1.2.caps_ y1.2.port_)))else(aE_ x1.Xl).bind λy11=>(bif(y11.2.2 != 0)then some ((false,y1.2))else(b0_ y11.1 y1.2.m_.Xm).bind λy12=>Option.bind ( (bif y12.2 then some (y1.2.m_.Xd,y1.2.m_.Xr,y1.2.m_.Xt,y1.2.m_.Xf,y1.2.m_.Xv,y1.2.m_.Xm,y1.2.m_.Xm,y12.1,y1.2.port_)else some (y1.2.m_.Xd,y1.2.m_.Xr,y1.2.m_.Xt,y1.2.m_.Xf,y1.2.m_.Xv,y1.2.m_.Xm,y1.2.text_,y1.2.caps_,y1.2.port_)) ) λ(o5:Str×Str×Str×Str×(List Xq)×Str×Str×(List Int)×Str)=>some ((y12.2,(plumb_state.mk (Xx.mk o5.1 o5.2.1 o5.2.2.1 o5.2.2.2.1 o5.2.2.2.2.1 o5.2.2.2.2.2.1) o5.2.2.2.2.2.2.1 o5.2.2.2.2.2.2.2.1 o5.2.2.2.2.2.2.2.2))))))))))))))
def b3_(x0:Xw)(s2:Int×Str×Str×Str×Str×(List Xq)×Str×Str×(List Int)×Str):Option (Step (Int×Str×Str×Str×Str×(List Xq)×Str×Str×(List Int)×Str) (Out plumb_state (Xx×Str×Bool))):=(bif(decide (s2.1<(x0.Xh.length:Int)))then(ah_ x0.Xh s2.1).bind λy7=>(bn_ (plumb_state.mk (Xx.mk s2.2.1 s2.2.2.1 s2.2.2.2.1 s2.2.2.2.2.1 s2.2.2.2.2.2.1 s2.2.2.2.2.2.2.1) s2.2.2.2.2.2.2.2.1 s2.2.2.2.2.2.2.2.2.1 s2.2.2.2.2.2.2.2.2.2) y7).bind λy8=>(bif(!y8.1)then some (.done (.ret (((Xx.mk [] [] [] [] [] []),[],false))))else some (.next ((w64 (s2.1+1)),y8.2.m_.Xd,y8.2.m_.Xr,y8.2.m_.Xt,y8.2.m_.Xf,y8.2.m_.Xv,y8.2.m_.Xm,y8.2.text_,y8.2.caps_,y8.2.port_)))else some (.done (.fall (plumb_state.mk (Xx.mk s2.2.1 s2.2.2.1 s2.2.2.2.1 s2.2.2.2.2.1 s2.2.2.2.2.2.1 s2.2.2.2.2.2.2.1) s2.2.2.2.2.2.2.2.1 s2.2.2.2.2.2.2.2.2.1 s2.2.2.2.2.2.2.2.2.2))))
def b9_(x0:Xw)(x1:Xx):Option (Xx×Str×Bool):=(eN_ x0).bind λy1=>Option.bind (bif(!y1)then some true else(bP_ x1).bind λy2=>some (y2 != 0) ) λ(y3:Bool)=>(bif y3 then some (((Xx.mk [] [] [] [] [] []),[],false))else(aH_ x1.Xv).bind λy4=>Option.bind (ae_ (b3_ x0) BIG (0,x1.Xd,x1.Xr,x1.Xt,x1.Xf,y4,x1.Xm,[],[],[])) λ(wo1:Out plumb_state (Xx×Str×Bool))=>match wo1 with | .ret r1=>some r1 | .fall o1=>(bP_ o1.m_).bind λy9=>(bif(y9 != 0)then some (((Xx.mk [] [] [] [] [] []),[],false))else some ((o1.m_,o1.port_,true))))
def id_(f11:Xx->Option (Str×Int))(f13:Str->Option (Xx×Int))(f24:Str->Option ((List Xw)×Int×Int))(f19:Xw->Xx->Option (Xx×Str×Bool)):Option Bool:=Option.bind (f11 (Xx.mk [101,100,105,116] [] [] [116,101,120,116] [(Xq.mk [97] [49] false)] [104,105])) λ(y1:Str×Int)=>(bc_ y1.1 0 (maxI (w64 ((y1.1.length:Int)-1)) 0)).bind λy2=>(f13 y2).bind λy3=>(f24 [100,97,116,97,32,109,97,116,99,104,101,115,32,40,91,97,45,122,93,43,41,92,46,99,10,116,121,112,101,32,115,101,116,32,36,49,10,97,116,116,114,32,97,100,100,32,97,61,49,10,112,108,117,109,98,32,116,111,32,101,100,105,116,10]).bind λy4=>(f24 [115,114,99,32,105,115,32,97]).bind λy5=>(f24 [112,108,117,109,98,32,116,111]).bind λy6=>(bif((y4.1.length:Int) != 1)then some (false)else(ah_ y4.1 0).bind λy7=>Option.bind (f19 y7 (Xx.mk [] [] [] [] [] [109,97,105,110,46,99])) λ(y8:Xx×Str×Bool)=>(ah_ y4.1 0).bind λy9=>Option.bind (f19 y9 (Xx.mk [] [] [] [] [] [109,97,105,110,46,104])) λ(y10:Xx×Str×Bool)=>some (((((((((((((((y1.1==[101,100,105,116,10,10,10,116,101,120,116,10,97,61,49,10,50,10,104,105])&&(y1.2==0))&&(y3.2==3))&&(y4.2.1==0))&&(y4.2.2==0))&&(y5.2.1==2))&&(y5.2.2==50))&&(y6.2.1==1))&&(y6.2.2==50))&&y8.2.2)&&(y8.2.1==[101,100,105,116]))&&(y8.1.Xf==[109,97,105,110]))&&((y8.1.Xv.length:Int)==1))&&(!y10.2.2))))
def cq_  : Option Bool:=id_ jN_ jO_ hJ_ b9_ 
def f7_(x0:Str)(s2:Int):Option (Step Int (Out Unit Int)):=(bif(decide (s2<(x0.length:Int)))then(an_ x0 s2).bind λy2=>(bif(y2==10)then some (.done (.ret (2)))else some (.next (w64 (s2+1))))else some (.done (.fall ())))
def g0_(x0:Str):Option Int:=(bif(decide ((x0.length:Int)>1024))then some (4)else(ae_ (f7_ x0) BIG 0).bind λwo1=>match wo1 with | .ret r1=>some r1 | .fall _=>some (0))
def g1_(x0:Str):Option Bool:=Option.bind (bif(decide ((x0.length:Int)>0))then(an_ x0 0).bind λy1=>some (y1==33)else some false) λ(y2:Bool)=>some (y2)
def f8_(o1:Str)(s2:Int):Option (Step Int (Out Unit Bool)):=(bif(decide (s2<(o1.length:Int)))then(an_ o1 s2).bind λy15=>Option.bind (bif(decide (y15>=97))then(an_ o1 s2).bind λy16=>some (decide (y16<=122))else some false) λ(y17:Bool)=>Option.bind (bif(!y17)then Option.bind (bif(s2==0)then some true else(an_ o1 s2).bind λy18=>Option.bind (bif(decide (y18>=48))then(an_ o1 s2).bind λy19=>some (decide (y19<=57))else some false) λ(y20:Bool)=>Option.bind (bif y20 then some true else(an_ o1 s2).bind λy21=>some (y21==45) ) λ(y22:Bool)=>Option.bind (bif y22 then some true else(an_ o1 s2).bind λy23=>some (y23==95) ) λ(y24:Bool)=>some (!y24) ) λ(y25:Bool)=>some y25 else some false) λ(y26:Bool)=>(bif y26 then some (.done (.ret (false)))else some (.next (w64 (s2+1))))else some (.done (.fall ())))
def iD_(x0:Str):Option Bool:=Option.bind ( (g1_ x0).bind λy1=>(bif y1 then(bc_ x0 1 (x0.length:Int)).bind λy2=>some y2 else some x0) ) λ(o1:Str)=>(ae_ (f8_ o1) BIG 0).bind λwo2=>match wo2 with | .ret r2=>some r2 | .fall _=>some (((decide ((o1.length:Int)>=1))&&(decide ((o1.length:Int)<=32))))
def fx_(x0:Str)(s2:Int):Option (Step Int (Out Unit Bool)):=(bif(decide (s2<(x0.length:Int)))then(an_ x0 s2).bind λy6=>Option.bind (bif(y6==0)then some true else(an_ x0 s2).bind λy7=>some (y7==10) ) λ(y8:Bool)=>Option.bind (bif y8 then some true else(an_ x0 s2).bind λy9=>some (y9==13) ) λ(y10:Bool)=>(bif y10 then some (.done (.ret (false)))else some (.next (w64 (s2+1))))else some (.done (.fall ())))
def hK_(x0:Str):Option Bool:=(ae_ (fx_ x0) BIG 0).bind λwo1=>match wo1 with | .ret r1=>some r1 | .fall _=>some (true)
def g2_(x0:List Xq)(x1:Xq)(s2:Int):Option (Step Int (Out Unit Int)):=(bif(decide (s2<(x0.length:Int)))then(ah_ x0 s2).bind λy5=>(bif(y5.Xc==x1.Xc)then some (.done (.ret (7)))else some (.next (w64 (s2+1))))else some (.done (.fall ())))
def gF_(x0:List Xq)(x1:Xq):Option Int:=(bif(decide ((x0.length:Int)>=32))then some (22)else(iD_ x1.Xc).bind λy1=>(bif(!y1)then some (6)else Option.bind (bif(x1.Xa&&(!(x1.Xn==[])))then some true else(hK_ x1.Xn).bind λy2=>some (!y2) ) λ(y3:Bool)=>(bif y3 then some (2)else(bif(decide ((x1.Xn.length:Int)>1024))then some (4)else(ae_ (g2_ x0 x1) BIG 0).bind λwo1=>match wo1 with | .ret r1=>some r1 | .fall _=>some (0)))))
def fy_(x0:List Xq)(s2:Int):Option (Step Int (Out Unit Int)):=(bif(decide (s2<(x0.length:Int)))then(bc_ x0 0 s2).bind λy4=>(ah_ x0 s2).bind λy5=>(gF_ y4 y5).bind λy6=>(bif(y6 != 0)then some (.done (.ret (y6)))else some (.next (w64 (s2+1))))else some (.done (.fall ())))
def hL_(x0:List Xq):Option Int:=(ae_ (fy_ x0) BIG 0).bind λwo1=>match wo1 with | .ret r1=>some r1 | .fall _=>some (0)
def fz_(s2:Int×(List Str)):Option (Step (Int×(List Str)) (Out Unit Int)):=(bif(decide (s2.1<(s2.2.length:Int)))then(ah_ s2.2 s2.1).bind λy3=>(g0_ y3).bind λy4=>(bif(y4 != 0)then some (.done (.ret (y4)))else some (.next ((w64 (s2.1+1)),s2.2)))else some (.done (.fall ())))
def fA_(x0:Xx)(s4:Int):Option (Step Int (Out Unit Int)):=(bif(decide (s4<(x0.Xv.length:Int)))then(ah_ x0.Xv s4).bind λy7=>(bif y7.Xa then some (.done (.ret (2)))else some (.next (w64 (s4+1))))else some (.done (.fall ())))
def fR_(x0:Xx):Option Int:=(ae_ fz_ BIG (0,[x0.Xd,x0.Xr,x0.Xt,x0.Xf])).bind λwo1=>match wo1 with | .ret r1=>some r1 | .fall _=>(hL_ x0.Xv).bind λy5=>(bif(y5 != 0)then some (y5)else(ae_ (fA_ x0) BIG 0).bind λwo2=>match wo2 with | .ret r2=>some r2 | .fall _=>(bif(decide ((x0.Xm.length:Int)>65536))then some (4)else some (0)))
def fS_(x0:Int):Option Bool:=some (((x0==32)||(x0==9)))
def fB_(x0:Str)(x1:Int):Option Bool:=Option.bind (bif(x1==(x0.length:Int))then some true else(an_ x0 x1).bind λy1=>(fS_ y1).bind λy2=>some y2 ) λ(y3:Bool)=>some (y3)
def b5_(x0:Str)(s2:Int×Str):Option (Step (Int×Str) (Out Int (Str×Int×Int))):=(bif(decide (s2.1<(x0.length:Int)))then(an_ x0 s2.1).bind λy7=>(bif(y7 != 39)then(bc_ x0 s2.1 (w64 (s2.1+1))).bind λy8=>(cat s2.2 y8).bind λy9=>some (.next ((w64 (s2.1+1)),y9))else Option.bind (bif((w64 (s2.1+1))==(x0.length:Int))then some true else(an_ x0 (w64 (s2.1+1))).bind λy10=>some (y10 != 39) ) λ(y11:Bool)=>(bif y11 then some (.done (.ret ((s2.2,(w64 (s2.1+1)),0))))else(cat s2.2 [39]).bind λy12=>some (.next ((w64 (s2.1+2)),y12))))else some (.done (.fall s2.1)))
def g3_(x0:Str)(x1:Int):Option (Str×Int×Int):=Option.bind (ae_ (b5_ x0) BIG (x1,[])) λ(wo1:Out Int (Str×Int×Int))=>match wo1 with | .ret r1=>some r1 | .fall o1=>some (([],o1,48))
def eF_(x0:Str)(s2:Int):Option (Step Int Int):=Option.bind (bif(decide (s2<(x0.length:Int)))then(an_ x0 s2).bind λy10=>(fS_ y10).bind λy11=>some (!y11)else some false) λ(y12:Bool)=>Option.bind (bif y12 then(an_ x0 s2).bind λy13=>some (y13 != 61)else some false) λ(y14:Bool)=>Option.bind (bif y14 then(an_ x0 s2).bind λy15=>some (y15 != 63)else some false) λ(y16:Bool)=>Option.bind (bif y16 then(an_ x0 s2).bind λy17=>some (y17 != 39)else some false) λ(y18:Bool)=>(bif y18 then some (.next (w64 (s2+1)))else some (.done s2))
def c8_(x0:Str)(y19:Str)(s4:Int):Option (Step Int (Out Int (Xq×Int×Int))):=(fB_ x0 s4).bind λy33=>(bif(!y33)then(an_ x0 s4).bind λy34=>(bif(y34==39)then some (.done (.ret (((Xq.mk y19 [] false),s4,2))))else some (.next (w64 (s4+1))))else some (.done (.fall s4)))
def iE_(x0:Str)(x1:Int):Option (Xq×Int×Int):=(ae_ (eF_ x0) BIG x1).bind λo1=>(bc_ x0 x1 o1).bind λy19=>Option.bind (bif(decide (o1<(x0.length:Int)))then(an_ x0 o1).bind λy20=>some (y20==63)else some false) λ(y21:Bool)=>Option.bind (bif y21 then(fB_ x0 (w64 (o1+1))).bind λy22=>some y22 else some false) λ(y23:Bool)=>(bif y23 then some (((Xq.mk y19 [] true),(w64 (o1+1)),0))else Option.bind (bif(o1==(x0.length:Int))then some true else(an_ x0 o1).bind λy24=>some (y24 != 61) ) λ(y25:Bool)=>(bif y25 then some (((Xq.mk y19 [] false),o1,2))else Option.bind (bif(decide ((w64 (o1+1))<(x0.length:Int)))then(an_ x0 (w64 (o1+1))).bind λy26=>some (y26==39)else some false) λ(y27:Bool)=>(bif y27 then(g3_ x0 (w64 ((w64 (o1+1))+1))).bind λy28=>Option.bind ( Option.bind (bif(y28.2.2==0)then(fB_ x0 y28.2.1).bind λy29=>some (!y29)else some false) λ(y30:Bool)=>(bif y30 then some 2 else some y28.2.2) ) λ(o2:Int)=>some (((Xq.mk y19 y28.1 false),y28.2.1,o2))else(ae_ (c8_ x0 y19) BIG (w64 (o1+1))).bind λwo3=>match wo3 with | .ret r3=>some r3 | .fall o3=>(bc_ x0 (w64 (o1+1)) o3).bind λy35=>some (((Xq.mk y19 y35 false),o3,0)))))
def ek_(x0:Str)(s6:Int):Option (Step Int Int):=Option.bind (bif(decide (s6<(x0.length:Int)))then(an_ x0 s6).bind λy13=>(fS_ y13).bind λy14=>some y14 else some false) λ(y15:Bool)=>(bif y15 then some (.next (w64 (s6+1)))else some (.done s6))
def dv_(x0:Str)(s4:Int×(List Xq)):Option (Step (Int×(List Xq)) (Out Unit ((List Xq)×Int×Int))):=(ae_ (ek_ x0) BIG s4.1).bind λo3=>(bif(o3==(x0.length:Int))then some (.done (.ret ((s4.2,0,0))))else(iE_ x0 o3).bind λy16=>Option.bind ( (bif(y16.2.2==0)then(gF_ s4.2 y16.1).bind λy17=>some y17 else some y16.2.2) ) λ(o4:Int)=>(bif(o4 != 0)then some (.done (.ret (([],o3,o4))))else(room 40 s4.2 [y16.1]).bind λy18=>some (.next (y16.2.1,y18))))
def hM_(x0:Str):Option ((List Xq)×Int×Int):=(ae_ (dv_ x0) BIG (0,[])).bind λwo5=>match wo5 with | .ret r5=>some r5 | .fall _=>none
def dT_(x0:List Xq)(x1:List Xq)(s2:Int):Option (Step Int (Out Unit Bool)):=(bif(decide (s2<(x0.length:Int)))then(ah_ x0 s2).bind λy3=>(ah_ x1 s2).bind λy4=>(bif(!(decide (y3=y4)))then some (.done (.ret (false)))else some (.next (w64 (s2+1))))else some (.done (.fall ())))
def e2_(x0:List Xq)(x1:List Xq):Option Bool:=(bif((x0.length:Int) != (x1.length:Int))then some (false)else(ae_ (dT_ x0 x1) BIG 0).bind λwo1=>match wo1 with | .ret r1=>some r1 | .fall _=>some (true))
def fC_(x0:Xx)(x1:Xx):Option Bool:=Option.bind (bif(((((x0.Xd==x1.Xd)&&(x0.Xr==x1.Xr))&&(x0.Xt==x1.Xt))&&(x0.Xf==x1.Xf))&&(x0.Xm==x1.Xm))then(e2_ x0.Xv x1.Xv).bind λy1=>some y1 else some false) λ(y2:Bool)=>some (y2)
def g4_(y8:Xw)(x0:List Xw)(s4:Int×Int)(s6:Int):Option (Step Int (Out Unit Bool)):=(bif(decide (s6<(y8.Xh.length:Int)))then(ah_ x0 s4.2).bind λy11=>(ah_ y11.Xh s6).bind λy12=>(bif((decide ((w64 ((y12.Xy.length:Int)+(y12.Xg.length:Int)))>100))||(decide ((y12.Xl.length:Int)>1100)))then some (.done (.ret (false)))else some (.next (w64 (s6+1))))else some (.done (.fall ())))
def dB_(x0:List Xw)(s4:Int×Int):Option (Step (Int×Int) (Out Unit Bool)):=(bif(decide (s4.2<(x0.length:Int)))then(ah_ x0 s4.2).bind λy7=>(bif(decide ((w64 (s4.1+(minI (y7.Xh.length:Int) 1000)))>100))then some (.done (.ret (false)))else(ah_ x0 s4.2).bind λy8=>(ae_ (g4_ y8 x0 s4) BIG 0).bind λwo2=>match wo2 with | .ret r2=>some (.done (.ret r2)) | .fall _=>some (.next ((w64 (s4.1+(minI (y7.Xh.length:Int) 1000))),(w64 (s4.2+1)))))else some (.done (.fall ())))
def js_(x0:List Xw):Option Bool:=(bif(decide ((x0.length:Int)>70))then some (false)else(ae_ (dB_ x0) BIG (0,0)).bind λwo3=>match wo3 with | .ret r3=>some r3 | .fall _=>some (true))
def f9_(y9:Xw)(x0:List Xw)(s4:Int)(s6:Int):Option (Step Int (Out Unit Bool)):=(bif(decide (s6<(y9.Xh.length:Int)))then(ah_ x0 s4).bind λy12=>(ah_ y12.Xh s6).bind λy13=>(bif(decide ((y13.Xl.length:Int)>40))then some (.done (.ret (false)))else some (.next (w64 (s6+1))))else some (.done (.fall ())))
def ga_(x0:List Xw)(s4:Int):Option (Step Int (Out Unit Bool)):=(bif(decide (s4<(x0.length:Int)))then(ah_ x0 s4).bind λy9=>(ae_ (f9_ y9 x0 s4) BIG 0).bind λwo2=>match wo2 with | .ret r2=>some (.done (.ret r2)) | .fall _=>some (.next (w64 (s4+1)))else some (.done (.fall ())))
def g5_(x0:List Xw)(x1:Xx):Option Bool:=(js_ x0).bind λy1=>Option.bind (bif(!y1)then some true else(fP_ x1).bind λy2=>some (!y2) ) λ(y3:Bool)=>(bif(y3||(decide ((w64 ((w64 ((w64 ((w64 ((x1.Xd.length:Int)+(x1.Xr.length:Int)))+(x1.Xt.length:Int)))+(x1.Xf.length:Int)))+(x1.Xm.length:Int)))>60)))then some (false)else(ae_ (ga_ x0) BIG 0).bind λwo3=>match wo3 with | .ret r3=>some r3 | .fall _=>some ((decide ((x0.length:Int)<=8))))
def fT_(x0:Str):Option Bool:=some ((((((x0==[115,114,99])||(x0==[100,115,116]))||(x0==[119,100,105,114]))||(x0==[116,121,112,101]))||(x0==[100,97,116,97])))
def aN_(x0:Xj)(x1:Xz):Option Xj:=(room 56 x0.L_ [x1]).bind λy1=>some ((Xj.mk y1 x0.At_ x0.N_ x0.Xi))
def bI_(x0:Str)(x1:Xj)(x2:Int):Option (Bool×Xj):=Option.bind (bif((!x1.Xi)&&(decide (x1.At_<(x0.length:Int))))then(an_ x0 x1.At_).bind λy1=>some (y1==x2)else some false) λ(y2:Bool)=>some ((y2,x1))
def fD_(x0:Str)(s2:Int×Int×Bool×(List Xz)×(List Int)):Option (Step (Int×Int×Bool×(List Xz)×(List Int)) (Out (Int×Int×Bool×(List Xz)×(List Int)) Xj)):=Option.bind (bif(decide (s2.1<(x0.length:Int)))then(an_ x0 s2.1).bind λy17=>some ((y17 != 93)||((s2.2.2.2.2.length:Int)==0))else some false) λ(y18:Bool)=>(bif y18 then(an_ x0 s2.1).bind λy19=>Option.bind (bif(y19==93)then some true else(an_ x0 s2.1).bind λy20=>some (y20==45) ) λ(y21:Bool)=>(bif y21 then some (.done (.ret ((Xj.mk s2.2.2.2.1 s2.1 s2.2.1 true))))else Option.bind ( (an_ x0 s2.1).bind λy22=>(bif(y22 != 92)then some (y22,s2.2.2.2.1,(w64 (s2.1+1)),s2.2.1,s2.2.2.1)else(bif((w64 (s2.1+1))==(x0.length:Int))then some (0,s2.2.2.2.1,(w64 (s2.1+1)),s2.2.1,true)else(an_ x0 (w64 (s2.1+1))).bind λy23=>(bif(y23==110)then some (10,s2.2.2.2.1,(w64 ((w64 (s2.1+1))+1)),s2.2.1,s2.2.2.1)else(bif(y23==116)then some (9,s2.2.2.2.1,(w64 ((w64 (s2.1+1))+1)),s2.2.1,s2.2.2.1)else some (y23,s2.2.2.2.1,(w64 ((w64 (s2.1+1))+1)),s2.2.1,s2.2.2.1))))) ) λ(o5:Int×(List Xz)×Int×Int×Bool)=>Option.bind ( (bI_ x0 (Xj.mk o5.2.1 o5.2.2.1 o5.2.2.2.1 o5.2.2.2.2) 45).bind λy24=>(bif y24.1 then Option.bind (bif((w64 (o5.2.2.1+1))==(x0.length:Int))then some true else(an_ x0 (w64 (o5.2.2.1+1))).bind λy25=>some (y25==93) ) λ(y26:Bool)=>Option.bind (bif y26 then some true else(an_ x0 (w64 (o5.2.2.1+1))).bind λy27=>some (y27==45) ) λ(y28:Bool)=>(bif y28 then some (.ret ((Xj.mk y24.2.L_ (w64 (o5.2.2.1+1)) o5.2.2.2.1 true)))else Option.bind ( (an_ x0 (w64 (o5.2.2.1+1))).bind λy29=>(bif(y29 != 92)then some (y29,y24.2.L_,(w64 ((w64 (o5.2.2.1+1))+1)),o5.2.2.2.1,o5.2.2.2.2)else(bif((w64 ((w64 (o5.2.2.1+1))+1))==(x0.length:Int))then some (0,y24.2.L_,(w64 ((w64 (o5.2.2.1+1))+1)),o5.2.2.2.1,true)else(an_ x0 (w64 ((w64 (o5.2.2.1+1))+1))).bind λy30=>(bif(y30==110)then some (10,y24.2.L_,(w64 ((w64 ((w64 (o5.2.2.1+1))+1))+1)),o5.2.2.2.1,o5.2.2.2.2)else(bif(y30==116)then some (9,y24.2.L_,(w64 ((w64 ((w64 (o5.2.2.1+1))+1))+1)),o5.2.2.2.1,o5.2.2.2.2)else some (y30,y24.2.L_,(w64 ((w64 ((w64 (o5.2.2.1+1))+1))+1)),o5.2.2.2.1,o5.2.2.2.2))))) ) λ(o6:Int×(List Xz)×Int×Int×Bool)=>(bif((!o6.2.2.2.2)&&(decide (o6.1<o5.1)))then some (.fall (o6.1,o6.2.1,(maxI (w64 (o5.2.2.1+1)) (w64 (o6.2.2.1-1))),o6.2.2.2.1,true))else some (.fall (o6.1,o6.2.1,o6.2.2.1,o6.2.2.2.1,o6.2.2.2.2))))else some (.fall (o5.1,y24.2.L_,o5.2.2.1,o5.2.2.2.1,o5.2.2.2.2))) ) λ(wo7:Out (Int×(List Xz)×Int×Int×Bool) Xj)=>match wo7 with | .ret r7=>some (.done (.ret r7)) | .fall o7=>(bif o7.2.2.2.2 then some (.done (.ret ((Xj.mk o7.2.1 o7.2.2.1 o7.2.2.2.1 o7.2.2.2.2))))else(room 1 s2.2.2.2.2 [o5.1,o7.1]).bind λy31=>some (.next (o7.2.2.1,o7.2.2.2.1,o7.2.2.2.2,o7.2.1,y31))))else some (.done (.fall (s2.1,s2.2.1,s2.2.2.1,s2.2.2.2.1,s2.2.2.2.2))))
def fU_(x0:Str)(x1:Xj):Option Xj:=Option.bind ( (bI_ x0 (Xj.mk x1.L_ (w64 (x1.At_+1)) x1.N_ x1.Xi) 94).bind λy1=>(bif y1.1 then some ((w64 ((w64 (x1.At_+1))+1)),x1.N_,x1.Xi,y1.2.L_,(Xz.mk 3 0 [] true 0 0))else some ((w64 (x1.At_+1)),x1.N_,x1.Xi,y1.2.L_,(Xz.mk 3 0 [] false 0 0))) ) λ(o1:Int×Int×Bool×(List Xz)×Xz)=>Option.bind (ae_ (fD_ x0) BIG (o1.1,o1.2.1,o1.2.2.1,o1.2.2.2.1,[])) λ(wo8:Out (Int×Int×Bool×(List Xz)×(List Int)) Xj)=>match wo8 with | .ret r8=>some r8 | .fall o8=>(bif(o8.1==(x0.length:Int))then some ((Xj.mk o8.2.2.2.1 o8.1 o8.2.1 true))else(aN_ (Xj.mk o8.2.2.2.1 (w64 (o8.1+1)) o8.2.1 o8.2.2.1) (Xz.mk o1.2.2.2.2.Op_ o1.2.2.2.2.C_ (bytesS o8.2.2.2.2) o1.2.2.2.2.Yq o1.2.2.2.2.X_ o1.2.2.2.2.Y_)).bind λy32=>some (y32))
def gq_(x0:Int)(s2:Int):Option (Step Int (Out Unit Bool)):=(bif(decide (s2<([40,41,124,42,43,63,46,94,36,91,92].length:Int)))then(an_ [40,41,124,42,43,63,46,94,36,91,92] s2).bind λy2=>(bif(y2==x0)then some (.done (.ret (true)))else some (.next (w64 (s2+1))))else some (.done (.fall ())))
def gb_(x0:Int):Option Bool:=(ae_ (gq_ x0) BIG 0).bind λwo1=>match wo1 with | .ret r1=>some r1 | .fall _=>some (false)
def bo_(f94:Str->Xj->Option Xj)(x0:Str)(x1:Xj):Option Xj:=(an_ x0 x1.At_).bind λy1=>Option.bind ( (bif(y1==40)then(bif(decide (x1.N_>=9))then some (.ret ((Xj.mk x1.L_ x1.At_ x1.N_ true)))else Option.bind (aN_ (Xj.mk x1.L_ (w64 (x1.At_+1)) (w64 (x1.N_+1)) x1.Xi) (Xz.mk 8 0 [] false (w64 (2*(w64 (x1.N_+1)))) 0)) λ(y2:Xj)=>(f94 x0 y2).bind λy3=>(bI_ x0 y3 41).bind λy4=>(bif(!y4.1)then some (.ret ((Xj.mk y4.2.L_ y3.At_ y3.N_ true)))else Option.bind (aN_ (Xj.mk y4.2.L_ y3.At_ y3.N_ y3.Xi) (Xz.mk 8 0 [] false (w64 ((w64 (2*(w64 (x1.N_+1))))+1)) 0)) λ(y5:Xj)=>some (.fall (y5.At_,y5.N_,y5.Xi,y5.L_))))else(bif(y1==46)then Option.bind (aN_ x1 (Xz.mk 2 0 [] false 0 0)) λ(y6:Xj)=>some (.fall (y6.At_,y6.N_,y6.Xi,y6.L_))else(bif(y1==94)then Option.bind (aN_ x1 (Xz.mk 4 0 [] false 0 0)) λ(y7:Xj)=>some (.fall (y7.At_,y7.N_,y7.Xi,y7.L_))else(bif(y1==36)then Option.bind (aN_ x1 (Xz.mk 5 0 [] false 0 0)) λ(y8:Xj)=>some (.fall (y8.At_,y8.N_,y8.Xi,y8.L_))else(bif(y1==91)then(fU_ x0 x1).bind λy9=>some (.ret (y9))else(gb_ y1).bind λy10=>(bif(y10&&(y1 != 92))then some (.ret ((Xj.mk x1.L_ x1.At_ x1.N_ true)))else Option.bind ( (an_ x0 x1.At_).bind λy11=>(bif(y11 != 92)then some (y11,(w64 (x1.At_+1)),x1.N_,x1.Xi,x1.L_)else(bif((w64 (x1.At_+1))==(x0.length:Int))then some (0,(w64 (x1.At_+1)),x1.N_,true,x1.L_)else(an_ x0 (w64 (x1.At_+1))).bind λy12=>(bif(y12==110)then some (10,(w64 ((w64 (x1.At_+1))+1)),x1.N_,x1.Xi,x1.L_)else(bif(y12==116)then some (9,(w64 ((w64 (x1.At_+1))+1)),x1.N_,x1.Xi,x1.L_)else some (y12,(w64 ((w64 (x1.At_+1))+1)),x1.N_,x1.Xi,x1.L_))))) ) λ(o1:Int×Int×Int×Bool×(List Xz))=>(bif o1.2.2.2.1 then some (.ret ((Xj.mk o1.2.2.2.2 o1.2.1 o1.2.2.1 o1.2.2.2.1)))else Option.bind (aN_ (Xj.mk o1.2.2.2.2 o1.2.1 o1.2.2.1 o1.2.2.2.1) (Xz.mk 1 o1.1 [] false 0 0)) λ(y13:Xj)=>some (.ret (y13))))))))) ) λ(wo2:Out (Int×Int×Bool×(List Xz)) Xj)=>match wo2 with | .ret r2=>some r2 | .fall o2=>some ((Xj.mk o2.2.2.2 (w64 (o2.1+1)) o2.2.1 o2.2.2.1))
def dU_(s2:Int×(List Xz)×(List Xz)):Option (Step (Int×(List Xz)×(List Xz)) ((List Xz)×(List Xz))):=(bif(decide (s2.1<(s2.2.1.length:Int)))then(ah_ s2.2.1 s2.1).bind λy6=>Option.bind ( (bif((y6.Op_==6)||(y6.Op_==7))then some (Xz.mk y6.Op_ y6.C_ y6.Xu y6.Yq (w64 (y6.X_+1)) y6.Y_)else some y6) ) λ(o3:Xz)=>Option.bind ( (bif(o3.Op_==6)then some (Xz.mk o3.Op_ o3.C_ o3.Xu o3.Yq o3.X_ (w64 (o3.Y_+1)))else some o3) ) λ(o4:Xz)=>(room 56 s2.2.2 [o4]).bind λy7=>some (.next ((w64 (s2.1+1)),s2.2.1,y7))else some (.done (s2.2.1,s2.2.2)))
def el_(x0:Xj)(x1:Int)(x2:Xz):Option Xj:=(bc_ x0.L_ 0 x1).bind λ_=>(room 56 ([]:List Xz) (x0.L_.take x1.toNat)).bind λy2=>(room 56 y2 [x2]).bind λy3=>(ae_ dU_ BIG (x1,x0.L_,y3)).bind λo5=>some ((Xj.mk o5.2 x0.At_ x0.N_ x0.Xi))
def c9_(f94:Str->Xj->Option Xj)(x0:Str)(x1:Xj):Option Xj:=(bo_ f94 x0 x1).bind λy1=>Option.bind ( (bI_ x0 y1 42).bind λy2=>(bif y2.1 then Option.bind (el_ (Xj.mk y2.2.L_ (w64 (y1.At_+1)) y1.N_ y1.Xi) (x1.L_.length:Int) (Xz.mk 6 0 [] false (w64 ((x1.L_.length:Int)+1)) 0)) λ(y3:Xj)=>Option.bind (aN_ y3 (Xz.mk 7 0 [] false (x1.L_.length:Int) 0)) λ(y4:Xj)=>(ah_ y4.L_ (x1.L_.length:Int)).bind λy5=>some (y4.At_,y4.N_,y4.Xi,(y4.L_.set (x1.L_.length:Int).toNat (Xz.mk y5.Op_ y5.C_ y5.Xu y5.Yq y5.X_ (y4.L_.length:Int))))else(bI_ x0 (Xj.mk y2.2.L_ y1.At_ y1.N_ y1.Xi) 43).bind λy6=>(bif y6.1 then Option.bind (aN_ (Xj.mk y6.2.L_ (w64 (y1.At_+1)) y1.N_ y1.Xi) (Xz.mk 6 0 [] false (x1.L_.length:Int) (w64 ((y6.2.L_.length:Int)+1)))) λ(y7:Xj)=>some (y7.At_,y7.N_,y7.Xi,y7.L_)else(bI_ x0 (Xj.mk y6.2.L_ y1.At_ y1.N_ y1.Xi) 63).bind λy8=>(bif y8.1 then Option.bind (el_ (Xj.mk y8.2.L_ (w64 (y1.At_+1)) y1.N_ y1.Xi) (x1.L_.length:Int) (Xz.mk 6 0 [] false (w64 ((x1.L_.length:Int)+1)) 0)) λ(y9:Xj)=>(ah_ y9.L_ (x1.L_.length:Int)).bind λy10=>some (y9.At_,y9.N_,y9.Xi,(y9.L_.set (x1.L_.length:Int).toNat (Xz.mk y10.Op_ y10.C_ y10.Xu y10.Yq y10.X_ (y9.L_.length:Int))))else some (y1.At_,y1.N_,y1.Xi,y8.2.L_)))) ) λ(o1:Int×Int×Bool×(List Xz))=>some ((Xj.mk o1.2.2.2 o1.1 o1.2.1 o1.2.2.1))
def bD_(x0:Str)(f94:Str->Xj->Option Xj)(s2:Int×Int×Bool×(List Xz)):Option (Step (Int×Int×Bool×(List Xz)) (Int×Int×Bool×(List Xz))):=Option.bind (bif((!s2.2.2.1)&&(decide (s2.1<(x0.length:Int))))then(an_ x0 s2.1).bind λy6=>some (y6 != 124)else some false) λ(y7:Bool)=>Option.bind (bif y7 then(an_ x0 s2.1).bind λy8=>some (y8 != 41)else some false) λ(y9:Bool)=>(bif y9 then(c9_ f94 x0 (Xj.mk s2.2.2.2 s2.1 s2.2.1 s2.2.2.1)).bind λy10=>some (.next (y10.At_,y10.N_,y10.Xi,y10.L_))else some (.done (s2.1,s2.2.1,s2.2.2.1,s2.2.2.2)))
def em_(f94:Str->Xj->Option Xj)(x0:Str)(x1:Xj):Option Xj:=(ae_ (bD_ x0 f94) BIG (x1.At_,x1.N_,x1.Xi,x1.L_)).bind λo1=>some ((Xj.mk o1.2.2.2 o1.1 o1.2.1 o1.2.2.1))
def dI_(rec0:Str->Xj->Option Xj)(x0:Str)(x1:Xj):Option Xj:=(em_ rec0 x0 x1).bind λy1=>(bI_ x0 y1 124).bind λy2=>(bif(!y2.1)then some ((Xj.mk y2.2.L_ y1.At_ y1.N_ y1.Xi))else Option.bind (el_ (Xj.mk y2.2.L_ (w64 (y1.At_+1)) y1.N_ y1.Xi) (x1.L_.length:Int) (Xz.mk 6 0 [] false (w64 ((x1.L_.length:Int)+1)) 0)) λ(y3:Xj)=>Option.bind (aN_ y3 (Xz.mk 7 0 [] false 0 0)) λ(y4:Xj)=>(ah_ y4.L_ (x1.L_.length:Int)).bind λy5=>(rec0 x0 (Xj.mk (y4.L_.set (x1.L_.length:Int).toNat (Xz.mk y5.Op_ y5.C_ y5.Xu y5.Yq y5.X_ (y4.L_.length:Int))) y4.At_ y4.N_ y4.Xi)).bind λy6=>(ah_ y6.L_ (y3.L_.length:Int)).bind λy7=>some ((Xj.mk (y6.L_.set (y3.L_.length:Int).toNat (Xz.mk y7.Op_ y7.C_ y7.Xu y7.Yq (y6.L_.length:Int) y7.Y_)) y6.At_ y6.N_ y6.Xi)))
def aB_:Nat->Str->Xj->Option Xj | 0=>λ_ _=>none|n+1=>dI_ (aB_ n)
def bL_(x0:Str):Option (Xk×Int×Int):=(bif(decide ((x0.length:Int)>256))then some (((Xk.mk [] 0),0,4))else Option.bind (aN_ (Xj.mk [] 0 0 false) (Xz.mk 8 0 [] false 0 0)) λ(y1:Xj)=>(aB_ BIG x0 y1).bind λy2=>(bif(y2.Xi||(decide (y2.At_<(x0.length:Int))))then some (((Xk.mk [] 0),y2.At_,49))else Option.bind (aN_ y2 (Xz.mk 8 0 [] false 1 0)) λ(y3:Xj)=>Option.bind (aN_ y3 (Xz.mk 9 0 [] false 0 0)) λ(y4:Xj)=>some (((Xk.mk y4.L_ (w64 (y4.N_+1))),0,0))))
def gc_(x0:Xp):Option Bool:=Option.bind (bif(x0.Xl==[])then some true else(g0_ x0.Xl).bind λy1=>some (y1 != 0) ) λ(y2:Bool)=>(bif y2 then some (false)else Option.bind ( (bif(x0.Xg==[105,115])then some (x0.Xg==[105,115])else some (x0.Xg==[105,115,110])) ) λ(o1:Bool)=>(bif o1 then(fT_ x0.Xy).bind λy3=>some ((y3||(x0.Xy==[97,116,116,114])))else(bif(x0.Xg==[115,101,116])then(fT_ x0.Xy).bind λy4=>some (y4)else(bif(x0.Xg==[109,97,116,99,104,101,115])then(bL_ x0.Xl).bind λy5=>(fT_ x0.Xy).bind λy6=>some ((y6&&(y5.2.2==0)))else Option.bind ( (bif(x0.Xg==[97,100,100])then some (x0.Xg==[97,100,100])else some (x0.Xg==[100,101,108,101,116,101])) ) λ(o2:Bool)=>(bif o2 then some ((x0.Xy==[97,116,116,114]))else(bif(x0.Xg==[116,111])then some ((x0.Xy==[112,108,117,109,98]))else some (false)))))))
def hv_(x0:Xw)(s2:Int):Option (Step Int (Out Unit Bool)):=(bif(decide (s2<(x0.Xh.length:Int)))then(ah_ x0.Xh s2).bind λy5=>(gc_ y5).bind λy6=>Option.bind (bif(!y6)then some true else(ah_ x0.Xh s2).bind λy7=>some (!((y7.Xy==[112,108,117,109,98])==(s2==(w64 ((x0.Xh.length:Int)-1))))) ) λ(y8:Bool)=>(bif y8 then some (.done (.ret (false)))else some (.next (w64 (s2+1))))else some (.done (.fall ())))
def hN_(x0:Xw):Option Bool:=(bif((decide ((x0.Xh.length:Int)<1))||(decide ((x0.Xh.length:Int)>32)))then some (false)else(ae_ (hv_ x0) BIG 0).bind λwo1=>match wo1 with | .ret r1=>some r1 | .fall _=>some (true))
def ca_(x0:Xx)(x1:Str):Option Str:=(bif(x1==[115,114,99])then some (x0.Xd)else(bif(x1==[100,115,116])then some (x0.Xr)else(bif(x1==[119,100,105,114])then some (x0.Xt)else(bif(x1==[116,121,112,101])then some (x0.Xf)else some (x0.Xm)))))
def eb_(x0:Str)(x1:Int)(x2:Xx)(s2:(List Str)×Int):Option (Step ((List Str)×Int) (Out Unit (Str×Int))):=(bif(decide (s2.2<(s2.1.length:Int)))then(ah_ s2.1 s2.2).bind λy15=>Option.bind (bif(decide ((w64 ((w64 ((x0.length:Int)-x1))-1))>=(y15.length:Int)))then(bc_ x0 (w64 (x1+1)) (w64 ((w64 (x1+1))+(y15.length:Int)))).bind λy16=>(ah_ s2.1 s2.2).bind λy17=>some (y16==y17)else some false) λ(y18:Bool)=>(bif y18 then(ah_ s2.1 s2.2).bind λy19=>(ca_ x2 y19).bind λy20=>some (.done (.ret ((y20,(w64 ((y15.length:Int)+1))))))else some (.next (s2.1,(w64 (s2.2+1)))))else some (.done (.fall ())))
def dw_(x0:Str)(x1:Int)(x2:Xx)(x3:Yz):Option (Str×Int):=(bif(decide ((w64 (x1+1))>=(x0.length:Int)))then some (([],0))else(an_ x0 (w64 (x1+1))).bind λy1=>(bif(y1==36)then some (([36],2))else(bif((decide (y1>=48))&&(decide (y1<=57)))then Option.bind (bif(decide ((w64 ((w64 (2*(w64 ((IntKind.u8.wrap (y1-48))))))+1))<(x3.At_.length:Int)))then(ah_ x3.At_ (w64 (2*(w64 ((IntKind.u8.wrap (y1-48))))))).bind λy2=>some (decide (y2>=0))else some false) λ(y3:Bool)=>Option.bind (bif y3 then(ah_ x3.At_ (w64 ((w64 (2*(w64 ((IntKind.u8.wrap (y1-48))))))+1))).bind λy4=>some (decide (y4>=0))else some false) λ(y5:Bool)=>(bif y5 then(ah_ x3.At_ (w64 (2*(w64 ((IntKind.u8.wrap (y1-48))))))).bind λy6=>(ah_ x3.At_ (w64 ((w64 (2*(w64 ((IntKind.u8.wrap (y1-48))))))+1))).bind λy7=>(bc_ x3.S_ y6 y7).bind λy8=>some ((y8,2))else some (([],2)))else(ae_ (eb_ x0 x1 x2) BIG ([[115,114,99],[100,115,116],[119,100,105,114],[116,121,112,101],[100,97,116,97]],0)).bind λwo1=>match wo1 with | .ret r1=>some r1 | .fall _=>some (([],0)))))
def cx_(x0:Str)(x1:Xx)(x2:Yz)(s2:Str×Int):Option (Step (Str×Int) Str):=(bif(decide (s2.2<(x0.length:Int)))then Option.bind ( (an_ x0 s2.2).bind λy5=>(bif(y5==36)then(dw_ x0 s2.2 x1 x2).bind λy6=>some (y6.1,y6.2)else some ([],0)) ) λ(o3:Str×Int)=>Option.bind ( (bif(o3.2==0)then(bc_ x0 s2.2 (w64 (s2.2+1))).bind λy7=>some (y7,1)else some (o3.1,o3.2)) ) λ(o4:Str×Int)=>(cat s2.1 o4.1).bind λy8=>some (.next (y8,(w64 (s2.2+o4.2))))else some (.done s2.1))
def en_(x0:Str)(x1:Xx)(x2:Yz):Option Str:=Option.bind (ae_ (cx_ x0 x1 x2) BIG ([],0)) λ(o5:Str)=>some (o5)
def ez_(x0:List Xq)(x1:Str)(s2:Int×(List Xq)):Option (Step (Int×(List Xq)) (List Xq)):=(bif(decide (s2.1<(x0.length:Int)))then Option.bind ( (ah_ x0 s2.1).bind λy4=>(bif(!(y4.Xc==x1))then(ah_ x0 s2.1).bind λy5=>(room 40 s2.2 [y5]).bind λy6=>some y6 else some s2.2) ) λ(o2:(List Xq))=>some (.next ((w64 (s2.1+1)),o2))else some (.done s2.2))
def gd_(x0:List Xq)(x1:Str):Option (List Xq):=(ae_ (ez_ x0 x1) BIG (0,[])).bind λo3=>some (o3)
def ge_(x0:List Xq)(x1:Str)(s2:Int):Option (Step Int (Out Unit (Str×Bool))):=(bif(decide (s2<(x0.length:Int)))then(ah_ x0 s2).bind λy5=>Option.bind (bif(y5.Xc==x1)then(ah_ x0 s2).bind λy6=>some (!y6.Xa)else some false) λ(y7:Bool)=>(bif y7 then(ah_ x0 s2).bind λy8=>some (.done (.ret ((y8.Xn,true))))else some (.next (w64 (s2+1))))else some (.done (.fall ())))
def iF_(x0:List Xq)(x1:Str):Option (Str×Bool):=(ae_ (ge_ x0 x1) BIG 0).bind λwo1=>match wo1 with | .ret r1=>some r1 | .fall _=>some (([],false))
def gr_(x1:List Xq)(x0:List Xq)(s2:Int):Option (Step Int (Out Unit Bool)):=(bif(decide (s2<(x1.length:Int)))then(ah_ x1 s2).bind λy7=>(iF_ x0 y7.Xc).bind λy8=>Option.bind (bif(!y8.2)then some true else(ah_ x1 s2).bind λy9=>Option.bind (bif(!y9.Xa)then(ah_ x1 s2).bind λy10=>some (!(y8.1==y10.Xn))else some false) λ(y11:Bool)=>some y11 ) λ(y12:Bool)=>(bif y12 then some (.done (.ret (false)))else some (.next (w64 (s2+1))))else some (.done (.fall ())))
def gf_(x0:List Xq)(x1:List Xq):Option Bool:=(ae_ (gr_ x1 x0) BIG 0).bind λwo1=>match wo1 with | .ret r1=>some r1 | .fall _=>some (true)
def g6_(x0:List Xq)(x1:Str)(x2:Str)(s2:Bool×Int×(List Xq)):Option (Step (Bool×Int×(List Xq)) (Bool×(List Xq))):=(bif(decide (s2.2.1<(x0.length:Int)))then(ah_ x0 s2.2.1).bind λy3=>Option.bind ( (bif(((!s2.1)&&(y3.Xc==x1))&&(!y3.Xa))then some (true,(Xq.mk y3.Xc x2 y3.Xa))else some (s2.1,y3)) ) λ(o2:Bool×Xq)=>(room 40 s2.2.2 [o2.2]).bind λy4=>some (.next (o2.1,(w64 (s2.2.1+1)),y4))else some (.done (s2.1,s2.2.2)))
def jt_(x0:List Xq)(x1:Str)(x2:Str):Option (List Xq):=Option.bind (ae_ (g6_ x0 x1 x2) BIG (false,0,[])) λ(o3:Bool×(List Xq))=>Option.bind ( (bif(!o3.1)then(room 40 o3.2 [(Xq.mk x1 x2 false)]).bind λy5=>some y5 else some o3.2) ) λ(o4:(List Xq))=>some (o4)
def bQ_(s2:Int×Str×Str×Str×Str×(List Xq)×Str×(List Xq)):Option (Step (Int×Str×Str×Str×Str×(List Xq)×Str×(List Xq)) (Out Xx (Xx×Bool))):=(bif(decide (s2.1<(s2.2.2.2.2.2.2.2.length:Int)))then(ah_ s2.2.2.2.2.2.2.2 s2.1).bind λy8=>(bif y8.Xa then some (.done (.ret (((Xx.mk s2.2.1 s2.2.2.1 s2.2.2.2.1 s2.2.2.2.2.1 s2.2.2.2.2.2.1 s2.2.2.2.2.2.2.1),false))))else(ah_ s2.2.2.2.2.2.2.2 s2.1).bind λy9=>(ah_ s2.2.2.2.2.2.2.2 s2.1).bind λy10=>(jt_ s2.2.2.2.2.2.1 y9.Xc y10.Xn).bind λy11=>some (.next ((w64 (s2.1+1)),s2.2.1,s2.2.2.1,s2.2.2.2.1,s2.2.2.2.2.1,y11,s2.2.2.2.2.2.2.1,s2.2.2.2.2.2.2.2)))else some (.done (.fall (Xx.mk s2.2.1 s2.2.2.1 s2.2.2.2.1 s2.2.2.2.2.1 s2.2.2.2.2.2.1 s2.2.2.2.2.2.2.1))))
def fV_(x0:Xx)(x1:Str)(x2:Str):Option (Xx×Bool):=(bif(x1==[100,101,108,101,116,101])then(gd_ x0.Xv x2).bind λy1=>some (((Xx.mk x0.Xd x0.Xr x0.Xt x0.Xf y1 x0.Xm),true))else(hM_ x2).bind λy2=>(bif(y2.2.2 != 0)then some ((x0,false))else(bif(!(x1==[97,100,100]))then(gf_ x0.Xv y2.1).bind λy3=>some ((x0,(y3==(x1==[105,115]))))else(ae_ bQ_ BIG (0,x0.Xd,x0.Xr,x0.Xt,x0.Xf,x0.Xv,x0.Xm,y2.1)).bind λwo1=>match wo1 with | .ret r1=>some r1 | .fall o1=>some ((o1,true)))))
def hZ_(x0:Xx)(x1:Str)(x2:Str):Option Xx:=Option.bind ( (bif(x1==[115,114,99])then some (Xx.mk x2 x0.Xr x0.Xt x0.Xf x0.Xv x0.Xm)else(bif(x1==[100,115,116])then some (Xx.mk x0.Xd x2 x0.Xt x0.Xf x0.Xv x0.Xm)else(bif(x1==[119,100,105,114])then some (Xx.mk x0.Xd x0.Xr x2 x0.Xf x0.Xv x0.Xm)else(bif(x1==[116,121,112,101])then some (Xx.mk x0.Xd x0.Xr x0.Xt x2 x0.Xv x0.Xm)else(bif(x1==[100,97,116,97])then some (Xx.mk x0.Xd x0.Xr x0.Xt x0.Xf x0.Xv x2)else some x0))))) ) λ(o1:Xx)=>some (o1)
def bv_(x0:Xk):Option Xb:=(cY_ 1 (false:Bool) (x0.Yx.length:Int)).bind λy1=>some ((Xb.mk [] y1))
def eO_(rec0:Xk->Str->Xb->Int->Int->(List Int)->Option Xb)(x0:Xk)(x1:Str)(x2:Xb)(x3:Int)(x4:Int)(x5:List Int):Option Xb:=(ah_ x2.Xo x3).bind λy1=>(bif y1 then some (x2)else(ah_ x2.Xo x3).bind λ_=>(ah_ x0.Yx x3).bind λy3=>(bif(y3.Op_==7)then(rec0 x0 x1 (Xb.mk x2.L_ (x2.Xo.set x3.toNat true)) y3.X_ x4 x5).bind λy4=>some (y4)else(bif(y3.Op_==6)then(rec0 x0 x1 (Xb.mk x2.L_ (x2.Xo.set x3.toNat true)) y3.X_ x4 x5).bind λy5=>(rec0 x0 x1 y5 y3.Y_ x4 x5).bind λy6=>some (y6)else(bif(y3.Op_==8)then(room 8 ([]:List Int) x5).bind λy7=>(ah_ y7 y3.X_).bind λ_=>(rec0 x0 x1 (Xb.mk x2.L_ (x2.Xo.set x3.toNat true)) (w64 (x3+1)) x4 (y7.set y3.X_.toNat x4)).bind λy9=>some (y9)else(bif(y3.Op_==4)then(bif(x4==0)then(rec0 x0 x1 (Xb.mk x2.L_ (x2.Xo.set x3.toNat true)) (w64 (x3+1)) x4 x5).bind λy10=>some (y10)else some ((Xb.mk x2.L_ (x2.Xo.set x3.toNat true))))else(bif(y3.Op_==5)then(bif(x4==(x1.length:Int))then(rec0 x0 x1 (Xb.mk x2.L_ (x2.Xo.set x3.toNat true)) (w64 (x3+1)) x4 x5).bind λy11=>some (y11)else some ((Xb.mk x2.L_ (x2.Xo.set x3.toNat true))))else(room 32 x2.L_ [(Xe.mk x3 x5)]).bind λy12=>some ((Xb.mk y12 (x2.Xo.set x3.toNat true)))))))))
def ao_:Nat->Xk->Str->Xb->Int->Int->(List Int)->Option Xb | 0=>λ_ _ _ _ _ _=>none|n+1=>eO_ (ao_ n)
def na_(x0:Xz)(x1:Int)(s2:Bool×Int):Option (Step (Bool×Int) Bool):=(bif(decide ((w64 (s2.2+1))<(x0.Xu.length:Int)))then Option.bind (bif s2.1 then some true else(an_ x0.Xu s2.2).bind λy5=>Option.bind (bif(decide (y5<=x1))then(an_ x0.Xu (w64 (s2.2+1))).bind λy6=>some (decide (x1<=y6))else some false) λ(y7:Bool)=>some y7 ) λ(y8:Bool)=>some (.next (y8,(w64 (s2.2+2))))else some (.done s2.1))
def eG_(x0:Xz)(x1:Int):Option Bool:=(bif(x0.Op_==1)then some ((x0.C_==x1))else(bif(x0.Op_==2)then some ((x1 != 10))else(bif(x0.Op_==3)then(ae_ (na_ x0 x1) BIG (false,0)).bind λo1=>some ((!(o1==x0.Yq)))else some (false))))
def ie_(s2:Int×(List Int)):Option (Step (Int×(List Int)) (List Int)):=(bif(decide (s2.1<(s2.2.length:Int)))then(ah_ s2.2 s2.1).bind λ_=>some (.next ((w64 (s2.1+1)),(s2.2.set s2.1.toNat (-1))))else some (.done s2.2))
def bs_(x0:Xk)(x3:Bool)(s6:Int×(List Xe)×(List Bool)×Xs)(x1:Str)(x2:Int)(s8:Bool×Int×(List Xe)×Xs×(List Xe)×(List Bool)):Option (Step (Bool×Int×(List Xe)×Xs×(List Xe)×(List Bool)) ((List Xe)×Xs×(List Xe)×(List Bool))):=(bif(decide (s8.2.1<(s8.2.2.1.length:Int)))then Option.bind ( (ah_ s8.2.2.1 s8.2.1).bind λy59=>(ah_ x0.Yx y59.K_).bind λy60=>Option.bind ( (bif(((y60.Op_==9)&&(!s8.1))&&((!x3)||(s6.1==(x1.length:Int))))then(ah_ s8.2.2.1 s8.2.1).bind λy61=>some (true,s8.2.2.1,(Xs.mk y61.At_ x2 s6.1 true))else some (s8.1,s8.2.2.1,s8.2.2.2.1)) ) λ(o10:Bool×(List Xe)×Xs)=>Option.bind (bif(decide (s6.1<(x1.length:Int)))then(an_ x1 s6.1).bind λy62=>(eG_ y60 y62).bind λy63=>some y63 else some false) λ(y64:Bool)=>(bif y64 then(ah_ o10.2.1 s8.2.1).bind λy65=>(ah_ o10.2.1 s8.2.1).bind λy66=>(ao_ BIG x0 x1 (Xb.mk s8.2.2.2.2.1 s8.2.2.2.2.2) (w64 (y65.K_+1)) (w64 (s6.1+1)) y66.At_).bind λy67=>some (o10.1,o10.2.1,o10.2.2,y67.L_,y67.Xo)else some (o10.1,o10.2.1,o10.2.2,s8.2.2.2.2.1,s8.2.2.2.2.2)) ) λ(o11:Bool×(List Xe)×Xs×(List Xe)×(List Bool))=>some (.next (o11.1,(w64 (s8.2.1+1)),o11.2.1,o11.2.2.1,o11.2.2.2.1,o11.2.2.2.2))else some (.done (s8.2.2.1,s8.2.2.2.1,s8.2.2.2.2.1,s8.2.2.2.2.2)))
def cc_(x1:Str)(x0:Xk)(x3:Bool)(x2:Int)(s6:Int×(List Xe)×(List Bool)×Xs):Option (Step (Int×(List Xe)×(List Bool)×Xs) Xs):=(bif((decide (s6.1<=(x1.length:Int)))&&(decide ((s6.2.1.length:Int)>0)))then(bv_ x0).bind λy49=>(ae_ (bs_ x0 x3 s6 x1 x2) BIG (false,0,s6.2.1,s6.2.2.2,y49.L_,y49.Xo)).bind λo12=>some (.next ((w64 (s6.1+1)),o12.2.2.1,o12.2.2.2,o12.2.1))else some (.done s6.2.2.2))
def iG_(x0:Xk)(x1:Str)(x2:Int)(x3:Bool):Option Xs:=(cY_ 8 (0:Int) (w64 (2*x0.Yj))).bind λy1=>(ae_ ie_ BIG (0,y1)).bind λo1=>Option.bind ( (both ( (both ( (both ( (bv_ x0).bind λy27=>(both ( (ao_ BIG x0 x1 y27 0 x2 o1).bind λy29=>some (y29.L_,y29.Xo)) ( (ao_ BIG x0 x1 y27 0 x2 o1).bind λy28=>some (y28.L_,y28.Xo)))) ( (bv_ x0).bind λy25=>(ao_ BIG x0 x1 y25 0 x2 o1).bind λy26=>some (y26.L_,y26.Xo)))) ( (bv_ x0).bind λy23=>(ao_ BIG x0 x1 y23 0 x2 o1).bind λy24=>some (y24.L_,y24.Xo)))) ( (both ( (both ( (both ( (bv_ x0).bind λy20=>(both ( (ao_ BIG x0 x1 y20 0 x2 o1).bind λy22=>some (y22.L_,y22.Xo)) ( (ao_ BIG x0 x1 y20 0 x2 o1).bind λy21=>some (y21.L_,y21.Xo)))) ( (bv_ x0).bind λy18=>(ao_ BIG x0 x1 y18 0 x2 o1).bind λy19=>some (y19.L_,y19.Xo)))) ( (both ( (bv_ x0).bind λy14=>(both ( (both ( (ao_ BIG x0 x1 y14 0 x2 o1).bind λy17=>some (y17.L_,y17.Xo)) ( (ao_ BIG x0 x1 y14 0 x2 o1).bind λy16=>some (y16.L_,y16.Xo)))) ( (ao_ BIG x0 x1 y14 0 x2 o1).bind λy15=>some (y15.L_,y15.Xo)))) ( (both ( (bv_ x0).bind λy12=>(ao_ BIG x0 x1 y12 0 x2 o1).bind λy13=>some (y13.L_,y13.Xo)) ( (bv_ x0).bind λy10=>(ao_ BIG x0 x1 y10 0 x2 o1).bind λy11=>some (y11.L_,y11.Xo)))))))) ( (both ( (bv_ x0).bind λy8=>(ao_ BIG x0 x1 y8 0 x2 o1).bind λy9=>some (y9.L_,y9.Xo)) ( (both ( (bv_ x0).bind λy6=>(ao_ BIG x0 x1 y6 0 x2 o1).bind λy7=>some (y7.L_,y7.Xo)) ( (bv_ x0).bind λy4=>(ao_ BIG x0 x1 y4 0 x2 o1).bind λy5=>some (y5.L_,y5.Xo))))))))) ) λ(o2:(List Xe)×(List Bool))=>Option.bind (ae_ (cc_ x1 x0 x3 x2) BIG (x2,o2.1,o2.2,(Xs.mk [] 0 0 false))) λ(o13:Xs)=>some (o13)
def d7_(x0:Xk)(x1:Str):Option ((List Int)×Bool):=(iG_ x0 x1 0 true).bind λy1=>(room 8 ([]:List Int) y1.At_).bind λy2=>some ((y2,y1.Ok_))
def cL_(x0:Xw)(s2:Str×Int×Xx×Str×(List Int)):Option (Step (Str×Int×Xx×Str×(List Int)) (Out (Str×Xx) (Xx×Str×Bool))):=(bif(decide (s2.2.1<(x0.Xh.length:Int)))then(ah_ x0.Xh s2.2.1).bind λy12=>(en_ y12.Xl s2.2.2.1 (Yz.mk s2.2.2.2.1 s2.2.2.2.2)).bind λy13=>Option.bind ( (bif((!(y12.Xg==[109,97,116,99,104,101,115]))&&(decide ((y13.length:Int)>65536)))then some (s2.1,false,s2.2.2.1,s2.2.2.2.1,s2.2.2.2.2)else(bif(y12.Xy==[112,108,117,109,98])then some (y13,true,s2.2.2.1,s2.2.2.2.1,s2.2.2.2.2)else(bif(y12.Xy==[97,116,116,114])then(fV_ s2.2.2.1 y12.Xg y13).bind λy14=>some (s2.1,y14.2,y14.1,s2.2.2.2.1,s2.2.2.2.2)else(bif(y12.Xg==[115,101,116])then(hZ_ s2.2.2.1 y12.Xy y13).bind λy15=>some (s2.1,true,y15,s2.2.2.2.1,s2.2.2.2.2)else(bif(y12.Xg==[109,97,116,99,104,101,115])then(bL_ y12.Xl).bind λy16=>(ca_ s2.2.2.1 y12.Xy).bind λy17=>(d7_ y16.1 y17).bind λy18=>(bif y18.2 then some (s2.1,y18.2,s2.2.2.1,y17,y18.1)else some (s2.1,y18.2,s2.2.2.1,s2.2.2.2.1,s2.2.2.2.2))else(ca_ s2.2.2.1 y12.Xy).bind λy19=>some (s2.1,((y19==y13)==(y12.Xg==[105,115])),s2.2.2.1,s2.2.2.2.1,s2.2.2.2.2)))))) ) λ(o2:Str×Bool×Xx×Str×(List Int))=>(bif(!o2.2.1)then some (.done (.ret (((Xx.mk [] [] [] [] [] []),[],false))))else some (.next (o2.1,(w64 (s2.2.1+1)),o2.2.2.1,o2.2.2.2.1,o2.2.2.2.2)))else some (.done (.fall (s2.1,s2.2.2.1))))
def eP_(x0:Xw)(x1:Xx):Option (Xx×Str×Bool):=(hN_ x0).bind λy1=>Option.bind (bif(!y1)then some true else(fR_ x1).bind λy2=>some (y2 != 0) ) λ(y3:Bool)=>(bif y3 then some (((Xx.mk [] [] [] [] [] []),[],false))else Option.bind (ae_ (cL_ x0) BIG ([],0,x1,[],[])) λ(wo3:Out (Str×Xx) (Xx×Str×Bool))=>match wo3 with | .ret r3=>some r3 | .fall o3=>(fR_ o3.2).bind λy20=>(bif(y20 != 0)then some (((Xx.mk [] [] [] [] [] []),[],false))else some ((o3.2,o3.1,true))))
def fE_(x0:List Xw)(x1:Xx)(s2:Int):Option (Step Int (Out Unit (Xx×Str×Bool))):=(bif(decide (s2<(x0.length:Int)))then(ah_ x0 s2).bind λy3=>(b9_ y3 x1).bind λy4=>(bif y4.2.2 then some (.done (.ret ((y4.1,y4.2.1,true))))else some (.next (w64 (s2+1))))else some (.done (.fall ())))
def eQ_(x0:List Xw)(x1:Xx):Option (Xx×Str×Bool):=(ae_ (fE_ x0 x1) BIG 0).bind λwo1=>match wo1 with | .ret r1=>some r1 | .fall _=>some (((Xx.mk [] [] [] [] [] []),[],false))
def fF_(x0:List Xw)(x1:Xx)(s2:Int):Option (Step Int (Out Unit (Xx×Str×Bool))):=(bif(decide (s2<(x0.length:Int)))then(ah_ x0 s2).bind λy3=>(eP_ y3 x1).bind λy4=>(bif y4.2.2 then some (.done (.ret ((y4.1,y4.2.1,true))))else some (.next (w64 (s2+1))))else some (.done (.fall ())))
def hO_(x0:List Xw)(x1:Xx):Option (Xx×Str×Bool):=(ae_ (fF_ x0 x1) BIG 0).bind λwo1=>match wo1 with | .ret r1=>some r1 | .fall _=>some (((Xx.mk [] [] [] [] [] []),[],false))
def c4_(x0:List Xw)(x1:Xx)(s2:Int):Option (Step Int (Out Unit Bool)):=(bif(decide (s2<(x0.length:Int)))then(ah_ x0 s2).bind λy11=>(b9_ y11 x1).bind λy12=>(ah_ x0 s2).bind λy13=>(eP_ y13 x1).bind λy14=>(fC_ y12.1 y14.1).bind λy15=>Option.bind (bif(((!y15)||(!(y12.2.1==y14.2.1)))||(!(y12.2.2==y14.2.2)))then some true else Option.bind (bif y12.2.2 then(bP_ y12.1).bind λy16=>some (y16 != 0)else some false) λ(y17:Bool)=>some y17 ) λ(y18:Bool)=>(bif y18 then some (.done (.ret (false)))else some (.next (w64 (s2+1))))else some (.done (.fall ())))
def cV_(x0:List Xw)(x1:Xx):Option Bool:=(g5_ x0 x1).bind λy1=>(bif(!y1)then(cq_).bind λy2=>some (y2)else(ae_ (c4_ x0 x1) BIG 0).bind λwo1=>match wo1 with | .ret r1=>some r1 | .fall _=>(eQ_ x0 x1).bind λy19=>(hO_ x0 x1).bind λy20=>(fC_ y19.1 y20.1).bind λy21=>Option.bind (bif((y21&&(y19.2.1==y20.2.1))&&(y19.2.2==y20.2.2))then(cq_).bind λy22=>some y22 else some false) λ(y23:Bool)=>some (y23))
def cH_(x0:List Xw)(x1:Xx)(s2:Int×(List Xw)):Option (Step (Int×(List Xw)) (List Xw)):=(bif(decide (s2.1<(x0.length:Int)))then Option.bind ( (ah_ x0 s2.1).bind λy7=>(b9_ y7 x1).bind λy8=>(bif y8.2.2 then(ah_ x0 s2.1).bind λy9=>(room 24 s2.2 [y9]).bind λy10=>some y10 else some s2.2) ) λ(o2:(List Xw))=>some (.next ((w64 (s2.1+1)),o2))else some (.done s2.2))
def dC_(x0:List Xw)(x1:Xx):Option Bool:=(g5_ x0 x1).bind λy1=>(bif(!y1)then(cq_).bind λy2=>some (y2)else(ae_ (cH_ x0 x1) BIG (0,[])).bind λo3=>(eQ_ x0 x1).bind λy11=>(eQ_ o3 x1).bind λy12=>(fC_ y11.1 y12.1).bind λy13=>Option.bind (bif(((y13&&(y11.2.1==y12.2.1))&&(y11.2.2==y12.2.2))&&(y11.2.2==(decide ((o3.length:Int)>0))))then(cq_).bind λy14=>some y14 else some false) λ(y15:Bool)=>some (y15))
def dV_(x0:List Xw)(s4:Int)(x1:List Xw)(s6:Int):Option (Step Int (Out Unit Bool)):=(ah_ x0 s4).bind λy20=>(bif(decide (s6<(y20.Xh.length:Int)))then(ah_ x0 s4).bind λy21=>(ah_ y21.Xh s6).bind λy22=>(ah_ x1 s4).bind λy23=>(ah_ y23.Xh s6).bind λy24=>(bif(!(decide (y22=y24)))then some (.done (.ret (false)))else some (.next (w64 (s6+1))))else some (.done (.fall ())))
def dW_(x0:List Xw)(x1:List Xw)(s4:Int):Option (Step Int (Out Unit Bool)):=(bif(decide (s4<(x0.length:Int)))then(ah_ x0 s4).bind λy13=>(ah_ x1 s4).bind λy14=>(bif((y13.Xh.length:Int) != (y14.Xh.length:Int))then some (.done (.ret (false)))else(ae_ (dV_ x0 s4 x1) BIG 0).bind λwo2=>match wo2 with | .ret r2=>some (.done (.ret r2)) | .fall _=>some (.next (w64 (s4+1))))else some (.done (.fall ())))
def ju_(x0:List Xw)(x1:List Xw):Option Bool:=(bif((x0.length:Int) != (x1.length:Int))then some (false)else(ae_ (dW_ x0 x1) BIG 0).bind λwo3=>match wo3 with | .ret r3=>some r3 | .fall _=>some (true))
def teS:Nat->Type | 0=>Xq | 1=>Xx | 2=>Xp | 3=>Xw | 4=>Xz | 5=>Xk | 6=>regex_parser | 7=>plumb_state | 8=>regex_thread | 9=>regex_machine | 10=>Xj | 11=>Yz | 12=>Xe | 13=>Xb | 14=>Xs | 15=>Yk|_=>Int
def teCs:Nat->List Ty | 0=>[.str,.str,.bool] | 1=>[.str,.str,.str,.str,.sl (.st 0),.str] | 2=>[.str,.str,.str] | 3=>[.sl (.st 2)] | 4=>[.int .i64,.int .u8,.str,.bool,.int .i64,.int .i64] | 5=>[.sl (.st 4),.int .i64] | 6=>[.str,.int .i64,.int .i64,.sl (.st 4),.int .i64] | 7=>[.str,.str,.str,.str,.sl (.st 0),.str,.str,.sl (.int .i64),.str] | 8=>[.int .i64,.sl (.int .i64)] | 9=>[.sl (.st 4),.int .i64,.str,.int .i64,.sl (.int .i64),.sl (.st 8)] | 10=>[.sl (.st 4),.int .i64,.int .i64,.bool] | 11=>[.str,.sl (.int .i64)] | 12=>[.int .i64,.sl (.int .i64)] | 13=>[.sl (.st 12),.sl .bool] | 14=>[.sl (.int .i64),.int .i64,.int .i64,.bool] | 15=>[.int .u64,.int .u64,.int .u64,.int .u64,.int .u64,.int .u64,.int .u64,.int .u64,.int .u64,.int .u64,.int .u64,.int .u64,.int .u64,.int .u64,.int .u64,.int .u64,.int .u64,.int .u64,.int .u64,.int .u64]|_=>[.int .i64]
def teUn:(n:Nat)->teS n->HL teS (teCs n) | 0,d=>(d.Xc,d.Xn,d.Xa,()) | 1,d=>(d.Xd,d.Xr,d.Xt,d.Xf,d.Xv,d.Xm,()) | 2,d=>(d.Xy,d.Xg,d.Xl,()) | 3,d=>(d.Xh,()) | 4,d=>(d.Op_,d.C_,d.Xu,d.Yq,d.X_,d.Y_,()) | 5,d=>(d.Yx,d.Yj,()) | 6,d=>(d.s_,d.at_,d.groups_,d.code_,d.bad_,()) | 7,d=>(d.m_.Xd,d.m_.Xr,d.m_.Xt,d.m_.Xf,d.m_.Xv,d.m_.Xm,d.text_,d.caps_,d.port_,()) | 8,d=>(d.at_,d.caps_,()) | 9,d=>(d.r_.Yx,d.r_.Yj,d.s_,d.pos_,d.visited_,d.list_,()) | 10,d=>(d.L_,d.At_,d.N_,d.Xi,()) | 11,d=>(d.S_,d.At_,()) | 12,d=>(d.K_,d.At_,()) | 13,d=>(d.L_,d.Xo,()) | 14,d=>(d.At_,d.Yv,d.Yw,d.Ok_,()) | 15,d=>(d.a0_,d.a1_,d.a2_,d.a3_,d.a4_,d.a5_,d.a6_,d.a7_,d.a8_,d.a9_,d.Yy,d.Yh,d.Yg,d.Yf,d.Ym,d.Yn,d.Yp,d.Yb,d.Yc,d.Yd,())|_+16,d=>(d,())
def teBd:(n:Nat)->HL teS (teCs n)->teS n | 0,h=>⟨h.1,h.2.1,h.2.2.1⟩ | 1,h=>⟨h.1,h.2.1,h.2.2.1,h.2.2.2.1,h.2.2.2.2.1,h.2.2.2.2.2.1⟩ | 2,h=>⟨h.1,h.2.1,h.2.2.1⟩ | 3,h=>⟨h.1⟩ | 4,h=>⟨h.1,h.2.1,h.2.2.1,h.2.2.2.1,h.2.2.2.2.1,h.2.2.2.2.2.1⟩ | 5,h=>⟨h.1,h.2.1⟩ | 6,h=>⟨h.1,h.2.1,h.2.2.1,h.2.2.2.1,h.2.2.2.2.1⟩ | 7,h=>⟨⟨h.1,h.2.1,h.2.2.1,h.2.2.2.1,h.2.2.2.2.1,h.2.2.2.2.2.1⟩,h.2.2.2.2.2.2.1,h.2.2.2.2.2.2.2.1,h.2.2.2.2.2.2.2.2.1⟩ | 8,h=>⟨h.1,h.2.1⟩ | 9,h=>⟨⟨h.1,h.2.1⟩,h.2.2.1,h.2.2.2.1,h.2.2.2.2.1,h.2.2.2.2.2.1⟩ | 10,h=>⟨h.1,h.2.1,h.2.2.1,h.2.2.2.1⟩ | 11,h=>⟨h.1,h.2.1⟩ | 12,h=>⟨h.1,h.2.1⟩ | 13,h=>⟨h.1,h.2.1⟩ | 14,h=>⟨h.1,h.2.1,h.2.2.1,h.2.2.2.1⟩ | 15,h=>⟨h.1,h.2.1,h.2.2.1,h.2.2.2.1,h.2.2.2.2.1,h.2.2.2.2.2.1,h.2.2.2.2.2.2.1,h.2.2.2.2.2.2.2.1,h.2.2.2.2.2.2.2.2.1,h.2.2.2.2.2.2.2.2.2.1,h.2.2.2.2.2.2.2.2.2.2.1,h.2.2.2.2.2.2.2.2.2.2.2.1,h.2.2.2.2.2.2.2.2.2.2.2.2.1,h.2.2.2.2.2.2.2.2.2.2.2.2.2.1,h.2.2.2.2.2.2.2.2.2.2.2.2.2.2.1,h.2.2.2.2.2.2.2.2.2.2.2.2.2.2.2.1,h.2.2.2.2.2.2.2.2.2.2.2.2.2.2.2.2.1,h.2.2.2.2.2.2.2.2.2.2.2.2.2.2.2.2.2.1,h.2.2.2.2.2.2.2.2.2.2.2.2.2.2.2.2.2.2.1,h.2.2.2.2.2.2.2.2.2.2.2.2.2.2.2.2.2.2.2.1⟩|_+16,h=>h.1
def teDeq:(n:Nat)->Option (DecidableEq (teS n)) | 0=>some (inferInstanceAs (DecidableEq Xq)) | 2=>some (inferInstanceAs (DecidableEq Xp))|_=>none
def teTy(n:Nat):Option Ty:=aD_ n [(2,.int .i64),(3,.int .i64),(4,.bool),(5,.int .u8),(6,.int .u8),(9,.str),(10,.str),(11,.str),(12,.int .u64),(21,.int .i32),(22,.sl (.st 0)),(24,.st 1),(27,.int .i64),(35,.sl (.st 3)),(39,.sl (.st 2)),(41,.st 3),(50,.st 0),(54,.sl .str),(66,.st 2),(69,.sl (.int .i64)),(71,.st 7),(75,.st 11),(80,.sl (.st 4)),(82,.st 5),(92,.sl (.int .u8)),(122,.st 10),(126,.st 4),(128,.st 14),(149,.st 6),(158,.sl (.st 12)),(159,.sl .bool),(161,.st 13),(165,.st 12),(174,.int .u64),(184,.int .u64),(189,.sl (.st 8)),(191,.st 9),(196,.st 8),(198,.st 15),(199,.int .u32)]
abbrev globPT:Ty := .st 15
def teGl:Nat->Option (Σ t:Ty,Den teS t) | 1=>some ⟨.st 15,globP⟩|_=>none
def teSb(n:Nat):Bool:=Nat.beq n 94
def te:TE:=⟨teS,teCs,teUn,teBd,λn x=>by match n with | 0=>rfl | 1=>rfl | 2=>rfl | 3=>rfl | 4=>rfl | 5=>rfl | 6=>rfl | 7=>rfl | 8=>rfl | 9=>rfl | 10=>rfl | 11=>rfl | 12=>rfl | 13=>rfl | 14=>rfl | 15=>rfl|n+16=>rfl,λn x=>by match n with | 0=>rfl | 1=>rfl | 2=>rfl | 3=>rfl | 4=>rfl | 5=>rfl | 6=>rfl | 7=>rfl | 8=>rfl | 9=>rfl | 10=>rfl | 11=>rfl | 12=>rfl | 13=>rfl | 14=>rfl | 15=>rfl|n+16=>rfl,teDeq,teTy,λn=>by match n with | 0=>exact List.cons_ne_nil _ _ | 1=>exact List.cons_ne_nil _ _ | 2=>exact List.cons_ne_nil _ _ | 3=>exact List.cons_ne_nil _ _ | 4=>exact List.cons_ne_nil _ _ | 5=>exact List.cons_ne_nil _ _ | 6=>exact List.cons_ne_nil _ _ | 7=>exact List.cons_ne_nil _ _ | 8=>exact List.cons_ne_nil _ _ | 9=>exact List.cons_ne_nil _ _ | 10=>exact List.cons_ne_nil _ _ | 11=>exact List.cons_ne_nil _ _ | 12=>exact List.cons_ne_nil _ _ | 13=>exact List.cons_ne_nil _ _ | 14=>exact List.cons_ne_nil _ _ | 15=>exact List.cons_ne_nil _ _|n+16=>exact List.cons_ne_nil _ _,teGl,teSb⟩
theorem api_Attr_ext(x y:Xq):(x=y)=(x.Xc=y.Xc/\x.Xn=y.Xn/\x.Xa=y.Xa):=by cases x;cases y;simp
theorem eqd_api_Attr(x y:Xq):(((⟨x.Xc.toArray⟩:ByteArray).toList==(⟨y.Xc.toArray⟩:ByteArray).toList)&&(((⟨x.Xn.toArray⟩:ByteArray).toList==(⟨y.Xn.toArray⟩:ByteArray).toList)&&((x.Xa==y.Xa)&&true)))=true↔x=y:=by simp[api_Attr_ext]
theorem o6_:aQ_ Tryz.prog te 50 0:=by
 intro d x y l m hl hm;obtain rfl:=qSj hl;obtain rfl:=qSj hm;refine eqIs_of 10 rfl (by kernel_rfl) (b:=(((⟨x.Xc.toArray⟩:ByteArray).toList==(⟨y.Xc.toArray⟩:ByteArray).toList)&&(((⟨x.Xn.toArray⟩:ByteArray).toList==(⟨y.Xn.toArray⟩:ByteArray).toList)&&((x.Xa==y.Xa)&&true)))) (by kernel_rfl) ?_;rw[Bool.eq_iff_iff];exact(eqd_api_Attr x y).trans (@decide_eq_true_iff _ (d x y)).symm
theorem oc_(x y:Xp):(x=y)=(x.Xy=y.Xy/\x.Xg=y.Xg/\x.Xl=y.Xl):=by cases x;cases y;simp
theorem od_(x y:Xp):(((⟨x.Xy.toArray⟩:ByteArray).toList==(⟨y.Xy.toArray⟩:ByteArray).toList)&&(((⟨x.Xg.toArray⟩:ByteArray).toList==(⟨y.Xg.toArray⟩:ByteArray).toList)&&(((⟨x.Xl.toArray⟩:ByteArray).toList==(⟨y.Xl.toArray⟩:ByteArray).toList)&&true)))=true↔x=y:=by simp[oc_]
theorem mH_:aQ_ Tryz.prog te 66 2:=by
 intro d x y l m hl hm;obtain rfl:=qSj hl;obtain rfl:=qSj hm;refine eqIs_of 10 rfl (by kernel_rfl) (b:=(((⟨x.Xy.toArray⟩:ByteArray).toList==(⟨y.Xy.toArray⟩:ByteArray).toList)&&(((⟨x.Xg.toArray⟩:ByteArray).toList==(⟨y.Xg.toArray⟩:ByteArray).toList)&&(((⟨x.Xl.toArray⟩:ByteArray).toList==(⟨y.Xl.toArray⟩:ByteArray).toList)&&true)))) (by kernel_rfl) ?_;rw[Bool.eq_iff_iff];exact(od_ x y).trans (@decide_eq_true_iff _ (d x y)).symm
def eqL:List (Nat×Nat):=[(50,0),(66,2)]
theorem ad_:∀p∈eqL,aQ_ Tryz.prog te p.1 p.2:=by
 intro p hp;simp only[eqL,List.mem_cons,List.not_mem_nil,or_false]at hp;rcases hp with rfl|rfl
 .exact o6_
 .exact mH_
abbrev OKF(f:FuncId)(C:Con te):Prop:=Con.OK Tryz.prog te f C/\cE_ Tryz.prog f=true
end
open Go.ChangeShapes Go.WideShapes Go.ChangeAt Go.ChangeMaps
abbrev laidAll : List (String × DataW Unit) := [("math/bits.deBruijn32tab", Rows.laid_math_bits_deBruijn32tab), ("math/bits.deBruijn64tab", Rows.laid_math_bits_deBruijn64tab), ("internal/strconv.uint64pow10", Rows.laid_internal_strconv_uint64pow10), ("unicode/utf8.acceptRanges", Rows.laid_unicode_utf8_acceptRanges), ("unicode/utf8.first", Rows.laid_unicode_utf8_first)]
def powL:List Int:=[1,10,100,1000,10000,100000,1000000,10000000,100000000,1000000000,10000000000,100000000000,1000000000000,10000000000000,100000000000000,1000000000000000,10000000000000000,100000000000000000,1000000000000000000,10000000000000000000]
theorem tab_block{W:World}{name:String}{k:IntKind}{zs:List Int}{n:Nat}(h:Lib.TabIs Tryz.prog W name k zs)(hn:(Tryz.prog).globalNamed name=some n):∃e c,W.heap[n]? = some (.cells (zs.map λz=>Value.int k z).toArray e c):=by
 unfold Lib.TabIs World.var? at h;rw[hn]at h;simp only[qBs]at h;split at h
 .rename_i cs e c hh;obtain rfl:=qSj h;exact⟨e,c,hh⟩
 .cases h
theorem tab_glo{W:World}{name:String}{k:IntKind}{zs:List Int}{n:Nat}(h:Lib.TabIs Tryz.prog W name k zs)(hn:(Tryz.prog).globalNamed name=some n){t:Ty}{x:Den te.S t}(hr:RD te (d4_ W) (te.flat t) (te.fl t x) (zs.map (Value.int k))) :
  (d4_ W).F n/\∃r,RD te (d4_ W) (te.flat t) (te.fl t x) r/\(∀j u,r[j]? = some u->(d4_ W).w.cell? ⟨n,j,none⟩=some u)/\∃e c,(d4_ W).w.heap[n]? = some (.cells r.toArray e c):=by
 obtain⟨e,c,hh⟩:=tab_block h hn;refine⟨?_,zs.map (Value.int k),hr,λj u hu => ?_,e,c,hh⟩
 .show n<W.heap.size;rcases Nat.lt_or_ge n W.heap.size with h'|h'
  .exact h'
  .rw[Array.getElem?_eq_none h']at hh;cases hh
 .show W.cell? ⟨n,j,none⟩=some u;rw[cell_of_row W n j _ e c hh,List.getElem?_toArray];exact hu
theorem seat_glob{W:World}(h:laidMetH Tryz.prog laidAll W):Glo te (d4_ W):=by
 have hm:=(laidMetH_iff.1 h).1
 have h2 : laidMet Tryz.prog (("internal/strconv.uint64pow10", Lib.tabData .u64 powL) :: []) W := by
  have := hm.filter (fun x => x.1 == "internal/strconv.uint64pow10")
  have e : ((laidAll.filter fun x => x.2.handleName?.isNone).filter fun x => x.1 == "internal/strconv.uint64pow10") = [("internal/strconv.uint64pow10", Lib.tabData .u64 powL)] := by kernel_rfl
  rw[e]at this;exact this
 have hP:=Lib.tabIs_of_head (P:=Tryz.prog) (g:=1) (t:=198) (e:=174) (n:=20) (by kernel_rfl) (by kernel_rfl) (by kernel_rfl) (by kernel_rfl) (by kernel_rfl) (by kernel_rfl) h2;intro n t x e;rcases n with _|_|n
 .cases e
 .have e2:(⟨globPT,globP⟩:Sigma λt:Ty=>Den te.S t)=⟨t,x⟩:=qSj e;cases e2
  exact tab_glo hP (by kernel_rfl) (.int (.int (.int (.int (.int (.int (.int (.int (.int (.int (.int (.int (.int (.int (.int (.int (.int (.int (.int (.int .nil))))))))))))))))))))
 .cases e
theorem door_met(os:Os)(args:Array Value):laidMetH Tryz.prog laidAll ((World.laidAll Tryz.prog os laidAll).forCall (λ_ _=>0) ⟨#[],args,[]⟩).memory:=by
 rw[MakeChecks.laidMetH_plain _ _ _ (by kernel_rfl)];exact laidMet_laidAll _ (by kernel_rfl) (by kernel_rfl)
end Go.Proofs.YtbdcelleafhelaaGreatDoor
namespace Go.Proofs
open Go.Shelf
def Tryz.laysCount_ren:Go.Shelf.Ren:=⟨λ | 138=>110 | 195=>147 | 218=>149 | 143=>82 | 219=>118 | 217=>153 | 225=>154 | 224=>155 | 267=>156 | 266=>178 | 314=>179|n=>n,λ | 9=>9 | 3=>3 | 4=>4 | 5=>5 | 0=>0 | 46=>184 | 146=>202 | 51=>199|n=>n,λ | 1=>0|n=>n⟩
theorem Tryz.laysCount:Go.Proofs.Lays.n138 Tryz.prog Tryz.laysCount_ren:={
 mixed:=by kernel_rfl
 f138:=Tryz.func110.trans (congrArg some (by kernel_rfl))
 f143:=Tryz.func82.trans (congrArg some (by kernel_rfl))
 f195:=Tryz.func147.trans (congrArg some (by kernel_rfl))
 f217:=Tryz.func153.trans (congrArg some (by kernel_rfl))
 f218:=Tryz.func149.trans (congrArg some (by kernel_rfl))
 f219:=Tryz.func118.trans (congrArg some (by kernel_rfl))
 f224:=Tryz.func155.trans (congrArg some (by kernel_rfl))
 f225:=Tryz.func154.trans (congrArg some (by kernel_rfl))
 f266:=Tryz.func178.trans (congrArg some (by kernel_rfl))
 f267:=Tryz.func156.trans (congrArg some (by kernel_rfl))
 f314:=Tryz.func179.trans (congrArg some (by kernel_rfl))
 t0:=Tryz.underlying0
 a0:=Tryz.isAgg0
 z0:=Tryz.sizeOf0
 v0:=Tryz.zeroValue0
 t3:=Tryz.underlying3
 a3:=Tryz.isAgg3
 z3:=Tryz.sizeOf3
 v3:=Tryz.zeroValue3
 t4:=Tryz.underlying4
 a4:=Tryz.isAgg4
 z4:=Tryz.sizeOf4
 v4:=Tryz.zeroValue4
 t5:=Tryz.underlying5
 a5:=Tryz.isAgg5
 z5:=Tryz.sizeOf5
 v5:=Tryz.zeroValue5
 t9:=Tryz.underlying9
 a9:=Tryz.isAgg9
 z9:=Tryz.sizeOf9
 v9:=Tryz.zeroValue9
 t46:=Tryz.underlying184
 a46:=Tryz.isAgg184
 z46:=Tryz.sizeOf184
 v46:=Tryz.zeroValue184
 t51:=Tryz.underlying199
 a51:=Tryz.isAgg199
 z51:=Tryz.sizeOf199
 v51:=Tryz.zeroValue199
 t146:=Tryz.underlying202
 a146:=Tryz.isAgg202
 z146:=Tryz.sizeOf202
 v146:=Tryz.zeroValue202
 g1:=by kernel_rfl }
end Go.Proofs
namespace Go.Proofs.YtbdcelleafhelaaGreatDoor
open Go.Shelf Go.RowKit Go.Rt
theorem fCount:Tryz.laysCount_ren.f 138=110:=by kernel_rfl
theorem oe_(x0 x1:Str)(r:Int)(hF:strings_Count x0 x1=some r)(w0:World):Ret Tryz.prog 110 #[S x0,S x1] w0 λv w=>v = .int .i64 r/\Ext w0 w:=by
 unfold strings_Count at hF;split at hF
 .rename_i c;simp only[qOi]at hF;subst hF;have hh:=Any.strings_Count_one Tryz.laysCount ⟨x0.toArray⟩ c w0;rw[fCount]at hh;refine Calls.mono hh λe w ⟨he,hb⟩=>⟨_,he,?_,?_⟩
  .simp[Lib.countByte]
  .subst hb;exact Ext.refl _
 .cases hF
def ik_:Con te:=af_ te [.d .str,.d .str] [(.int .i64,[])] false λa=>strings_Count a.1 a.2.1
theorem g7_:Con.OK Tryz.prog te 110 ik_/\cE_ Tryz.prog 110=true:=by
 refine⟨λR a k r hr => ?_,by kernel_rfl⟩;obtain⟨y,h1,h2⟩:=bind_some hr;exact⟨_,_,h2,jM_ (y:=y) rfl rfl rfl rfl rfl λw=>oe_ a.1 a.2.1 y h1 w⟩
end Go.Proofs.YtbdcelleafhelaaGreatDoor
namespace Go.Proofs
open Go.Shelf
def Tryz.laysFormatInt_ren:Go.Shelf.Ren:=⟨λ | 173=>69 | 246=>108 | 283=>143 | 284=>144 | 285=>145 | 286=>146 | 129=>172 | 317=>171 | 318=>173 | 319=>174 | 320=>175 | 337=>186 | 338=>187|n=>n,λ | 2=>2 | 3=>3 | 9=>9 | 4=>4 | 171=>173 | 0=>0 | 53=>174 | 37=>92 | 5=>5 | 173=>177 | 212=>198 | 51=>199 | 20=>20 | 213=>200 | 46=>184 | 232=>221 | 233=>222|n=>n,λ | 17=>1 | 18=>4 | 19=>5|n=>n⟩
theorem Tryz.laysFormatInt:Go.Proofs.LaysM.n173 Tryz.prog Tryz.laysFormatInt_ren:={
 mixed:=by kernel_rfl
 f129:=Tryz.func172.trans (congrArg some (by kernel_rfl))
 f173:=Tryz.func69.trans (congrArg some (by kernel_rfl))
 f246:=Tryz.func108.trans (congrArg some (by kernel_rfl))
 f283:=Tryz.func143.trans (congrArg some (by kernel_rfl))
 f284:=Tryz.func144.trans (congrArg some (by kernel_rfl))
 f285:=Tryz.func145.trans (congrArg some (by kernel_rfl))
 f286:=Tryz.func146.trans (congrArg some (by kernel_rfl))
 f317:=Tryz.func171.trans (congrArg some (by kernel_rfl))
 f318:=Tryz.func173.trans (congrArg some (by kernel_rfl))
 f319:=Tryz.func174.trans (congrArg some (by kernel_rfl))
 f320:=Tryz.func175.trans (congrArg some (by kernel_rfl))
 f337:=Tryz.func186.trans (congrArg some (by kernel_rfl))
 f338:=Tryz.func187.trans (congrArg some (by kernel_rfl))
 t0:=Tryz.underlying0
 a0:=Tryz.isAgg0
 z0:=Tryz.sizeOf0
 v0:=Tryz.zeroValue0
 t2:=Tryz.underlying2
 a2:=Tryz.isAgg2
 z2:=Tryz.sizeOf2
 v2:=Tryz.zeroValue2
 t3:=Tryz.underlying3
 a3:=Tryz.isAgg3
 z3:=Tryz.sizeOf3
 v3:=Tryz.zeroValue3
 t4:=Tryz.underlying4
 a4:=Tryz.isAgg4
 z4:=Tryz.sizeOf4
 v4:=Tryz.zeroValue4
 t5:=Tryz.underlying5
 a5:=Tryz.isAgg5
 z5:=Tryz.sizeOf5
 v5:=Tryz.zeroValue5
 t9:=Tryz.underlying9
 a9:=Tryz.isAgg9
 z9:=Tryz.sizeOf9
 v9:=Tryz.zeroValue9
 t20:=Tryz.underlying20
 a20:=Tryz.isAgg20
 z20:=Tryz.sizeOf20
 v20:=Tryz.zeroValue20
 t37:=Tryz.underlying92
 a37:=Tryz.isAgg92
 z37:=Tryz.sizeOf92
 v37:=Tryz.zeroValue92
 t46:=Tryz.underlying184
 a46:=Tryz.isAgg184
 z46:=Tryz.sizeOf184
 v46:=Tryz.zeroValue184
 t51:=Tryz.underlying199
 a51:=Tryz.isAgg199
 z51:=Tryz.sizeOf199
 v51:=Tryz.zeroValue199
 t53:=Tryz.underlying174
 a53:=Tryz.isAgg174
 z53:=Tryz.sizeOf174
 v53:=Tryz.zeroValue174
 t171:=Tryz.underlying173
 a171:=Tryz.isAgg173
 z171:=Tryz.sizeOf173
 v171:=Tryz.zeroValue173
 t173:=Tryz.underlying177
 a173:=Tryz.isAgg177
 z173:=Tryz.sizeOf177
 v173:=Tryz.zeroValue177
 t212:=Tryz.underlying198
 a212:=Tryz.isAgg198
 z212:=Tryz.sizeOf198
 v212:=Tryz.zeroValue198
 t213:=Tryz.underlying200
 a213:=Tryz.isAgg200
 z213:=Tryz.sizeOf200
 t232:=Tryz.underlying221
 a232:=Tryz.isAgg221
 z232:=Tryz.sizeOf221
 v232:=Tryz.zeroValue221
 t233:=Tryz.underlying222
 a233:=Tryz.isAgg222
 z233:=Tryz.sizeOf222
 v233:=Tryz.zeroValue222
 g17:=by kernel_rfl
 g18:=by kernel_rfl
 g19:=by kernel_rfl
 i0:=by kernel_rfl
 i2:=by kernel_rfl
 i3:=by kernel_rfl
 i4:=by kernel_rfl
 i5:=by kernel_rfl
 i9:=by kernel_rfl
 i20:=by kernel_rfl
 i37:=by kernel_rfl
 i46:=by kernel_rfl
 i51:=by kernel_rfl
 i53:=by kernel_rfl
 i171:=by kernel_rfl
 i173:=by kernel_rfl
 i212:=by kernel_rfl
 i232:=by kernel_rfl
 i233:=by kernel_rfl
 m17:=by kernel_rfl
 m18:=by kernel_rfl
 m19:=by kernel_rfl }
end Go.Proofs
namespace Go.Proofs.YtbdcelleafhelaaGreatDoor
open Go.Shelf Go.RowKit Go.Rt
theorem fFormatInt:Tryz.laysFormatInt_ren.f 173=69:=by kernel_rfl
theorem digF_eq:∀(f u:Nat),u<10^(f+1)->digF (f+1) u=Lib.decDigits u
 | 0,u,h=>by
  have h1:u<10:=by simpa using h
  rw[Lib.decDigits,dif_pos h1];unfold digF;rw[if_pos h1]
 | f+1,u,h=>by
  rw[Lib.decDigits,digF];by_cases h1:u<10
  .rw[if_pos h1,dif_pos h1]
  .rw[if_neg h1,dif_neg h1,digF_eq f (u/10) (by rw[Nat.pow_succ]at h;omega)]
theorem pow10_in {w : World} {z : Fz} (hz : z.In w) (hg : Glo te z) : Lib.TabIs Tryz.prog w "internal/strconv.uint64pow10" .u64 Lib.pow10Tab := by
 obtain⟨hF,r,hr,_,e,c,hh⟩:=hg 1 globPT globP rfl;obtain⟨v1,e1,hr⟩:=RD.int_inv hr;obtain⟨v2,e2,hr⟩:=RD.int_inv hr;obtain⟨v3,e3,hr⟩:=RD.int_inv hr;obtain⟨v4,e4,hr⟩:=RD.int_inv hr;obtain⟨v5,e5,hr⟩:=RD.int_inv hr;obtain⟨v6,e6,hr⟩:=RD.int_inv hr;obtain⟨v7,e7,hr⟩:=RD.int_inv hr;obtain⟨v8,e8,hr⟩:=RD.int_inv hr;obtain⟨v9,e9,hr⟩:=RD.int_inv hr;obtain⟨v10,e10,hr⟩:=RD.int_inv hr;obtain⟨v11,e11,hr⟩:=RD.int_inv hr;obtain⟨v12,e12,hr⟩:=RD.int_inv hr;obtain⟨v13,e13,hr⟩:=RD.int_inv hr;obtain⟨v14,e14,hr⟩:=RD.int_inv hr;obtain⟨v15,e15,hr⟩:=RD.int_inv hr;obtain⟨v16,e16,hr⟩:=RD.int_inv hr;obtain⟨v17,e17,hr⟩:=RD.int_inv hr
 obtain⟨v18,e18,hr⟩:=RD.int_inv hr;obtain⟨v19,e19,hr⟩:=RD.int_inv hr;obtain⟨v20,e20,hr⟩:=RD.int_inv hr;have e21:=hr.nil_inv;subst e21 e20 e19 e18 e17 e16 e15 e14 e13 e12 e11 e10 e9 e8 e7 e6 e5 e4 e3 e2 e1;have hw:=(hz _ hF).2.trans hh;unfold Lib.TabIs World.var?
 have hn : (Tryz.prog).globalNamed "internal/strconv.uint64pow10" = some 1 := by kernel_rfl
 rw[hn];simp only[qBs,hw];have ht:Lib.pow10Tab=[1,10,100,1000,10000,100000,1000000,10000000,100000000,1000000000,10000000000,100000000000,1000000000000,10000000000000,100000000000000,1000000000000000,10000000000000000,100000000000000000,1000000000000000000,10000000000000000000]:=by decide +kernel
 rw[ht];rfl
theorem lp_(x0 x1:Int)(r:Str)(hF:d9_ x0 x1=some r)(w0:World)(z:Fz)(hz:z.In w0)(hg:Glo te z):Ret Tryz.prog 69 #[.int .i64 x0,.int .i64 x1] w0 λv w=>v=S r/\Ext w0 w:=by
 unfold d9_ at hF;split at hF
 .rename_i h;obtain⟨rfl,h1,h2⟩:=h;obtain rfl:=qSj hF;have hh:=Any.strconv_FormatInt_10 Tryz.laysFormatInt x0 (by omega) h2 w0 (pow10_in hz hg);rw[fFormatInt]at hh;refine Calls.mono hh λe w ⟨he,k,os,hb⟩=>⟨_,he,?_,⟨os,(w0.drewN k).drawn,hb⟩⟩
  rw[digF_eq 19 _ (by omega)];unfold Lib.itoa;rw[if_neg (by omega)];rfl
 .cases hF
def kj_:Con te:=af_ te [.d (.int .i64),.d (.int .i64)] [(.str,[])] false λa=>d9_ a.1 a.2.1
theorem i7_:Con.OK Tryz.prog te 69 kj_/\cE_ Tryz.prog 69=true:=by
 refine⟨λR a k r hr => ?_,by kernel_rfl⟩;obtain⟨y,h1,h2⟩:=bind_some hr;exact⟨_,_,h2,lV_ (y:=y) rfl rfl rfl rfl rfl λw z hz hg=>lp_ a.1 a.2.1 y h1 w z hz hg⟩
end Go.Proofs.YtbdcelleafhelaaGreatDoor
namespace Go.Proofs
open Go.Shelf Go.RowKit Go.Rt
variable{P:Program}{ρ:Ren}
def fd_(T e:TypeId)(b:Nat)(w w':World):Prop:=∃A cap,w'.heap[b]? = some (.cells #[.pointer (some ⟨b,0,none⟩),.slice A 0 cap] T (0,0))/\((A=none/\cap=0)\/∃q cs,A=some ⟨q,0,none⟩/\w.heap.size<=q/\w'.heap[q]? = some (.cells cs e (0,0))/\cs.size=cap/\cap<=maxLen)/\Grow w w'/\∀k,k<w.heap.size->k≠b->w'.heap[k]? = w.heap[k]?
theorem grownF_row{T e:TypeId}{b:Nat}{w:World}{cs:Array Value}(hbk:w.heap[b]? = some (.cells #[.pointer (some ⟨b,0,none⟩),.slice none 0 0] T (0,0)))(hm:cs.size<=maxLen) :
  fd_ T e b w ((w.alloc (.cells cs e)).setCell ⟨b,1,none⟩ (.slice (some ⟨w.heap.size,0,none⟩) 0 cs.size)).drew.drew.drew:=by
 have hlt:b<w.heap.size:=by
  rcases Nat.lt_or_ge b w.heap.size with h'|h'
  .exact h'
  .simp[Array.getElem?_eq_none h']at hbk
 have hb2:(w.alloc (.cells cs e)).heap[b]? = some (.cells #[.pointer (some ⟨b,0,none⟩),.slice none 0 0] T (0,0)):=(Lib.alloc_old w _ b hlt).trans hbk;have hq2:(w.alloc (.cells cs e)).heap[w.heap.size]? = some (.cells cs e (0,0)):=by
  show(w.heap.push _)[w.heap.size]? = _;simp
 refine⟨some ⟨w.heap.size,0,none⟩,cs.size,?_,.inr ⟨w.heap.size,cs,rfl,Nat.le_refl _,?_,rfl,hm⟩,⟨rfl,rfl,rfl,?_⟩,λk hk hne => ?_⟩
 .show((w.alloc (.cells cs e)).setCell ⟨b,1,none⟩ (.slice (some ⟨w.heap.size,0,none⟩) 0 cs.size)).heap[b]? = _;simp[World.setCell,Array.getElem?_modify,hb2]
 .show((w.alloc (.cells cs e)).setCell ⟨b,1,none⟩ (.slice (some ⟨w.heap.size,0,none⟩) 0 cs.size)).heap[w.heap.size]? = _;simp only[World.setCell,Array.getElem?_modify];rw[if_neg (by omega),hq2]
 .show w.heap.size<=((w.alloc (.cells cs e)).setCell ⟨b,1,none⟩ (.slice (some ⟨w.heap.size,0,none⟩) 0 cs.size)).heap.size;simp only[World.setCell,Array.size_modify];exact(Grow.of_below (Ext.one w _).below).size
 .show((w.alloc (.cells cs e)).setCell ⟨b,1,none⟩ (.slice (some ⟨w.heap.size,0,none⟩) 0 cs.size)).heap[k]? = _;simp only[World.setCell,Array.getElem?_modify];rw[if_neg (λe=>hne e.symm)];exact Lib.alloc_old w _ k hk
set_option maxHeartbeats 2000000 in
set_option maxRecDepth 1000000 in
theorem Any.Builder_grow_f(L:Lays.n241 P ρ)(X:Builder.Extra P ρ)(b n:Nat)(w:World)(hbk:w.heap[b]? = some (.cells #[.pointer (some ⟨b,0,none⟩),.slice none 0 0] (ρ.t 72) (0,0)))(hn:n<=281474976710656) :
  Calls P (ρ.f 241) #[.pointer (some ⟨b,0,none⟩),.int .i64 n] w λe w'=>e = .returned (.tuple #[])/\fd_ (ρ.t 72) (ρ.t 5) b w w':=by
 obtain⟨cs,hrun,hle,hmax⟩:=Lib.run_makeNoZero (P:=P) w.drew #[(ρ.t 3)] (ρ.t 37) (ρ.t 5) L.t37 n hn;have hw:IntKind.i64.wrap (IntKind.i64.wrap 0+(n:Int))=n:=by
  rw[IntKind.wrap_i64,IntKind.wrap_i64];omega
 have hcall:(callFunc (ρ.f 277) #[.int .i64 (IntKind.i64.wrap (IntKind.i64.wrap 0+(n:Int)))]).run P w.drew = .ok (.value (.slice (some ⟨w.drew.heap.size,0,none⟩) n cs.size)) (w.drew.drew.drew.alloc (.cells cs (ρ.t 5))):=by
  rw[hw,run_callFunc_extern L.f277 (by kernel_rfl) (by kernel_rfl) (by kernel_rfl) (e:=Extern.BytealgMakeNoZero.makeNoZero #[(ρ.t 3)] #[(ρ.t 37)]) (by kernel_rfl),hrun];rfl
 have c1:w.drew.cell? ⟨b,1,none⟩=some (.slice none 0 0):=by
  have:w.drew.heap[b]? = _:=hbk;rw[Lib.cell_of_heap this];rfl
 have c2:(w.alloc (.cells cs (ρ.t 5))).cell? ⟨b,1,none⟩=some (.slice none 0 0):=by
  have hlt:b<w.heap.size:=by
   rcases Nat.lt_or_ge b w.heap.size with h'|h'
   .exact h'
   .simp[Array.getElem?_eq_none h']at hbk
  have:(w.alloc (.cells cs (ρ.t 5))).heap[b]? = _:=(Lib.alloc_old w _ b hlt).trans hbk;rw[Lib.cell_of_heap this];rfl
 have f2:(w.alloc (.cells cs (ρ.t 5))).frozen? ⟨b,1,none⟩=false:=by
  have hlt:b<w.heap.size:=by
   rcases Nat.lt_or_ge b w.heap.size with h'|h'
   .exact h'
   .simp[Array.getElem?_eq_none h']at hbk
  exact Lib.frozen_of_heap ((Lib.alloc_old w _ b hlt).trans hbk) 1
 have hcopy:∀W:World,(Builtin.copy_ #[(ρ.t 37),(ρ.t 37)] (ρ.t 3) #[.slice (some ⟨w.heap.size,0,none⟩) 0 cs.size,.slice none 0 0]).run P W = .ok (goInt 0) W :=
  λW=>run_copy_none W (ρ.t 37) (ρ.t 37) (ρ.t 3) (ρ.t 5) _ _ 0 cs.size 0 0 L.t37 X.sizeByte rfl
 clear hw;have mixed:=L.mixed;have t72:=L.t72;have a72:=L.a72;have z72:=L.z72;have v72:=L.v72;have u72:=run_underlying L.t72;have t70:=L.t70;have a70:=L.a70;have z70:=L.z70;have v70:=L.v70;have u70:=run_underlying L.t70;have t37:=L.t37;have a37:=L.a37;have z37:=L.z37;have v37:=L.v37;have u37:=run_underlying L.t37;have t3:=L.t3;have a3:=L.a3;have z3:=L.z3;have v3:=L.v3;have u3:=run_underlying L.t3;have t5:=X.t5;have a5:=X.a5;have z5:=X.z5;have v5:=X.v5;have u5:=run_underlying X.t5
 go_enter L.f241,Body.n241_ntmps ρ
 go_wp2
 have hfin:=grownF_row (T:=(ρ.t 72)) (e:=(ρ.t 5)) (cs:=cs) hbk (hmax (by unfold maxLen;omega))
 go_region_o
 all_goals (go_wp2;go_end0;exact⟨rfl,hfin⟩)
set_option maxHeartbeats 2000000 in
set_option maxRecDepth 1000000 in
theorem Any.Builder_Grow_f(L:Lays.n165 P ρ)(X:Builder.Extra P ρ)(b n:Nat)(w:World)(hbk:w.heap[b]? = some (.cells #[.pointer none,.slice none 0 0] (ρ.t 72) (0,0)))(hn:n<=281474976710656) :
  Calls P (ρ.f 165) #[.pointer (some ⟨b,0,none⟩),.int .i64 n] w λe w'=>e = .returned (.tuple #[])/\fd_ (ρ.t 72) (ρ.t 5) b w w':=by
 have hbk1:(w.setCell ⟨b,0,none⟩ (.pointer (some ⟨b,0,none⟩))).heap[b]? = some (.cells #[.pointer (some ⟨b,0,none⟩),.slice none 0 0] (ρ.t 72) (0,0)):=by
  simp[World.setCell,Array.getElem?_modify,hbk]
 have c1:(w.setCell ⟨b,0,none⟩ (.pointer (some ⟨b,0,none⟩))).cell? ⟨b,1,none⟩=some (.slice none 0 0):=by rw[Lib.cell_of_heap hbk1];rfl
 have hsz:(w.setCell ⟨b,0,none⟩ (.pointer (some ⟨b,0,none⟩))).heap.size=w.heap.size:=by simp[World.setCell]
 have hoth:∀k,k≠b->(w.setCell ⟨b,0,none⟩ (.pointer (some ⟨b,0,none⟩))).heap[k]? = w.heap[k]? := λk hk=>by
  simp only[World.setCell,Array.getElem?_modify];rw[if_neg (λe=>hk e.symm)]
 have mixed:=L.mixed;have t72:=L.t72;have a72:=L.a72;have z72:=L.z72;have v72:=L.v72;have u72:=run_underlying L.t72;have t70:=L.t70;have a70:=L.a70;have z70:=L.z70;have v70:=L.v70;have u70:=run_underlying L.t70;have t37:=L.t37;have a37:=L.a37;have z37:=L.z37;have v37:=L.v37;have u37:=run_underlying L.t37;have t3:=L.t3;have a3:=L.a3;have z3:=L.z3;have v3:=L.v3;have u3:=run_underlying L.t3;have t9:=L.t9;have a9:=L.a9;have z9:=L.z9;have v9:=L.v9;have u9:=run_underlying L.t9;have t4:=L.t4;have a4:=L.a4;have z4:=L.z4;have v4:=L.v4;have u4:=run_underlying L.t4;have t164:=L.t164;have a164:=L.a164;have z164:=L.z164;have v164:=L.v164;have u164:=run_underlying L.t164
 have t5:=X.t5;have a5:=X.a5;have z5:=X.z5;have v5:=X.v5;have u5:=run_underlying X.t5;have e240:∀args w,(callFunc (ρ.f 240) args).run P w = .ok (.enter (ρ.f 240) args) w:=enters_of L.f240 (by kernel_rfl) rfl;have e241:∀args w,(callFunc (ρ.f 241) args).run P w = .ok (.enter (ρ.f 241) args) w:=enters_of L.f241 (by kernel_rfl) rfl
 go_enter L.f165,Body.n165_ntmps ρ
 have hU:fd_ (ρ.t 72) (ρ.t 5) b w (w.setCell ⟨b,0,none⟩ (.pointer (some ⟨b,0,none⟩))):=⟨none,0,hbk1,.inl ⟨rfl,rfl⟩,⟨rfl,rfl,rfl,by rw[hsz];exact Nat.le_refl _⟩,λk _ hne=>hoth k hne⟩;have hV:∀w',fd_ (ρ.t 72) (ρ.t 5) b (w.setCell ⟨b,0,none⟩ (.pointer (some ⟨b,0,none⟩))).drew w'->fd_ (ρ.t 72) (ρ.t 5) b w w':=λw' ⟨A,cap,h1,h2,h3,h4⟩=>by
  have hg:Grow w (w.setCell ⟨b,0,none⟩ (.pointer (some ⟨b,0,none⟩))).drew:=⟨rfl,rfl,rfl,by show w.heap.size<=(w.setCell ⟨b,0,none⟩ (.pointer (some ⟨b,0,none⟩))).heap.size;rw[hsz];exact Nat.le_refl _⟩;have hs2:(w.setCell ⟨b,0,none⟩ (.pointer (some ⟨b,0,none⟩))).drew.heap.size=w.heap.size:=hsz;refine⟨A,cap,h1,?_,hg.trans h3,λk hk hne=>(h4 k (by rw[hs2];exact hk) hne).trans (hoth k hne)⟩;rcases h2 with h2|⟨q,cs,q1,q2,q3⟩
  .exact .inl h2
  .rw[hs2]at q2;exact .inr ⟨q,cs,q1,q2,q3⟩
 have c1':(w.setCell ⟨b,0,none⟩ (.pointer (some ⟨b,0,none⟩))).drew.cell? ⟨b,1,none⟩=some (.slice none 0 0):=c1
 go_wp2_with (go_at_fn (ρ.f 240);refine(Any.Builder_copyCheck_fresh { L with } X.toX72 b w (by rw[Lib.cell_of_heap hbk];rfl) (by simp[World.shape?,hbk]) (Lib.frozen_of_heap hbk 0)).mono ?_;rintro e w' ⟨rfl,rfl⟩)
 go_region_o
 all_goals go_wp2_with (go_at_fn (ρ.f 241);refine(Any.Builder_grow_f { L with } X b n (w.setCell ⟨b,0,none⟩ (.pointer (some ⟨b,0,none⟩))).drew hbk1 hn).mono ?_;rintro e w' ⟨rfl,h1⟩)
 all_goals first
  | (go_end0;exact⟨rfl,hV _ h1⟩)
  | (go_end0;exact⟨rfl,hU⟩)
  | (go_end0;exact⟨rfl,hV _ ⟨none,0,hbk1,.inl ⟨rfl,rfl⟩,⟨rfl,rfl,rfl,Nat.le_refl _⟩,λ_ _ _=>rfl⟩⟩)
set_option maxHeartbeats 2000000 in
set_option maxRecDepth 1000000 in
theorem Any.Builder_Grow_u(L:Lays.n165 P ρ)(X:Builder.Extra P ρ)(b n:Nat)(w:World)(hbk:w.heap[b]? = some (.cells #[.pointer (some ⟨b,0,none⟩),.slice none 0 0] (ρ.t 72) (0,0)))(hn:n<=281474976710656) :
  Calls P (ρ.f 165) #[.pointer (some ⟨b,0,none⟩),.int .i64 n] w λe w'=>e = .returned (.tuple #[])/\fd_ (ρ.t 72) (ρ.t 5) b w w':=by
 have c1:w.cell? ⟨b,1,none⟩=some (.slice none 0 0):=by rw[Lib.cell_of_heap hbk];rfl
 have mixed:=L.mixed;have t72:=L.t72;have a72:=L.a72;have z72:=L.z72;have v72:=L.v72;have u72:=run_underlying L.t72;have t70:=L.t70;have a70:=L.a70;have z70:=L.z70;have v70:=L.v70;have u70:=run_underlying L.t70;have t37:=L.t37;have a37:=L.a37;have z37:=L.z37;have v37:=L.v37;have u37:=run_underlying L.t37;have t3:=L.t3;have a3:=L.a3;have z3:=L.z3;have v3:=L.v3;have u3:=run_underlying L.t3;have t9:=L.t9;have a9:=L.a9;have z9:=L.z9;have v9:=L.v9;have u9:=run_underlying L.t9;have t4:=L.t4;have a4:=L.a4;have z4:=L.z4;have v4:=L.v4;have u4:=run_underlying L.t4;have t164:=L.t164;have a164:=L.a164;have z164:=L.z164;have v164:=L.v164;have u164:=run_underlying L.t164
 have t5:=X.t5;have a5:=X.a5;have z5:=X.z5;have v5:=X.v5;have u5:=run_underlying X.t5;have e240:∀args w,(callFunc (ρ.f 240) args).run P w = .ok (.enter (ρ.f 240) args) w:=enters_of L.f240 (by kernel_rfl) rfl;have e241:∀args w,(callFunc (ρ.f 241) args).run P w = .ok (.enter (ρ.f 241) args) w:=enters_of L.f241 (by kernel_rfl) rfl
 go_enter L.f165,Body.n165_ntmps ρ
 have hU:fd_ (ρ.t 72) (ρ.t 5) b w w:=⟨none,0,hbk,.inl ⟨rfl,rfl⟩,Grow.refl w,λ_ _ _=>rfl⟩;have hV:∀w',fd_ (ρ.t 72) (ρ.t 5) b w.drew w'->fd_ (ρ.t 72) (ρ.t 5) b w w':=λw' ⟨A,cap,h1,h2,h3,h4⟩=>⟨A,cap,h1,h2,(show Grow w w.drew from⟨rfl,rfl,rfl,Nat.le_refl _⟩).trans h3,h4⟩
 have c1':w.drew.cell? ⟨b,1,none⟩=some (.slice none 0 0):=c1
 go_wp2_with (go_at_fn (ρ.f 240);refine(Any.Builder_copyCheck_used { L with } X.toX72 b w (by rw[Lib.cell_of_heap hbk];rfl)).mono ?_;rintro e w' ⟨rfl,hw⟩;rw[hw];clear hw w')
 go_region_o
 all_goals go_wp2_with (go_at_fn (ρ.f 241);refine(Any.Builder_grow_f { L with } X b n w.drew hbk hn).mono ?_;rintro e w' ⟨rfl,h1⟩)
 all_goals first
  | (go_end0;exact⟨rfl,hV _ h1⟩)
  | (go_end0;exact⟨rfl,hU⟩)
  | (go_end0;exact⟨rfl,hV _ ⟨none,0,hbk,.inl ⟨rfl,rfl⟩,Grow.refl _,λ_ _ _=>rfl⟩⟩)
end Go.Proofs
namespace Go
namespace Rt
open Go.RowKit Go.Proofs Go.Shelf
section
variable{P:Program}{E:TE}{z:Fz}{g:Ga}{w w' w0:World}{Bs:List Nat}{F0:Nat->Prop}{H H':Nat->Option (Obj E)}
theorem HR.know{n:Nat}{o:Obj E}(h:HR P E Bs F0 w0 w z g H)(ho:ObjR P E z g w n o)(hf:∀k,fpO g n o k->w0.heap.size<=k/\¬z.F k/\∀j p,H j=some p->¬fpO g j p k):HR P E Bs F0 w0 w z g (upH H [(n,some o)]):=by
 refine⟨h.chg,λj p e => ?_,λj p k e hk => ?_,λj j' p p' k hj e e' hk hk' => ?_,h.fz,h.fz0,λj p k e hk => ?_,h.gl⟩
 .rcases aV_ e with⟨rfl,rfl⟩|⟨_,h2⟩
  .exact ho
  .exact h.hold j p h2
 .rcases aV_ e with⟨rfl,rfl⟩|⟨_,h2⟩
  .exact .inl (hf k hk).1
  .exact h.own j p k h2 hk
 .rcases aV_ e with⟨rfl,rfl⟩|⟨_,h2⟩<;>rcases aV_ e' with⟨rfl,rfl⟩|⟨_,h2'⟩
  .exact hj rfl
  .exact(hf k hk).2.2 j' p' h2' hk'
  .exact(hf k hk').2.2 j p h2 hk
  .exact h.apart j j' p p' k hj h2 h2' hk hk'
 .rcases aV_ e with⟨rfl,rfl⟩|⟨_,h2⟩
  .exact(hf k hk).2.1
  .exact h.fza j p k h2 hk
def growI(E:TE)(e:TypeId):InlF E:=λH nx xs _ k=>match xs with
 | [.one (.ptr id 0),.one (.dt (.int .i64) n)]=>match H id with
  | some (.box T [.sbp id',.nils])=>match Nat.beq id id'&&E.sb T with
   | true=>Option.bind (growB [] n) λz=>k (some (.tup [])) [(id,some (.box T [.sbp id,.own nx])),(nx,some (.row e (.int .u8) z []))]
   | false=>none
  | _=>none
 | _=>none
theorem growI_ok {ρ:Ren} (L:Lays.n165 P ρ) (X:Builder.Extra P ρ) (hsz:E.size (.int .u8)=1) (hsb:∀T,E.sb T=true->T=ρ.t 72):InlOK P E (ρ.f 165) (growI E (ρ.t 5)):=by
 intro z g nx H xs vs R k r Bs F0 w0 w hnx hH hv h;unfold growI at h;split at h
 .rename_i id n;split at h
  .rename_i T id' hi;split at h
   .rename_i hb;simp only[qAn]at hb;obtain rfl:=qNb hb.1;have hT:=hsb T hb.2;subst hT;obtain⟨y,hy,hk9⟩:=bind_some h;clear h;unfold growB at hy;cases hc:(decide (0<=n)&&decide (n<=281474976710656))with
    | false=>rw[hc]at hy;cases hy
    | true =>
     rw[hc]at hy;simp only[qAn,qDe]at hc;obtain rfl:=qSj (show some ([]:List Int)=some y from hy);cases hv with
     | cons v1 hv=>cases hv with
      | cons v2 hv =>
       cases hv
       obtain⟨l,h1,rfl⟩:=v1;obtain⟨vs2,e2,_⟩:=RD.int_inv (show RD E z [.int .i64] (n,()) _ from v2);obtain⟨rfl,_⟩:=List.cons.inj e2;obtain⟨n,rfl⟩:∃q:Nat,n=(q:Int):=⟨Int.toNat n,(Int.toNat_of_nonneg hc.1).symm⟩;have hn2:(n:Int)<=281474976710656:=hc.2;obtain⟨l',us,h2,h3,h4⟩:=hH.hold _ _ hi;rw[h1]at h2;obtain rfl:=qSj h2;cases h4 with
       | cons c1 h4=>cases h4 with
        | cons c2 h4 =>
         cases h4
         rename_i u1 u2;obtain rfl:u2 = .slice none 0 0:=c2;obtain⟨l2,h5,h6⟩:=c1;rw[h1]at h5;obtain rfl:=qSj h5
         -- what the world is behind it
         have key:Calls P (ρ.f 165) #[.pointer (some ⟨l.b,0,none⟩),.int .i64 n] w λe w'=>e = .returned (.tuple #[])/\fd_ (ρ.t 72) (ρ.t 5) l.b w w':=by
          rcases h6 with rfl|rfl
          .exact Any.Builder_Grow_f L X l.b n w h3 (by omega)
          .exact Any.Builder_Grow_u L X l.b n w h3 (by omega)
         refine Calls.mono key λe w' ⟨he,A,cap,q1,q2,q3,q4⟩ => ?_
         have hnn:g nx=none:=hnx.self;have hid:id≠nx:=λe=>by rw[e,hnn]at h1;cases h1
         have hlt:l.b<w.heap.size:=by
          rcases Nat.lt_or_ge l.b w.heap.size with h'|h'
          .exact h'
          .rw[Array.getElem?_eq_none h']at h3;cases h3
         refine⟨_,he,.tup [],_,z,g.put nx ⟨A,0,cap,1,0,0⟩,hk9,Fz.Le.refl z,Ga.le_put hnn,Fresh.nxU λi hi=>hnx.put _ i (by omega),⟨[],rfl,.nil⟩,?_⟩;have step1:HR P E Bs F0 w0 w' z (g.put nx ⟨A,0,cap,1,0,0⟩) (upH H [(id,some (.box (ρ.t 72) [.sbp id,.own nx]))]):=by
          refine hH.turn (Ga.le_put hnn) (i:=id) (i':=id) (C:=λk=>k=l.b) (λk hk=>⟨_,hi,l,h1,hk⟩) q3 (λk hk hne=>q4 k hk hne) (o' := .box (ρ.t 72) [.sbp id,.own nx]) ?_ (λk hk => ?_) λj p hj => ?_
          .refine⟨l,_,Ga.le_put hnn _ _ h1,q1,.cons ⟨l,Ga.le_put hnn _ _ h1,.inr rfl⟩ (.cons ⟨_,Ga.put_self _ _ _,rfl⟩ .nil)⟩
          .obtain⟨l2,h5,rfl⟩:=hk;rw[Ga.le_put hnn _ _ h1]at h5;obtain rfl:=qSj h5;exact .inl rfl
          .rcases aV_ hj with⟨rfl,rfl⟩|⟨h5,h6⟩
           .exact .inl ⟨rfl,rfl⟩
           .exact .inr ⟨h5,.inl h5,h6⟩
         have e4:upH H [(id,some (.box (ρ.t 72) [.sbp id,.own nx])),(nx,some (.row (ρ.t 5) (.int .u8) ([]:List Int) []))]=upH (upH H [(id,some (.box (ρ.t 72) [.sbp id,.own nx]))]) [(nx,some (.row (ρ.t 5) (.int .u8) ([]:List Int) []))]:=by
          funext j
          simp only[upH];cases hj:Nat.beq j id with
          | false=>rfl
          | true =>
           have:Nat.beq j nx=false:=by
            cases hn:Nat.beq j nx with
            | false=>rfl
            | true=>exact absurd ((qNb hj).symm.trans (qNb hn)) hid
           rw[this]
         rw[e4];refine step1.know ?_ λk hk => ?_
         .refine⟨_,[],Ga.put_self _ _ _,rfl,hsz.symm,⟨rfl,?_⟩,rfl,(λr hr=>nomatch hr),(λi x r hx=>by simp at hx),λp hp=>nomatch hp⟩;rcases q2 with⟨rfl,rfl⟩|⟨q,cs,rfl,_,hq,hcs,hcm⟩
          .exact .inl ⟨rfl,rfl⟩
          .exact .inr ⟨q,cap,cs,rfl,Nat.zero_le _,hq,Nat.zero_le _,hcm,by rw[hcs,Nat.mul_one],by simp⟩
         .obtain⟨l2,a2,h5,h6,rfl⟩:=hk;rw[Ga.put_self]at h5;obtain rfl:=qSj h5;rcases q2 with⟨rfl,_⟩|⟨q,cs,rfl,hq0,hq,hcs,hcm⟩
          .cases h6
          .obtain rfl:=qSj h6;refine⟨Nat.le_trans hH.size hq0,λhz => ?_,λj p hj hfp => ?_⟩
           .have:=(hH.fz _ hz).1;have:q<w.heap.size:=this;omega
           .rcases aV_ hj with⟨rfl,rfl⟩|⟨h7,h8⟩
            .obtain⟨l3,h9,h10⟩:=hfp;rw[Ga.le_put hnn _ _ h1]at h9;obtain rfl:=qSj h9;have:q=l.b:=h10;omega
            .have h11:=(gM_ (hH.hold j p h8).loc (Ga.le_put hnn)).1 hfp;have:q<w.heap.size:=(hH.hold j p h8).lt h11;omega
   .cases h
  .cases h
 .cases h
end
end Rt
end Go
namespace Go.Proofs
open Go.Shelf
def Tryz.laysGrow_ren:Go.Shelf.Ren:=⟨λ | 165=>67 | 240=>104 | 241=>107 | 276=>139 | 277=>142|n=>n,λ | 70=>91 | 3=>3 | 0=>0 | 4=>4 | 9=>9 | 20=>20 | 72=>94 | 37=>92 | 164=>168 | 5=>5|n=>n,λ|n=>n⟩
theorem Tryz.laysGrow:Go.Proofs.Lays.n165 Tryz.prog Tryz.laysGrow_ren:={
 mixed:=by kernel_rfl
 f165:=Tryz.func67.trans (congrArg some (by kernel_rfl))
 f240:=Tryz.func104.trans (congrArg some (by kernel_rfl))
 f241:=Tryz.func107.trans (congrArg some (by kernel_rfl))
 f276:=Tryz.func139.trans (congrArg some (by kernel_rfl))
 f277:=Tryz.func142.trans (congrArg some (by kernel_rfl))
 t0:=Tryz.underlying0
 a0:=Tryz.isAgg0
 z0:=Tryz.sizeOf0
 v0:=Tryz.zeroValue0
 t3:=Tryz.underlying3
 a3:=Tryz.isAgg3
 z3:=Tryz.sizeOf3
 v3:=Tryz.zeroValue3
 t4:=Tryz.underlying4
 a4:=Tryz.isAgg4
 z4:=Tryz.sizeOf4
 v4:=Tryz.zeroValue4
 t9:=Tryz.underlying9
 a9:=Tryz.isAgg9
 z9:=Tryz.sizeOf9
 v9:=Tryz.zeroValue9
 t20:=Tryz.underlying20
 a20:=Tryz.isAgg20
 z20:=Tryz.sizeOf20
 v20:=Tryz.zeroValue20
 t37:=Tryz.underlying92
 a37:=Tryz.isAgg92
 z37:=Tryz.sizeOf92
 v37:=Tryz.zeroValue92
 t70:=Tryz.underlying91
 a70:=Tryz.isAgg91
 z70:=Tryz.sizeOf91
 v70:=Tryz.zeroValue91
 t72:=Tryz.underlying94
 a72:=Tryz.isAgg94
 z72:=Tryz.sizeOf94
 v72:=Tryz.zeroValue94
 t164:=Tryz.underlying168
 a164:=Tryz.isAgg168
 z164:=Tryz.sizeOf168
 v164:=Tryz.zeroValue168 }
end Go.Proofs
namespace Go.Proofs.YtbdcelleafhelaaGreatDoor
open Go.Shelf Go.RowKit Go.Rt
theorem Tryz.extraGrow:Builder.Extra Tryz.prog Tryz.laysGrow_ren where
 sizeBuilder:=by kernel_rfl
 liesBuilder:=by kernel_rfl
 t5:=Tryz.underlying5
 a5:=Tryz.isAgg5
 z5:=Tryz.sizeOf5
 v5:=Tryz.zeroValue5
 infoByte:=by kernel_rfl
 cellsByte:=by kernel_rfl
 sizeByte:=by kernel_rfl
 neB5:=by decide
theorem fGrow:Tryz.laysGrow_ren.f 165=67:=by kernel_rfl
theorem tGrow:Tryz.laysGrow_ren.t 5=5:=by kernel_rfl
def nb_:InlF te:=growI te 5
theorem mN_:InlOK Tryz.prog te 67 nb_/\cE_ Tryz.prog 67=true:=by
 refine⟨?_,by kernel_rfl⟩;have h:InlOK Tryz.prog te (Tryz.laysGrow_ren.f 165) (growI te (Tryz.laysGrow_ren.t 5)):=growI_ok (E:=te) Tryz.laysGrow Tryz.extraGrow (by kernel_rfl) λT hT=>(qNb hT:T=94)
 rw[fGrow,tGrow]at h;exact @h
end Go.Proofs.YtbdcelleafhelaaGreatDoor
namespace Go.Proofs
open Go.Shelf
def Tryz.laysIndexByte_ren:Go.Shelf.Ren:=⟨λ | 217=>153 | 266=>178|n=>n,λ | 9=>9 | 5=>5 | 3=>3|n=>n,λ|n=>n⟩
theorem Tryz.laysIndexByte:Go.Proofs.Lays.n217 Tryz.prog Tryz.laysIndexByte_ren:={
 mixed:=by kernel_rfl
 f217:=Tryz.func153.trans (congrArg some (by kernel_rfl))
 f266:=Tryz.func178.trans (congrArg some (by kernel_rfl))
 t3:=Tryz.underlying3
 a3:=Tryz.isAgg3
 z3:=Tryz.sizeOf3
 v3:=Tryz.zeroValue3
 t5:=Tryz.underlying5
 a5:=Tryz.isAgg5
 z5:=Tryz.sizeOf5
 v5:=Tryz.zeroValue5
 t9:=Tryz.underlying9
 a9:=Tryz.isAgg9
 z9:=Tryz.sizeOf9
 v9:=Tryz.zeroValue9 }
end Go.Proofs
namespace Go.Proofs.YtbdcelleafhelaaGreatDoor
open Go.Shelf Go.RowKit Go.Rt
theorem fIndexByte:Tryz.laysIndexByte_ren.f 217=153:=by kernel_rfl
theorem of_:∀(s:Str) (c:UInt8),dy_ s c=Lib.indexByte s c
 | [],_=>rfl
 | b::l,c=>by simp only[dy_,Lib.indexByte,of_ l c]
theorem W_IndexByte(x0:Str)(x1:Int)(r:Int)(hF:stringslite_IndexByte x0 x1=some r)(w0:World):Ret Tryz.prog 153 #[S x0,.int .u8 x1] w0 λv w=>v = .int .i64 r/\Ext w0 w:=by
 unfold stringslite_IndexByte at hF;simp only[qOi]at hF;subst hF;have hh:=Any.stringslite_IndexByte Tryz.laysIndexByte ⟨x0.toArray⟩ x1 w0;rw[fIndexByte]at hh;refine Calls.mono hh λe w ⟨he,hb⟩=>⟨_,he,?_,?_⟩
 .simp[of_]
 .subst hb;exact Ext.refl _
def iH_:Con te:=af_ te [.d .str,.d (.int .u8)] [(.int .i64,[])] false λa=>stringslite_IndexByte a.1 a.2.1
theorem con_bind{ps:List Pm}{rs:Rs}{ali:Bool}{f:PA te ps->Option (Tp te.S (rs.ts++aL_ ps))}{R:Type}{a:PA te ps}{k:HL te.S rs.ts->HL te.S (aL_ ps)->Option R}{r:R}(hr:(af_ te ps rs ali f).F R a k=some r):∃y,f a=some y/\k (hfst rs.ts (aL_ ps) (bK_ _ y)) (hsnd rs.ts (aL_ ps) (bK_ _ y))=some r:=bind_some hr
theorem hw_:Con.OK Tryz.prog te 153 iH_/\cE_ Tryz.prog 153=true:=by
 refine⟨λR a k r hr => ?_,by kernel_rfl⟩;obtain⟨y,h1,h2⟩:=con_bind (ps:=[.d .str,.d (.int .u8)]) (rs:=[(.int .i64,[])]) (ali:=false) (f:=λa=>stringslite_IndexByte a.1 a.2.1) hr;exact⟨_,_,h2,jM_ (y:=y) rfl rfl rfl rfl rfl λw=>W_IndexByte a.1 a.2.1 y h1 w⟩
end Go.Proofs.YtbdcelleafhelaaGreatDoor
namespace Go
namespace Rt
open Go.RowKit Go.Shelf Go.Sort Go.Proofs Go.Lib
section
variable{P:Program}{E:TE}{z:Fz}{g:Ga}{w w' w0:World}{Bs:List Nat}{F0:Nat->Prop}
theorem splice_nil(cs:List Value)(o:Nat):splice cs o []=cs:=by
 simp[splice]
theorem splice_cons(cs:List Value)(o:Nat)(v:Value)(vs:List Value)(h:o<cs.length):splice (cs.set o v) (o+1) vs=splice cs o (v::vs):=by
 unfold splice;rw[List.take_set,List.take_succ_eq_append_getElem h,List.drop_set_of_lt (by omega),List.set_append_right _ _ (by rw[List.length_take];omega),List.length_take,Nat.min_eq_left (by omega)];simp;rw[show o+1+vs.length=o+(vs.length+1)by omega]
theorem setCell_heap{b o:Nat}{e:TypeId}{cs:List Value}{v:Value}(h:w.heap[b]? = some (.cells cs.toArray e (0,0))):(w.setCell ⟨b,o,none⟩ v).heap[b]? = some (.cells (cs.set o v).toArray e (0,0)):=by
 unfold World.setCell;simp only[Array.getElem?_modify,if_true,h,Option.map_some,Option.isSome_none,Bool.false_eq_true,if_false];simp
theorem setCell_else{b o k:Nat}{v:Value}(h:k≠b):(w.setCell ⟨b,o,none⟩ v).heap[k]? = w.heap[k]? := by
 unfold World.setCell;simp only[Array.getElem?_modify];rw[if_neg λe=>h e.symm]
theorem setCell_grow{b o:Nat}{v:Value}:Grow w (w.setCell ⟨b,o,none⟩ v):=⟨rfl,rfl,rfl,by simp[World.setCell]⟩
theorem eo_{b:Nat}{e:TypeId}:∀(vs:List Value) (o:Nat) (cs:List Value) (w:World),w.heap[b]? = some (.cells cs.toArray e (0,0))->o+vs.length<=cs.length->(w.setCells b o vs).heap[b]? = some (.cells (splice cs o vs).toArray e (0,0))/\Grow w (w.setCells b o vs)/\∀k,k≠b->(w.setCells b o vs).heap[k]? = w.heap[k]?
 | [],o,cs,w,h,hl=>⟨by rw[splice_nil];exact h,Grow.refl w,λ_ _=>rfl⟩
 | v::vs,o,cs,w,h,hl=>by
  simp only[qLc]at hl;obtain⟨h1,h2,h3⟩:=eo_ vs (o+1) (cs.set o v) (w.setCell ⟨b,o,none⟩ v) (setCell_heap h) (by simp;omega);rw[splice_cons _ _ _ _ (by omega)]at h1;exact⟨h1,setCell_grow.trans h2,λk hk=>(h3 k hk).trans (setCell_else hk)⟩
theorem og_(o:Go.Obj):Grow w (w.drew.alloc o):=(show Grow w w.drew from⟨rfl,rfl,rfl,Nat.le_refl _⟩).trans (Grow.of_below (Ext.one w.drew _).below)
theorem insN_some{α:Type}{by_:Nat}{xs ys zs:List α}{i:Int}(h:insN by_ xs i ys=some zs):0<ys.length/\0<=i/\i<=(xs.length:Int)/\(xs.length+ys.length)*by_<=140737488355328/\zs=xs.take i.toNat++(ys++xs.drop i.toNat):=by
 cases ys with
 | nil=>cases h
 | cons y l =>
  simp only[insN]at h;split at h
  .rename_i hc;obtain rfl:=qSj h;exact⟨Nat.succ_pos _,hc.1,hc.2.1,hc.2.2,rfl⟩
  .cases h
end
section
variable{P:Program}{ρ:Ren}
theorem row_cell{w:World}{b:Nat}{cs:List Value}{e:TypeId}(hh:w.heap[b]? = some (.cells cs.toArray e (0,0)))(t:Nat):w.cell? ⟨b,t,none⟩=cs[t]? := by
 rw[cell_of_row w b t _ e (0,0) hh];simp
theorem row_free{w:World}{b:Nat}{cs:Array Value}{e:TypeId}(hh:w.heap[b]? = some (.cells cs e (0,0)))(t:Nat):w.frozen? ⟨b,t,none⟩=false:=by
 unfold World.frozen?;simp only[hh];simp
end
section
variable{P:Program}{ρ:Ren}{E:TE}{z:Fz}{g:Ga}{w w' w0:World}{Bs:List Nat}{F0:Nat->Prop}
theorem take_flatten{rows:List (List Value)}{c:Nat}(hr:∀r∈rows,r.length=c){i:Nat}(hi:i<=rows.length):(rows.take i).flatten=rows.flatten.take (i*c)/\(rows.drop i).flatten=rows.flatten.drop (i*c):=by
 have e1:rows.flatten=(rows.take i).flatten++(rows.drop i).flatten:=by rw[←List.flatten_append,List.take_append_drop]
 have e2:(rows.take i).flatten.length=i*c:=by rw[aq_ (λr h=>hr r (List.mem_of_mem_take h)),List.length_take,Nat.min_eq_left hi]
 rw[e1,←e2];constructor
 .rw[List.take_left]
 .rw[List.drop_left]
end
section
variable{P:Program}{ρ:Ren}
theorem e3_(w:World)(dT sT ty elem:TypeId)(b o dLen dCap:Nat)(a:Addr)(sLen sCap c:Nat)(cs:List Value)
  (hu:P.underlying dT=some (.slice elem)) (hs:(P.info? elem).map (·.size)=some c) (hn:cs.length=Nat.min sLen dLen*c)
  (hsrc:∀j v,cs[j]? = some v->w.cell? (a.add j)=some v) (hc:∀j,j<cs.length->(w.cell? ⟨b,o+j,none⟩).isSome=true) (hf:∀j,j<cs.length->w.frozen? ⟨b,o+j,none⟩=false) (h1:∀v∈cs,v.oneCell'=true) :
  (Builtin.copy_ #[dT,sT] ty #[.slice (some ⟨b,o,none⟩) dLen dCap,.slice (some a) sLen sCap]).run P w = .ok (goInt ((Nat.min sLen dLen:Nat):Int)) (w.setCells b o cs):=by
 have hl:=run_loadCells_list (P:=P) w a cs hsrc;have hst:=run_storeCells_cells (P:=P) b o cs 0 w (by simpa using hc) (by simpa using hf) h1;cases hq:P.info? elem with
 | none=>simp[hq]at hs
 | some i =>
  have hi:i.size=c:=by simpa[hq]using hs
  simp[Builtin.copy_,run_underlying hu,Builtin.lenOf,Builtin.firstCells,sizeOf,typeInfo,hq,hi,←hn,hl,hst]
structure InsL(P:Program)(ρ:Ren)(c bytes:Nat)(zc:Array Value):Prop where
 mixed:P.follows .mixedOrders=true
 f22:Bears P (ρ.f 22) (Body2.n22 ρ)
 ov:∀args w,(callFunc (ρ.f 29) args).run P w=((Extern.SlicesOverlaps.overlaps #[(ρ.t 24),(ρ.t 24)] #[(ρ.t 4)] args).run P w).andThen λv w' => .ok (.value v) w'
 t0:P.underlying (ρ.t 0)=some (TypeDesc.tuple #[])
 a0:∀w,(isAgg (ρ.t 0)).run P w = .ok false w
 z0:∀w,(Go.sizeOf (ρ.t 0)).run P w = .ok 1 w
 v0:∀w,(zeroValue (ρ.t 0)).run P w = .ok (Value.tuple #[]) w
 t3:P.underlying (ρ.t 3)=some (TypeDesc.int IntKind.i64)
 a3:∀w,(isAgg (ρ.t 3)).run P w = .ok false w
 z3:∀w,(Go.sizeOf (ρ.t 3)).run P w = .ok 1 w
 v3:∀w,(zeroValue (ρ.t 3)).run P w = .ok (Value.int IntKind.i64 0) w
 t4:P.underlying (ρ.t 4)=some (TypeDesc.bool)
 a4:∀w,(isAgg (ρ.t 4)).run P w = .ok false w
 z4:∀w,(Go.sizeOf (ρ.t 4)).run P w = .ok 1 w
 v4:∀w,(zeroValue (ρ.t 4)).run P w = .ok (Value.bool false) w
 t24:P.underlying (ρ.t 24)=some (TypeDesc.slice (ρ.t 9))
 a24:∀w,(isAgg (ρ.t 24)).run P w = .ok false w
 z24:∀w,(Go.sizeOf (ρ.t 24)).run P w = .ok 1 w
 v24:∀w,(zeroValue (ρ.t 24)).run P w = .ok (Value.slice none 0 0) w
 z9:∀w,(Go.sizeOf (ρ.t 9)).run P w = .ok c w
 v9:∀w,(zeroValue (ρ.t 9)).run P w = .ok (.agg zc) w
 i9:(P.info? (ρ.t 9)).map (λi=>(i.zero,i.size,i.bytes))=some (some (.agg zc),c,bytes)
 zs:zc.size=c
 c0:0<c
 zo:∀v∈zc.toList,v.oneCell'=true
set_option maxHeartbeats 4000000 in
set_option maxRecDepth 1000000 in
theorem ins_shift{c bytes:Nat}{zc:Array Value}(L:InsL P ρ c bytes zc)(b off n cap i vb voff m vc:Nat)(cs vs:List Value)(w:World)(hi:i<n)(hm:0<m)(hroom:n+m<=cap)(hc63:cap<=9223372036854775807)(hvb:vb≠b)
  (hcl:cs.length=n*c) (hvl:vs.length=m*c)
  (hcs:∀j v,cs[j]? = some v->w.cell? ⟨b,off+j,none⟩=some v) (hsp:∀j,j<(n+m)*c->(w.cell? ⟨b,off+j,none⟩).isSome=true) (hfz:∀j,j<(n+m)*c->w.frozen? ⟨b,off+j,none⟩=false)
  (hvs:∀j v,vs[j]? = some v->w.cell? ⟨vb,voff+j,none⟩=some v) (h1c:∀v∈cs,v.oneCell'=true) (h1v:∀v∈vs,v.oneCell'=true)
  (tA tB:TypeId) (kA kB:Nat) (hsa:w.shape? vb=some (tA,kA)) (hsb:w.shape? b=some (tB,kB)) (hkB:kB≠0) (hfa:w.frozen? ⟨vb,voff,none⟩=false) (hfe:w.frozen? ⟨vb,kA,none⟩=false) :
  Calls P (ρ.f 22) #[.slice (some ⟨b,off,none⟩) n cap,.int .i64 i,.slice (some ⟨vb,voff,none⟩) m vc] w λe w' =>
   e = .returned (.slice (some ⟨b,off,none⟩) (n+m) cap)/\w'=(w.drew.setCells b (off+(i+m)*c) (cs.drop (i*c))).setCells b (off+i*c) vs:=by
 have t0:=L.t0;have a0:=L.a0;have z0:=L.z0;have v0:=L.v0;have t3:=L.t3;have a3:=L.a3;have z3:=L.z3;have v3:=L.v3;have t4:=L.t4;have a4:=L.a4;have z4:=L.z4;have v4:=L.v4;have z9:=L.z9;have t24:=L.t24;have a24:=L.a24;have z24:=L.z24;have v24:=L.v24;have u0:=run_underlying L.t0;have u3:=run_underlying L.t3;have u4:=run_underlying L.t4;have u24:=run_underlying L.t24;have hz1:¬((m:Int)=0):=by omega
 have hz2:¬((i:Int)=(n:Int)):=by omega
 have hsz:(P.info? (ρ.t 9)).map (·.size)=some c:=by
  obtain⟨i0,hi0,h0,h1,h2⟩:=info_parts L.i9;rw[hi0];simp[h1]
 have e1:(n+m)*c=n*c+m*c:=Nat.add_mul _ _ _;have e2:(i+m)*c=i*c+m*c:=Nat.add_mul _ _ _;have e3:(n-i)*c=n*c-i*c:=Nat.sub_mul _ _ _;have e4:i*c<=n*c:=Nat.mul_le_mul_right _ (Nat.le_of_lt hi);have hov:∀lb cb,(callFunc (ρ.f 29) #[.slice (some ⟨vb,voff,none⟩) m vc,.slice (some ⟨b,off+(i+m)*c,none⟩) lb cb]).run P w = .ok (.value (.bool false)) w:=λlb cb=>by
  rw[L.ov,Lib.run_overlaps_apart w (ρ.t 24) (ρ.t 4) (ρ.t 9) L.t24 c L.z9 ⟨vb,voff,none⟩ ⟨b,off+(i+m)*c,none⟩ m vc lb cb hvb tA tB kA kB hsa hsb hkB hfa hfe];rfl
 have hdl:(cs.drop (i*c)).length=(n-i)*c:=by rw[List.length_drop,hcl,e3]
 have mixed:=L.mixed;have hw1:IntKind.i64.wrap ((i:Int)+(m:Int))=(i:Int)+(m:Int):=by rw[IntKind.wrap_i64];omega
 have hb1:(0:Int)<=(i:Int)+(m:Int):=by omega
 have hin:i<=n:=by omega
 have htn:((i:Int)+(m:Int)).toNat=i+m:=by omega
 have hb2:¬(cap=i+m):=by omega
 have hb3:(i:Int)<=(n:Int)+(m:Int):=by omega
 have hb4:¬(cap=i):=by omega
 have hmin1:Nat.min (n+m-i) (n+m-(i+m))=n-i:=by simp only[Nat.min_def];split<;>omega
 have hmin2:Nat.min m (n+m-i)=m:=by simp only[Nat.min_def];split<;>omega
 have hcp1:∀ty dc sc,(Builtin.copy_ #[(ρ.t 24),(ρ.t 24)] ty #[.slice (some ⟨b,off+(i+m)*c,none⟩) (n+m-(i+m)) dc,.slice (some ⟨b,off+i*c,none⟩) (n+m-i) sc]).run P w.drew = .ok (goInt ((Nat.min (n+m-i) (n+m-(i+m)):Nat):Int)) (w.drew.setCells b (off+(i+m)*c) (cs.drop (i*c))):=λty dc sc =>
  e3_ w.drew _ _ ty (ρ.t 9) b (off+(i+m)*c) (n+m-(i+m)) dc ⟨b,off+i*c,none⟩ (n+m-i) sc c (cs.drop (i*c)) L.t24 hsz (by rw[hdl,hmin1])
   (λj v hj=>by rw[Addr.add_lit,Nat.add_assoc];exact hcs (i*c+j) v (by rwa [List.getElem?_drop]at hj))
   (λj hj=>by rw[hdl]at hj;rw[Nat.add_assoc];exact hsp _ (by omega)) (λj hj=>by rw[hdl]at hj;rw[Nat.add_assoc];exact hfz _ (by omega)) (λv hv=>h1c v (List.mem_of_mem_drop hv))
 obtain⟨W1,hW1⟩:∃W1,W1=w.drew.setCells b (off+(i+m)*c) (cs.drop (i*c)):=⟨_,rfl⟩;have hsp1:∀k,k<(n+m)*c->(W1.cell? ⟨b,off+k,none⟩).isSome=true:=λk hk=>by
  rw[hW1];exact isSome_setCells b _ _ _ (λj hj=>by rw[hdl]at hj;rw[Nat.add_assoc];exact hsp _ (by omega)) _ (hsp k hk)
 have hcp2:∀(W:World),(∀x,W.cell? x=W1.cell? x)->(∀x,W.frozen? x=W1.frozen? x)->∀ty dc,(Builtin.copy_ #[(ρ.t 24),(ρ.t 24)] ty #[.slice (some ⟨b,off+i*c,none⟩) (n+m-i) dc,.slice (some ⟨vb,voff,none⟩) m vc]).run P W = .ok (goInt ((Nat.min m (n+m-i):Nat):Int)) (W.setCells b (off+i*c) vs):=λW hWc hWf ty dc =>
  e3_ W _ _ ty (ρ.t 9) b (off+i*c) (n+m-i) dc ⟨vb,voff,none⟩ m vc c vs L.t24 hsz (by rw[hvl,hmin2])
   (λj v hj=>by
    rw[Addr.add_lit,hWc,hW1,World.cell?_setCells_out b _ _ _ _ (λh _=>absurd h hvb)];exact hvs j v hj)
   (λj hj=>by rw[hvl]at hj;rw[hWc,Nat.add_assoc];exact hsp1 _ (by omega)) (λj hj=>by rw[hvl]at hj;rw[hWf,hW1,World.frozen?_setCells,Nat.add_assoc];exact hfz _ (by omega)) h1v
 rw[←hW1]at hcp1;clear e1 e2 e3 e4;obtain⟨_,_,FG⟩:=L.f22
 go_enter FG,Body2.n22_ntmps ρ
 go_wp2_with (simp only[hov])
 go_region_law_o (refine step_copy_runI rfl _ _ (ρ.t 24) (ρ.t 24) rfl _ _ (by simp[Act.eval,Act.put]) (by simp[Act.eval,Act.put]) (hcp1 _ _ _) ?_)
 go_wp2_with (at_builtin;refine wpList_copy_runI _ rfl _ _ (ρ.t 24) (ρ.t 24) rfl _ _ rfl rfl (hcp2 _ (λ_=>rfl) (λ_=>rfl) _ _) ?_)
 go_ret
 first|exact⟨rfl,rfl⟩|exact⟨rfl,by rw[hW1]⟩
set_option maxHeartbeats 4000000 in
set_option maxRecDepth 1000000 in
theorem ins_end_room{c bytes:Nat}{zc:Array Value}(L:InsL P ρ c bytes zc)(b off n cap vb voff m vc:Nat)(vs:List Value)(w:World)(hm:0<m)(hroom:n+m<=cap)(_:cap<=9223372036854775807)
  (hvl:vs.length=m*c) (hsp:∀j,j<m*c->(w.cell? ⟨b,off+n*c+j,none⟩).isSome=true) (hfz:∀j,j<m*c->w.frozen? ⟨b,off+n*c+j,none⟩=false)
  (hvs:∀j v,vs[j]? = some v->w.cell? ⟨vb,voff+j,none⟩=some v) (h1v:∀v∈vs,v.oneCell'=true) :
  Calls P (ρ.f 22) #[.slice (some ⟨b,off,none⟩) n cap,.int .i64 n,.slice (some ⟨vb,voff,none⟩) m vc] w λe w' =>
   e = .returned (.slice (some ⟨b,off,none⟩) (n+m) cap)/\w'=w.setCells b (off+n*c) vs:=by
 have t0:=L.t0;have a0:=L.a0;have z0:=L.z0;have v0:=L.v0;have t3:=L.t3;have a3:=L.a3;have z3:=L.z3;have v3:=L.v3;have t4:=L.t4;have a4:=L.a4;have z4:=L.z4;have v4:=L.v4;have z9:=L.z9;have t24:=L.t24;have a24:=L.a24;have z24:=L.z24;have v24:=L.v24;have u0:=run_underlying L.t0;have u3:=run_underlying L.t3;have u4:=run_underlying L.t4;have u24:=run_underlying L.t24;have mixed:=L.mixed;have hz1:¬((m:Int)=0):=by omega
 obtain⟨i0,hi0,hz0,hzs,hzb⟩:=info_parts L.i9;subst hzs;have hsrc:Src P i0.size (ρ.t 24) (.slice (some ⟨vb,voff,none⟩) m vc) m vs w:=Src.ofSlice w L.t24 ⟨vb,voff,none⟩ m vc vs hvl (λj u hj=>by rw[Addr.add_lit];exact hvs j u hj) h1v;obtain⟨_,_,FG⟩:=L.f22
 go_enter FG,Body2.n22_ntmps ρ
 go_wp2_with (at_builtin;refine wpList_append_room_src _ rfl _ _ (ρ.t 24) (ρ.t 24) rfl (ρ.t 9) i0 L.t24 hi0 b off n cap rfl _ rfl m vs hsrc hroom (by rw[hvl];exact hsp) (by rw[hvl];exact hfz) ?_)
 go_ret
 exact⟨rfl,rfl⟩
set_option maxHeartbeats 4000000 in
set_option maxRecDepth 1000000 in
theorem l1_{c bytes:Nat}{zc:Array Value}(L:InsL P ρ c bytes zc)(base:Option Addr)(n cap vb voff m vc:Nat)(cs vs:List Value)(w:World)(hm:0<m)(hnc:n<=cap)(hroom:cap<n+m)(hbig:(n+m)*bytes<=140737488355328)(h63:n+m<=9223372036854775807)
  (hcl:cs.length=n*c) (hvl:vs.length=m*c) (hnil:base=none->n=0)
  (hcs:∀a,base=some a->∀j v,cs[j]? = some v->w.cell? (a.add j)=some v)
  (hvs:∀j v,vs[j]? = some v->w.cell? ⟨vb,voff+j,none⟩=some v) (h1v:∀v∈vs,v.oneCell'=true) :
  Calls P (ρ.f 22) #[.slice base n cap,.int .i64 n,.slice (some ⟨vb,voff,none⟩) m vc] w λe w' =>
   e = .returned (.slice (some ⟨w.heap.size,0,none⟩) (n+m) (grownCap w (n+m) cap (ρ.t 9))) /\
   w'=w.drew.alloc (.cells ((cs++vs).toArray++Builtin.zeroCells zc (grownCap w (n+m) cap (ρ.t 9)-(n+m))) (ρ.t 9)):=by
 have t0:=L.t0;have a0:=L.a0;have z0:=L.z0;have v0:=L.v0;have t3:=L.t3;have a3:=L.a3;have z3:=L.z3;have v3:=L.v3;have t4:=L.t4;have a4:=L.a4;have z4:=L.z4;have v4:=L.v4;have z9:=L.z9;have t24:=L.t24;have a24:=L.a24;have z24:=L.z24;have v24:=L.v24;have u0:=run_underlying L.t0;have u3:=run_underlying L.t3;have u4:=run_underlying L.t4;have u24:=run_underlying L.t24;have mixed:=L.mixed;obtain⟨i0,hi0,hz0,hzs,hzb⟩:=info_parts L.i9;subst hzs;have hz1:¬((m:Int)=0):=by omega
 have hsrc:Src P i0.size (ρ.t 24) (.slice (some ⟨vb,voff,none⟩) m vc) m vs w:=Src.ofSlice w L.t24 ⟨vb,voff,none⟩ m vc vs hvl (λj u hj=>by rw[Addr.add_lit];exact hvs j u hj) h1v;have hold:(Builtin.firstCells i0.size n (.slice base n cap)).run P w.drew = .ok cs.toArray w.drew:=by
  cases base with
  | none =>
   have h0:=hnil rfl;subst h0;have hc0:cs=[]:=List.length_eq_zero_iff.1 (by rw[hcl,Nat.zero_mul]);rw[hc0];exact run_firstCells_none w.drew i0.size 0 0 cap
  | some a=>exact run_firstCells_some w.drew i0.size n a n cap cs hcl (λj v hj=>hcs a rfl j v hj)
 have hrun:∀ty,(Builtin.append_ #[(ρ.t 24),(ρ.t 24)] ty #[.slice base n cap,.slice (some ⟨vb,voff,none⟩) m vc]).run P w=_:=λty =>
  run_append_grow_src w (ρ.t 24) (ρ.t 24) ty (ρ.t 9) i0 _ L.t24 hi0 hz0 base n cap cs hold _ m vs hsrc hroom (by omega) (by rw[hzb];exact growslice_fits hroom hbig)
 obtain⟨_,_,FG⟩:=L.f22
 go_enter FG,Body2.n22_ntmps ρ
 cases base with
 | none =>
  have h0:=hnil rfl;subst h0
  go_wp2_with (at_builtin;refine Lib.wpList_append_run _ rfl _ _ _ _ rfl _ _ rfl rfl _ _ (hrun _) ?_)
  go_ret
  exact⟨rfl,rfl⟩
 | some a =>
  obtain⟨ab,ao,asp⟩:=a
  go_wp2_with (at_builtin;refine Lib.wpList_append_run _ rfl _ _ _ _ rfl _ _ rfl rfl _ _ (hrun _) ?_)
  all_goals (go_ret;exact⟨rfl,rfl⟩)
set_option maxHeartbeats 4000000 in
set_option maxRecDepth 1000000 in
theorem ins_grow{c bytes:Nat}{zc:Array Value}(L:InsL P ρ c bytes zc)(b off n cap i vb voff m vc:Nat)(cs vs:List Value)(w:World)(hi:i<n)(hm:0<m)(hnc:n<=cap)(hroom:cap<n+m)(hbig:(n+m)*bytes<=140737488355328)(h63:n+m<=maxLen)
  (hcl:cs.length=n*c) (hvl:vs.length=m*c)
  (hcs:∀j v,cs[j]? = some v->w.cell? ⟨b,off+j,none⟩=some v)
  (hvs:∀j v,vs[j]? = some v->w.cell? ⟨vb,voff+j,none⟩=some v) (h1c:∀v∈cs,v.oneCell'=true) (h1v:∀v∈vs,v.oneCell'=true) :
  Calls P (ρ.f 22) #[.slice (some ⟨b,off,none⟩) n cap,.int .i64 i,.slice (some ⟨vb,voff,none⟩) m vc] w λe w' =>
   e = .returned (.slice (some ⟨w.heap.size,0,none⟩) (n+m) (grownCap w (n+m) cap (ρ.t 9))) /\
   w'=(((w.alloc (.cells ((cs.take (i*c)).toArray++Builtin.zeroCells zc (n+m-i)++Builtin.zeroCells zc (grownCap w (n+m) cap (ρ.t 9)-(n+m))) (ρ.t 9))).drew.setCells w.heap.size (i*c) vs).drew).setCells w.heap.size ((i+m)*c) (cs.drop (i*c)):=by
 have t0:=L.t0;have a0:=L.a0;have z0:=L.z0;have v0:=L.v0;have t3:=L.t3;have a3:=L.a3;have z3:=L.z3;have v3:=L.v3;have t4:=L.t4;have a4:=L.a4;have z4:=L.z4;have v4:=L.v4;have z9:=L.z9;have t24:=L.t24;have a24:=L.a24;have z24:=L.z24;have v24:=L.v24;have u0:=run_underlying L.t0;have u3:=run_underlying L.t3;have u4:=run_underlying L.t4;have u24:=run_underlying L.t24;have mixed:=L.mixed;have hc0:=L.c0;have hzsz:=L.zs;obtain⟨i0,hi0,hz0,hzs,hzb⟩:=info_parts L.i9;have hz1:¬((m:Int)=0):=by omega
 have hz2:¬((i:Int)=(n:Int)):=by omega
 have hz3:(cap:Int)<(n:Int)+(m:Int):=by omega
 have hsz:(P.info? (ρ.t 9)).map (·.size)=some c:=by rw[hi0];simp[hzs]
 have e1:(n+m)*c=n*c+m*c:=Nat.add_mul _ _ _;have e2:(i+m)*c=i*c+m*c:=Nat.add_mul _ _ _;have e3:(n-i)*c=n*c-i*c:=Nat.sub_mul _ _ _;have e4:i*c<=n*c:=Nat.mul_le_mul_right _ (Nat.le_of_lt hi);have e5:0<n*c:=Nat.mul_pos (by omega) hc0;have e6:0<m*c:=Nat.mul_pos hm hc0;have hbw:b<w.heap.size:=block_lt_of_cell (hcs 0 _ (List.getElem?_eq_getElem (by omega)));have hvw:vb<w.heap.size:=block_lt_of_cell (hvs 0 _ (List.getElem?_eq_getElem (by omega)));have hkk:(n:Int)+(m:Int)-(i:Int)=((n+m-i:Nat):Int):=by omega
 have hik:i+(n+m-i)=n+m:=by omega
 have hold:(Builtin.firstCells i0.size i (.slice (some ⟨b,off,none⟩) i cap)).run P w.drew = .ok (cs.take (i*c)).toArray w.drew:=by
  rw[hzs];exact run_firstCells_some w.drew c i ⟨b,off,none⟩ i cap (cs.take (i*c)) (by rw[List.length_take];omega) (λj v hj=>by
   rw[Addr.add_lit];rw[List.getElem?_take]at hj;split at hj
   .exact hcs j v hj
   .cases hj)
 have hb48:(n+m-i)*bytes<=(n+m)*bytes:=Nat.mul_le_mul_right _ (Nat.sub_le _ _);have hrz:∀ty,(Builtin.append_ #[(ρ.t 24),(ρ.t 3)] ty #[.slice (some ⟨b,off,none⟩) i cap,.int .i64 ((n:Int)+(m:Int)-(i:Int))]).run P w =
   .ok (.slice (some ⟨w.heap.size,0,none⟩) (n+m) (grownCap w (n+m) cap (ρ.t 9))) (w.drew.alloc (.cells ((cs.take (i*c)).toArray++Builtin.zeroCells zc (n+m-i)++Builtin.zeroCells zc (grownCap w (n+m) cap (ρ.t 9)-(n+m))) (ρ.t 9))):=λty=>by
  have h:=Lib.run_append_grow_zeros w (ρ.t 24) (ρ.t 3) ty (ρ.t 9) i0 _ .i64 .i64 L.t24 L.t3 hi0 hz0 (some ⟨b,off,none⟩) i cap (cs.take (i*c)) hold (n+m-i) (by omega) (by omega) (by omega) (by unfold maxLen at h63;omega) (by rw[hzb];omega) (by rw[hzb,hik];exact growslice_fits hroom hbig);rw[hik]at h;rw[hkk];exact h
 obtain⟨G,hG⟩:∃G,G=grownCap w (n+m) cap (ρ.t 9):=⟨_,rfl⟩;obtain⟨ROW,hROW⟩:∃ROW:Array Value,ROW=(cs.take (i*c)).toArray++Builtin.zeroCells zc (n+m-i)++Builtin.zeroCells zc (G-(n+m)):=⟨_,rfl⟩;rw[←hG]at hrz ⊢;rw[←hROW]at hrz ⊢;have hRl:(n+m)*c<=ROW.size:=by
  have f1:(n+m-i)*c=(n+m)*c-i*c:=Nat.sub_mul _ _ _;rw[hROW];simp only[Array.size_append,List.size_toArray,List.length_take,hcl,Builtin.zeroCells,Array.size_map,Array.size_range,hzsz,f1];omega
 obtain⟨W1,hW1⟩:∃W1,W1=w.drew.alloc (.cells ROW (ρ.t 9)):=⟨_,rfl⟩;rw[←hW1]at hrz;have hN:∀j,j<(n+m)*c->(W1.cell? ⟨w.heap.size,j,none⟩).isSome=true:=λj hj=>by
  rw[hW1,World.cell?_alloc_at (w:=w.drew) ROW _ w.heap.size j rfl,Array.getElem?_eq_getElem (by omega)];rfl
 have hNf:∀j,W1.frozen? ⟨w.heap.size,j,none⟩=false:=λj=>by rw[hW1];exact World.frozen?_alloc_at (w:=w.drew) ROW _ w.heap.size j rfl
 have hOb:∀j v,w.cell? ⟨b,j,none⟩=some v->W1.cell? ⟨b,j,none⟩=some v:=λj v h=>by rw[hW1,World.cell?_alloc_past (w:=w.drew) _ b j hbw];exact h
 have hOv:∀j v,w.cell? ⟨vb,j,none⟩=some v->W1.cell? ⟨vb,j,none⟩=some v:=λj v h=>by rw[hW1,World.cell?_alloc_past (w:=w.drew) _ vb j hvw];exact h
 have hmin1:Nat.min m (n+m-i)=m:=by simp only[Nat.min_def];split<;>omega
 have hmin2:Nat.min (n-i) (n+m-(i+m))=n-i:=by simp only[Nat.min_def];split<;>omega
 have hcpA:∀(W:World),(∀x,W.cell? x=W1.cell? x)->(∀x,W.frozen? x=W1.frozen? x)->∀ty dc,(Builtin.copy_ #[(ρ.t 24),(ρ.t 24)] ty #[.slice (some ⟨w.heap.size,i*c,none⟩) (n+m-i) dc,.slice (some ⟨vb,voff,none⟩) m vc]).run P W = .ok (goInt ((Nat.min m (n+m-i):Nat):Int)) (W.setCells w.heap.size (i*c) vs):=λW hWc hWf ty dc =>
  e3_ W _ _ ty (ρ.t 9) w.heap.size (i*c) (n+m-i) dc ⟨vb,voff,none⟩ m vc c vs L.t24 hsz (by rw[hvl,hmin1])
   (λj v hj=>by rw[Addr.add_lit,hWc];exact hOv _ v (hvs j v hj))
   (λj hj=>by rw[hvl]at hj;rw[hWc];exact hN _ (by omega)) (λj hj=>by rw[hWf];exact hNf _) h1v
 have hGn:n+m<=G:=by rw[hG];exact grownCap_ge w _ _ _
 have hG63:G<=9223372036854775807:=by
  have:=grownCap_le_maxLen w (n+m) cap (ρ.t 9) h63;rw[←hG]at this;unfold maxLen at this;omega
 have hGi:¬(G=i):=by omega
 have hGim:¬(G=i+m):=by omega
 have hci:¬(cap=i):=by omega
 have hbN:b≠w.heap.size:=by omega
 have hdl:(cs.drop (i*c)).length=(n-i)*c:=by rw[List.length_drop,hcl,e3]
 have hcpB:∀(W:World),(∀x,W.cell? x=(W1.setCells w.heap.size (i*c) vs).cell? x)->(∀x,W.frozen? x=(W1.setCells w.heap.size (i*c) vs).frozen? x)->∀ty dc sc,(Builtin.copy_ #[(ρ.t 24),(ρ.t 24)] ty #[.slice (some ⟨w.heap.size,(i+m)*c,none⟩) (n+m-(i+m)) dc,.slice (some ⟨b,off+i*c,none⟩) (n-i) sc]).run P W = .ok (goInt ((Nat.min (n-i) (n+m-(i+m)):Nat):Int)) (W.setCells w.heap.size ((i+m)*c) (cs.drop (i*c))):=λW hWc hWf ty dc sc =>
  e3_ W _ _ ty (ρ.t 9) w.heap.size ((i+m)*c) (n+m-(i+m)) dc ⟨b,off+i*c,none⟩ (n-i) sc c (cs.drop (i*c)) L.t24 hsz (by rw[hdl,hmin2])
   (λj v hj=>by
    rw[Addr.add_lit,hWc,World.cell?_setCells_out _ _ _ _ _ (λh _=>absurd h hbN),Nat.add_assoc];exact hOb _ v (hcs (i*c+j) v (by rwa [List.getElem?_drop]at hj)))
   (λj hj=>by rw[hdl]at hj;rw[hWc];exact isSome_setCells _ _ _ _ (λt ht=>hN _ (by omega)) _ (hN _ (by omega)))
   (λj hj=>by rw[hWf,World.frozen?_setCells];exact hNf _) (λv hv=>h1c v (List.mem_of_mem_drop hv))
 subst hW1;have hE1:∀x,((w.alloc (.cells ROW (ρ.t 9))).drew).cell? x=(w.drew.alloc (.cells ROW (ρ.t 9))).cell? x:=λx=>rfl
 have hE2:∀x,((w.alloc (.cells ROW (ρ.t 9))).drew).frozen? x=(w.drew.alloc (.cells ROW (ρ.t 9))).frozen? x:=λx=>rfl
 have hF1:∀x,(((w.alloc (.cells ROW (ρ.t 9))).drew.setCells w.heap.size (i*c) vs).drew).cell? x=((w.drew.alloc (.cells ROW (ρ.t 9))).setCells w.heap.size (i*c) vs).cell? x:=λx=>rfl
 have hF2:∀x,(((w.alloc (.cells ROW (ρ.t 9))).drew.setCells w.heap.size (i*c) vs).drew).frozen? x=((w.drew.alloc (.cells ROW (ρ.t 9))).setCells w.heap.size (i*c) vs).frozen? x:=λx=>rfl
 have hw1:IntKind.i64.wrap ((i:Int)+(m:Int))=(i:Int)+(m:Int):=by rw[IntKind.wrap_i64];omega
 have hb1:(0:Int)<=(i:Int)+(m:Int):=by omega
 have hin:i<=n:=by omega
 have htn:((i:Int)+(m:Int)).toNat=i+m:=by omega
 have hb3:(i:Int)<=(n:Int):=by omega
 clear hkk hik hold hROW hG hRl e1 e2 e3 e4 e5 e6 hb48;obtain⟨_,_,FG⟩:=L.f22
 go_enter FG,Body2.n22_ntmps ρ
 go_wp2_with (first
  | (at_builtin;refine Lib.wpList_append_run _ rfl _ _ _ _ rfl _ _ rfl rfl _ _ (hrz _) ?_)
  | (at_builtin;refine wpList_copy_runI _ rfl _ _ (ρ.t 24) (ρ.t 24) rfl _ _ rfl rfl (hcpA _ hE1 hE2 _ _) ?_)
  | (at_builtin;refine wpList_copy_runI _ rfl _ _ (ρ.t 24) (ρ.t 24) rfl _ _ rfl rfl (hcpB _ (λ_=>rfl) (λ_=>rfl) _ _ _) ?_))
 go_region_law_o (refine step_copy_runI rfl _ _ (ρ.t 24) (ρ.t 24) rfl (.slice (some ⟨w.heap.size,(i+m)*c,none⟩) (n+m-(i+m)) (G-(i+m))) (.slice (some ⟨b,off+i*c,none⟩) (n-i) (cap-i)) (by simp[Act.eval,Act.put]) (by simp[Act.eval,Act.put]) (hcpB _ hF1 hF2 (ρ.t 3) (G-(i+m)) (cap-i)) ?_)
 go_wp2
 go_ret
 exact⟨rfl,rfl⟩
end
section
variable{P:Program}{E:TE}{z:Fz}{g:Ga}{w w' w0:World}{Bs:List Nat}{F0:Nat->Prop}
def RowC(w:World)(e:TypeId)(c n:Nat)(X:List Value)(A:Option Addr)(cap:Nat):Prop:=(A=none/\cap=0/\n=0/\X=[])\/∃(b:Nat) (cs:List Value),A=some ⟨b,0,none⟩/\w.heap[b]? = some (.cells cs.toArray e (0,0))/\n<=cap/\cap<=maxLen/\cs.length=cap*c/\cs.take (n*c)=X
theorem RowC.len{e:TypeId}{c n cap:Nat}{X:List Value}{A:Option Addr}(h:RowC w e c n X A cap):X.length=n*c:=by
 rcases h with⟨_,_,rfl,rfl⟩|⟨b,cs,_,_,h1,_,h3,rfl⟩
 .simp
 .rw[List.length_take,h3,Nat.min_eq_left];exact Nat.mul_le_mul_right _ h1
theorem RowC.cell{e:TypeId}{c n b cap:Nat}{X:List Value}(h:RowC w e c n X (some ⟨b,0,none⟩) cap){j:Nat}{v:Value}(hj:X[j]? = some v):w.cell? ⟨b,0+j,none⟩=some v:=by
 rcases h with⟨h,_⟩|⟨b',cs,h0,hh,h1,h2,h3,h4⟩
 .cases h
 .injection h0 with h0;injection h0 with h0;subst h0;rw[Nat.zero_add,cell_of_row w b j _ e (0,0) hh];rw[←h4,List.getElem?_take]at hj;split at hj
  .simpa using hj
  .cases hj
theorem dn_{cs vs:List Value}{o:Nat}(h:o+vs.length<=cs.length):(splice cs o vs).length=cs.length:=by
 unfold splice;simp only[qLa,List.length_take,List.length_drop];omega
theorem oh_{cs vs us X:List Value}{o p q:Nat}(h1:o+vs.length=p)(h2:p+us.length=q)(hq:q<=cs.length)(hX:cs.take o=X) :
  (splice (splice cs o vs) p us).take q=X++(vs++us)/\(splice (splice cs p us) o vs).take q=X++(vs++us):=by
 subst h1;subst h2;have hXl:X.length=o:=by rw[←hX,List.length_take];omega
 constructor
 .unfold splice;have e1:(cs.take o++vs++cs.drop (o+vs.length)).take (o+vs.length)=X++vs:=by
   rw[hX,List.take_append_of_le_length (by simp only[qLa];omega),List.take_of_length_le (by simp only[qLa];omega)]
  rw[e1,List.take_append_of_le_length (by simp only[qLa];omega),List.take_of_length_le (by simp only[qLa];omega),List.append_assoc]
 .unfold splice;have e1:(cs.take (o+vs.length)++us++cs.drop (o+vs.length+us.length)).take o=X:=by
   rw[List.append_assoc,List.take_append_of_le_length (by simp only[List.length_take];omega),List.take_take,Nat.min_eq_left (by omega),hX]
  have e2:(cs.take (o+vs.length)++us++cs.drop (o+vs.length+us.length)).drop (o+vs.length)=us++cs.drop (o+vs.length+us.length):=by
   rw[List.append_assoc];exact List.drop_left' (by simp only[List.length_take];omega)
  rw[e1,e2,←List.append_assoc,List.take_append_of_le_length (by simp only[qLa];omega),List.take_of_length_le (by simp only[qLa];omega),List.append_assoc]
set_option maxHeartbeats 1000000 in
theorem insertM_run{ρ:Ren}{c bytes:Nat}{zc:Array Value}(L:InsL P ρ c bytes zc){n m:Nat}{X Y:List Value}{A:Option Addr}{cap vb vc:Nat}{i:Nat}(hx:RowC w (ρ.t 9) c n X A cap)(hy:RowC w (ρ.t 9) c m Y (some ⟨vb,0,none⟩) vc)(hX1:∀v∈X,v.oneCell'=true)(hY1:∀v∈Y,v.oneCell'=true)(hm:0<m)(hi:i<=n)(hbig:(n+m)*bytes<=140737488355328)(hml:n+m<=maxLen)(hap:¬cQ_ A vb) :
  Ret P (ρ.f 22) #[.slice A n cap,.int .i64 (i:Int),.slice (some ⟨vb,0,none⟩) m vc] w λv w'=>∃A' cap',v = .slice A' (n+m) cap'/\RowC w' (ρ.t 9) c (n+m) (X.take (i*c)++(Y++X.drop (i*c))) A' cap'/\Grow w w'/\(∀k,k<w.heap.size->¬cQ_ A k->w'.heap[k]? = w.heap[k]?)/\∀k,cQ_ A' k->cQ_ A k\/w.heap.size<=k:=by
 have hXl:=hx.len;have hYl:=hy.len;have hyc:=λj v (h:Y[j]? = some v)=>hy.cell h
 have e1:(n+m)*c=n*c+m*c:=Nat.add_mul _ _ _;have e2:(i+m)*c=i*c+m*c:=Nat.add_mul _ _ _;have e4:i*c<=n*c:=Nat.mul_le_mul_right _ hi;have h63:n+m<=9223372036854775807:=by unfold maxLen at hml;omega
 have hzl:∀k,(Builtin.zeroCells zc k).size=k*c:=λk=>by simp[Builtin.zeroCells,L.zs]
 have hzl':∀k,(Builtin.zeroCells zc k).toList.length=k*c:=λk=>by rw[Array.length_toList,hzl]
 rcases hx with⟨rfl,rfl,rfl,rfl⟩|⟨b,cs,rfl,hh,h1,h2,h3,h4⟩
 .obtain rfl:i=0:=by omega
  have:=l1_ L none 0 0 vb 0 m vc [] Y w hm (Nat.le_refl _) (by omega) hbig h63 (by simp) hYl (λ_=>rfl) (λ_ h=>nomatch h) hyc hY1;obtain⟨G,hG⟩:∃G,G=grownCap w (0+m) 0 (ρ.t 9):=⟨_,rfl⟩;have hGn:0+m<=G:=by rw[hG];exact grownCap_ge w _ _ _
  have hGm:G<=maxLen:=by rw[hG];exact grownCap_le_maxLen _ _ _ _ hml
  rw[←hG]at this;have f1:(G-(0+m))*c=G*c-(0+m)*c:=Nat.sub_mul _ _ _;have f2:(0+m)*c<=G*c:=Nat.mul_le_mul_right _ hGn;refine Calls.mono this λe w' ⟨he,hw⟩=>⟨_,he,some ⟨w.heap.size,0,none⟩,G,rfl,?_,?_,λk hk _ => ?_,λk ⟨a,ha,hk⟩ => ?_⟩
  .subst hw;refine .inr ⟨w.heap.size,Y++(Builtin.zeroCells zc (G-(0+m))).toList,rfl,?_,hGn,hGm,?_,?_⟩
   .refine(MapKept.heap_alloc w.drew _).1.trans ?_
    congr 3;apply Array.ext';simp
   .rw[qLa,hzl',hYl,f1];omega
   .rw[List.take_append_of_le_length (by rw[hYl];omega),List.take_of_length_le (by rw[hYl];omega)];simp
  .subst hw;exact og_ _
  .subst hw;exact(MapKept.heap_alloc w.drew _).2 k hk
  .obtain rfl:=qSj ha;exact .inr (by subst hk;exact Nat.le_refl _)
 .have hbw:b<w.heap.size:=by
   rcases Nat.lt_or_ge b w.heap.size with h'|h'
   .exact h'
   .rw[Array.getElem?_eq_none h']at hh;cases hh
  have hxc:∀j v,X[j]? = some v->w.cell? ⟨b,0+j,none⟩=some v:=λj v h=>RowC.cell (.inr ⟨b,cs,rfl,hh,h1,h2,h3,h4⟩) h
  have hvb:vb≠b:=λh=>hap ⟨_,rfl,h⟩
  have hsome:∀j,j<cap*c->(w.cell? ⟨b,0+j,none⟩).isSome=true:=λj hj=>by
   rw[Nat.zero_add,row_cell hh,List.getElem?_eq_getElem (by omega)];rfl
  have hfz:∀j,w.frozen? ⟨b,j,none⟩=false:=λj=>row_free hh j
  have hkk:∀{w':World},(∀k,k≠b->w'.heap[k]? = w.heap[k]?)->∀k,k<w.heap.size->¬cQ_ (some ⟨b,0,none⟩) k->w'.heap[k]? = w.heap[k]? := λh k _ hk=>h k λe=>hk ⟨_,rfl,e⟩
  have hcap63:cap<=9223372036854775807:=by unfold maxLen at h2;omega
  have hti:cs.take (i*c)=X.take (i*c):=by rw[←h4,List.take_take,Nat.min_eq_left e4]
  have hdl:(X.drop (i*c)).length=n*c-i*c:=by rw[List.length_drop,hXl]
  rcases Nat.lt_or_ge i n with hlt|hge
  .rcases Nat.lt_or_ge cap (n+m)with hroom|hroom
   .have:=ins_grow L b 0 n cap i vb 0 m vc X Y w hlt hm h1 hroom hbig hml hXl hYl hxc hyc hX1 hY1;obtain⟨G,hG⟩:∃G,G=grownCap w (n+m) cap (ρ.t 9):=⟨_,rfl⟩;have hGn:n+m<=G:=by rw[hG];exact grownCap_ge w _ _ _
    have hGm:G<=maxLen:=by rw[hG];exact grownCap_le_maxLen _ _ _ _ hml
    rw[←hG]at this;have f1:(G-(n+m))*c=G*c-(n+m)*c:=Nat.sub_mul _ _ _;have f2:(n+m)*c<=G*c:=Nat.mul_le_mul_right _ hGn;have f3:(n+m-i)*c=(n+m)*c-i*c:=Nat.sub_mul _ _ _;obtain⟨row,hrow⟩:∃row:List Value,row.toArray=(X.take (i*c)).toArray++Builtin.zeroCells zc (n+m-i)++Builtin.zeroCells zc (G-(n+m)):=⟨_,Array.toArray_toList⟩;have hrl:row.length=G*c:=by
     have:=congrArg Array.size hrow;simp only[List.size_toArray,Array.size_append,List.length_take,hXl,hzl,f1,f3]at this;omega
    have hrt:row.take (i*c)=X.take (i*c):=by
     have:=congrArg Array.toList hrow;simp only[Array.toList_append,List.append_assoc]at this;rw[this,List.take_append_of_le_length (by simp only[List.length_take,hXl];omega),List.take_of_length_le (by simp only[List.length_take,hXl];omega)]
    rw[←hrow]at this;refine Calls.mono this λe w' ⟨he,hw⟩ => ?_
    have a1:=MapKept.heap_alloc w (.cells row.toArray (ρ.t 9));obtain⟨a2,a3,a4⟩:=eo_ (b:=w.heap.size) (e:=ρ.t 9) Y (i*c) row ((w.alloc (.cells row.toArray (ρ.t 9))).drew) a1.1 (by omega);obtain⟨a5,a6,a7⟩:=eo_ (b:=w.heap.size) (e:=ρ.t 9) (X.drop (i*c)) ((i+m)*c) _ (((w.alloc (.cells row.toArray (ρ.t 9))).drew.setCells w.heap.size (i*c) Y).drew) a2 (by rw[dn_ (by omega),hdl];omega);rw[←hw]at a5 a6 a7;refine⟨_,he,some ⟨w.heap.size,0,none⟩,G,rfl,.inr ⟨w.heap.size,_,rfl,a5,hGn,hGm,?_,?_⟩,?_,λk hk _ => ?_,λk ⟨a,ha,hk⟩ => ?_⟩
    .rw[dn_ (by rw[dn_ (by omega),hdl];omega),dn_ (by omega),hrl]
    .exact(oh_ (by omega) (by rw[hdl];omega) (by omega) hrt).1
    .exact(Grow.of_below (Ext.one w _).below).trans ((show Grow (w.alloc _) (w.alloc _).drew from⟨rfl,rfl,rfl,Nat.le_refl _⟩).trans (a3.trans ((show Grow (World.setCells _ _ _ _) (World.setCells _ _ _ _).drew from⟨rfl,rfl,rfl,Nat.le_refl _⟩).trans a6)))
    .have hne:k≠w.heap.size:=by omega
     exact(a7 k hne).trans ((a4 k hne).trans (a1.2 k hk))
    .obtain rfl:=qSj ha;exact .inr (by subst hk;exact Nat.le_refl _)
   .have hcc:(n+m)*c<=cap*c:=Nat.mul_le_mul_right _ hroom;have hy':=hy;rcases hy' with⟨h,_⟩|⟨vb',vs,e0,hvh,v1,v2,v3,v4⟩
    .cases h
    .injection e0 with e0;injection e0 with e0;subst e0;have hsh:∀{q:Nat} {l:List Value},w.heap[q]? = some (.cells l.toArray (ρ.t 9) (0,0))->w.shape? q=some (ρ.t 9,l.length):=λh=>by unfold World.shape?;simp[h]
     have hfz2:∀j,w.frozen? ⟨vb,j,none⟩=false:=λj=>row_free hvh j
     have hc0:=L.c0;have e5:0<m*c:=Nat.mul_pos hm hc0;have:=ins_shift L b 0 n cap i vb 0 m vc X Y w hlt hm hroom hcap63 hvb hXl hYl hxc (λj hj=>hsome j (by omega)) (λj _=>hfz _) hyc hX1 hY1 _ _ _ _ (hsh hvh) (hsh hh) (by omega) (hfz2 _) (hfz2 _);refine Calls.mono this λe w' ⟨he,hw⟩ => ?_
     obtain⟨a2,a3,a4⟩:=eo_ (b:=b) (e:=ρ.t 9) (X.drop (i*c)) (0+(i+m)*c) cs w.drew hh (by rw[hdl];omega);obtain⟨a5,a6,a7⟩:=eo_ (b:=b) (e:=ρ.t 9) Y (0+i*c) _ _ a2 (by rw[dn_ (by rw[hdl];omega)];omega);rw[←hw]at a5 a6 a7;rw[Nat.zero_add,Nat.zero_add]at a5;refine⟨_,he,some ⟨b,0,none⟩,cap,rfl,.inr ⟨b,_,rfl,a5,hroom,h2,?_,?_⟩,?_,hkk λk hk => ?_,λk hk => .inl hk⟩
     .rw[dn_ (by rw[dn_ (by rw[hdl];omega)];omega),dn_ (by rw[hdl];omega),h3]
     .exact(oh_ (by omega) (by rw[hdl];omega) (by omega) hti).2
     .exact(show Grow w w.drew from⟨rfl,rfl,rfl,Nat.le_refl _⟩).trans (a3.trans a6)
     .exact(a7 k hk).trans (a4 k hk)
  .obtain rfl:i=n:=by omega
   have hXX:X.take (i*c)=X:=List.take_of_length_le (by omega);have hXd:X.drop (i*c)=[]:=List.drop_eq_nil_of_le (by omega);rw[hXX,hXd,List.append_nil];rcases Nat.lt_or_ge cap (i+m)with hroom|hroom
   .have:=l1_ L (some ⟨b,0,none⟩) i cap vb 0 m vc X Y w hm h1 hroom hbig h63 hXl hYl (λh=>nomatch h) (λa ha j v hj=>by obtain rfl:=qSj ha;rw[Addr.add_lit];exact hxc j v hj) hyc hY1;obtain⟨G,hG⟩:∃G,G=grownCap w (i+m) cap (ρ.t 9):=⟨_,rfl⟩;have hGn:i+m<=G:=by rw[hG];exact grownCap_ge w _ _ _
    have hGm:G<=maxLen:=by rw[hG];exact grownCap_le_maxLen _ _ _ _ hml
    rw[←hG]at this;have f1:(G-(i+m))*c=G*c-(i+m)*c:=Nat.sub_mul _ _ _;have f2:(i+m)*c<=G*c:=Nat.mul_le_mul_right _ hGn;refine Calls.mono this λe w' ⟨he,hw⟩=>⟨_,he,some ⟨w.heap.size,0,none⟩,G,rfl,?_,?_,λk hk _ => ?_,λk ⟨a,ha,hk⟩ => ?_⟩
    .subst hw;refine .inr ⟨w.heap.size,X++Y++(Builtin.zeroCells zc (G-(i+m))).toList,rfl,?_,hGn,hGm,?_,?_⟩
     .refine(MapKept.heap_alloc w.drew _).1.trans ?_
      congr 3;apply Array.ext';simp
     .rw[qLa,qLa,hzl',hYl,hXl,f1];omega
     .rw[List.take_append_of_le_length (by rw[qLa,hYl,hXl];omega),List.take_of_length_le (by rw[qLa,hYl,hXl];omega)]
    .subst hw;exact og_ _
    .subst hw;exact(MapKept.heap_alloc w.drew _).2 k hk
    .obtain rfl:=qSj ha;exact .inr (by subst hk;exact Nat.le_refl _)
   .have hcc:(i+m)*c<=cap*c:=Nat.mul_le_mul_right _ hroom;have:=ins_end_room L b 0 i cap vb 0 m vc Y w hm hroom hcap63 hYl (λj hj=>by rw[Nat.add_assoc];exact hsome _ (by omega)) (λj _=>hfz _) hyc hY1;refine Calls.mono this λe w' ⟨he,hw⟩ => ?_
    obtain⟨a2,a3,a4⟩:=eo_ (b:=b) (e:=ρ.t 9) Y (0+i*c) cs w hh (by omega);rw[←hw]at a2 a3 a4;rw[Nat.zero_add]at a2;refine⟨_,he,some ⟨b,0,none⟩,cap,rfl,.inr ⟨b,_,rfl,a2,hroom,h2,?_,?_⟩,a3,hkk a4,λk hk => .inl hk⟩
    .rw[dn_ (by omega),h3]
    .unfold splice;rw[List.take_append_of_le_length (by simp only[qLa,List.length_take];omega),List.take_of_length_le (by simp only[qLa,List.length_take];omega),h4]
theorem rowC_of{id:Nat}{e:TypeId}{t:Ty}{xs:List (Den E.S t)}{c:Nat}(h:ObjR P E z g w id (.row e t xs []))(hc:E.size t=c) :
  ∃l rows,g id=some l/\l.n=xs.length/\RowC w e c xs.length rows.flatten l.A l.cap/\rows.length=xs.length/\(∀r∈rows,r.length=c)/\Rows E z t xs rows:=by
 obtain⟨l,rows,h1,hn,hc',hown,hlen,hrl,hrows,_⟩:=h;rw[hc']at hown hrl;rw[hc]at hown hrl;refine⟨l,rows,h1,hn,?_,hlen.trans hn,hrl,hrows⟩;rcases hown.2 with⟨hv,hn0⟩|⟨b,cap,cur,hv,_,hh,hnc,hcm,hcs,htk⟩
 .injection hv with e1 e2 e3;have:rows=[]:=List.length_eq_zero_iff.1 (by omega);exact .inl ⟨e1,e3,by omega,by rw[this];rfl⟩
 .injection hv with e1 _ e3;exact .inr ⟨b,cur.toList,e1,by simpa using hh,by omega,by omega,by simpa[e3]using hcs,by rw[←hn];exact htk⟩
theorem rowC_mk{id:Nat}{e:TypeId}{t:Ty}{xs:List (Den E.S t)}{c cap:Nat}{A:Option Addr}{rows:List (List Value)}(h:RowC w e c xs.length rows.flatten A cap)(hg:g id=some ⟨A,xs.length,cap,c,0,0⟩)(hc:E.size t=c)(hl:rows.length=xs.length)(hr:∀r∈rows,r.length=c)(hrows:Rows E z t xs rows) :
  ObjR P E z g w id (.row e t xs []):=by
 refine⟨_,rows,hg,rfl,hc.symm,⟨h.len ▸ ?_,?_⟩,hl,hr,hrows,λp hp=>nomatch hp⟩
 .rfl
 .rcases h with⟨rfl,rfl,h0,_⟩|⟨b,cs,rfl,hh,h1,h2,h3,h4⟩
  .exact .inl ⟨by rw[h0],h0⟩
  .exact .inr ⟨b,cap,cs.toArray,rfl,Nat.zero_le _,hh,h1,h2,by simpa using h3,h4⟩
def conInsM(E:TE)(t:Ty)(e:TypeId)(bytes:Nat):Con E:=af_ E [.g (.sl t) [some e],.d (.int .i64),.g (.sl t) [some e]] [(.sl t,[some e])] true λa=>insN (α:=Den E.S t) bytes a.1 a.2.1 a.2.2.1
theorem conInsM_ok{ρ:Ren}{c bytes:Nat}{zc:Array Value}{t:Ty}(L:InsL P ρ c bytes zc)(hby:0<bytes)(hsz:E.size t=c):Con.OK P E (ρ.f 22) (conInsM E t (ρ.t 9) bytes):=by
 intro R a k r hr;obtain⟨y,h1,h2⟩:=bind_some hr;refine⟨_,_,h2,?_⟩;obtain⟨xs,i,ys,u⟩:=a;obtain⟨hm,hi0,hi1,hbig,rfl⟩:=insN_some (show insN (α:=Den E.S t) bytes xs i ys=some y from h1);intro w z g Bs svs vs hav hH hfr hv;obtain rfl:=qSj (show some [V1.one (.own 0),.one (.dt (.int .i64) i),.one (.own 1)]=some svs from hav);cases hv with
 | cons v1 hv=>cases hv with
  | cons v2 hv=>cases hv with
   | cons v3 hv =>
    cases hv
    have hx:=hH.hold 0 (.row (ρ.t 9) t xs []) rfl;have hy:=hH.hold 1 (.row (ρ.t 9) t ys []) rfl;obtain⟨l0,rows,g0,n0,r0,hl0,hrl0,hrows0⟩:=rowC_of hx hsz;obtain⟨l1,news,g1,n1,r1,hl1,hrl1,hrows1⟩:=rowC_of hy hsz;obtain⟨l0',e0,rfl⟩:=v1;rw[g0]at e0;obtain rfl:=qSj e0;obtain⟨l1',e1,rfl⟩:=v3;rw[g1]at e1;obtain rfl:=qSj e1;obtain⟨vs2,e2,_⟩:=RD.int_inv (show RD E z [.int .i64] (i,()) _ from v2);obtain⟨rfl,_⟩:=List.cons.inj e2;obtain⟨i,rfl⟩:∃q:Nat,i=(q:Int):=⟨Int.toNat i,(Int.toNat_of_nonneg hi0).symm⟩;simp only[Int.toNat_natCast];have hin:i<=xs.length:=by omega
    have hml:xs.length+ys.length<=maxLen:=by
     have:xs.length+ys.length<=(xs.length+ys.length)*bytes:=Nat.le_mul_of_pos_right _ hby;unfold maxLen;omega
    rcases r1 with⟨_,_,h0,_⟩|r1'
    .omega
    .have r1'':=r1';obtain⟨vb,cs,hA1,_⟩:=r1'';have hap:¬cQ_ l0.A vb:=λ⟨a0,ha0,hb0⟩=>hH.apart 0 1 _ _ vb (by decide) rfl rfl ⟨l0,a0,g0,ha0,hb0⟩ ⟨l1,_,g1,hA1,rfl⟩
     have hrun:=insertM_run L r0 (by rw[←hA1];exact .inr r1') (iQ_ (hrows0.cells hl0).1) (iQ_ (hrows1.cells hl1).1) hm hin hbig hml hap;rw[n0,n1,hA1];refine hrun.mono λv w' ⟨A',cap',hv',hr',hg',hk',hf'⟩ => ?_
     subst hv';obtain⟨tf1,tf2⟩:=take_flatten hrl0 (i:=i) (by omega);have hlen:(xs.take i++(ys++xs.drop i)).length=xs.length+ys.length:=by simp only[qLa,List.length_take,List.length_drop];omega
     have hfl:(rows.take i++(news++rows.drop i)).flatten=rows.flatten.take (i*c)++(news.flatten++rows.flatten.drop (i*c)):=by rw[List.flatten_append,List.flatten_append,tf1,tf2]
     rw[←hfl,←hlen]at hr';rw[←hlen];have hnr:Rows E z t (xs.take i++(ys++xs.drop i)) (rows.take i++(news++rows.drop i)):=by
      have q1:=d0_ hrows0 0 i;have q2:=d0_ hrows0 i xs.length;rw[List.drop_zero,List.drop_zero]at q1;rw[List.take_length,List.take_of_length_le (by omega)]at q2;exact q1.append (hrows1.append q2 hl1) (by simp only[List.length_take];omega)
     refine⟨z,g.put 2 ⟨A',_,cap',c,0,0⟩,[.one (.own 2)],Fz.Le.refl z,λ_=>rfl,Ga.le_put (hfr 2 (Nat.le_refl _)),rfl,⟨_,Ga.put_self _ _ _,rfl⟩,?_⟩;refine hH.turn (Ga.le_put (hfr 2 (Nat.le_refl _))) (i:=0) (i':=2) (C:=cQ_ l0.A) (λq ⟨a,ha,hq⟩=>⟨_,rfl,l0,a,g0,ha,hq⟩) hg' hk' (o' := .row (ρ.t 9) t (xs.take i++(ys++xs.drop i)) []) (rowC_mk hr' (Ga.put_self _ _ _) hsz (by simp only[qLa,List.length_take,List.length_drop];omega) (λr hr => ?_) hnr) (λq hq => ?_) λj o hj => ?_
     .rcases List.mem_append.1 hr with hr|hr
      .exact hrl0 r (List.mem_of_mem_take hr)
      .rcases List.mem_append.1 hr with hr|hr
       .exact hrl1 r hr
       .exact hrl0 r (List.mem_of_mem_drop hr)
     .obtain⟨l2,a2,h5,h6,rfl⟩:=hq;rw[Ga.put_self]at h5;obtain rfl:=qSj h5;exact hf' _ ⟨a2,h6,rfl⟩
     .rcases aV_ (H:=λ_=>none) (i:=2) (p := .row (ρ.t 9) t (xs.take i++(ys++xs.drop i)) []) hj with h|⟨_,h⟩
      .exact .inl h
      .cases h
end
end Rt
end Go
namespace Go.Proofs.YtbdcelleafhelaaGreatDoor
open Go.Rt Go.RowKit Go.Shelf
noncomputable section
def renIm:Go.Shelf.Ren:=⟨λ | 22=>183 | 29=>189 | 30=>190|n=>n,λ | 24=>80 | 9=>126 | 3=>3 | 4=>4 | 0=>0|n=>n,λ|n=>n⟩
def zeroIm:Array Value := #[.int .i64 0,.int .u8 0,.string ⟨#[]⟩,.bool false,.int .i64 0,.int .i64 0]
theorem oneIm:(zeroIm.toList.all λv=>v.oneCell')=true:=by kernel_rfl
theorem insIm:InsL Tryz.prog renIm 6 56 zeroIm:={
 mixed:=by kernel_rfl
 f22:=⟨Tryz.f183.name,by kernel_rfl,Tryz.func183.trans (congrArg some (by kernel_rfl))⟩
 ov:=λargs w=>run_callFunc_extern Tryz.func189 (by kernel_rfl) (by kernel_rfl) (by kernel_rfl) (e:=Extern.SlicesOverlaps.overlaps #[80,80] #[4]) (by kernel_rfl) args w
 t0:=Tryz.underlying0
 a0:=Tryz.isAgg0
 z0:=Tryz.sizeOf0
 v0:=Tryz.zeroValue0
 t3:=Tryz.underlying3
 a3:=Tryz.isAgg3
 z3:=Tryz.sizeOf3
 v3:=Tryz.zeroValue3
 t4:=Tryz.underlying4
 a4:=Tryz.isAgg4
 z4:=Tryz.sizeOf4
 v4:=Tryz.zeroValue4
 t24:=Tryz.underlying80
 a24:=Tryz.isAgg80
 z24:=Tryz.sizeOf80
 v24:=Tryz.zeroValue80
 z9:=Tryz.sizeOf126
 v9:=Tryz.zeroValue126
 i9:=by kernel_rfl
 zs:=by kernel_rfl
 c0:=by decide
 zo:=λv hv=>List.all_eq_true.1 oneIm v hv }
def l2_:Con te:=conInsM te (.st 4) 126 56
theorem kk_:Con.OK Tryz.prog te 183 l2_/\cE_ Tryz.prog 183=true:=by
 refine⟨?_,by kernel_rfl⟩;exact conInsM_ok (E:=te) (t := .st 4) insIm (by decide) (by kernel_rfl)
end
end Go.Proofs.YtbdcelleafhelaaGreatDoor
namespace Go.Proofs
open Go.Shelf
def Tryz.laysIndex_ren:Go.Shelf.Ren:=⟨λ | 219=>118 | 217=>153 | 225=>154 | 224=>155 | 267=>156 | 266=>178 | 314=>179|n=>n,λ | 9=>9 | 3=>3 | 4=>4 | 5=>5 | 46=>184 | 146=>202 | 51=>199|n=>n,λ | 1=>0|n=>n⟩
theorem Tryz.laysIndex:Go.Proofs.Lays.n219 Tryz.prog Tryz.laysIndex_ren:={
 mixed:=by kernel_rfl
 f217:=Tryz.func153.trans (congrArg some (by kernel_rfl))
 f219:=Tryz.func118.trans (congrArg some (by kernel_rfl))
 f224:=Tryz.func155.trans (congrArg some (by kernel_rfl))
 f225:=Tryz.func154.trans (congrArg some (by kernel_rfl))
 f266:=Tryz.func178.trans (congrArg some (by kernel_rfl))
 f267:=Tryz.func156.trans (congrArg some (by kernel_rfl))
 f314:=Tryz.func179.trans (congrArg some (by kernel_rfl))
 t3:=Tryz.underlying3
 a3:=Tryz.isAgg3
 z3:=Tryz.sizeOf3
 v3:=Tryz.zeroValue3
 t4:=Tryz.underlying4
 a4:=Tryz.isAgg4
 z4:=Tryz.sizeOf4
 v4:=Tryz.zeroValue4
 t5:=Tryz.underlying5
 a5:=Tryz.isAgg5
 z5:=Tryz.sizeOf5
 v5:=Tryz.zeroValue5
 t9:=Tryz.underlying9
 a9:=Tryz.isAgg9
 z9:=Tryz.sizeOf9
 v9:=Tryz.zeroValue9
 t46:=Tryz.underlying184
 a46:=Tryz.isAgg184
 z46:=Tryz.sizeOf184
 v46:=Tryz.zeroValue184
 t51:=Tryz.underlying199
 a51:=Tryz.isAgg199
 z51:=Tryz.sizeOf199
 v51:=Tryz.zeroValue199
 t146:=Tryz.underlying202
 a146:=Tryz.isAgg202
 z146:=Tryz.sizeOf202
 v146:=Tryz.zeroValue202
 g1:=by kernel_rfl }
end Go.Proofs
namespace Go.Proofs.YtbdcelleafhelaaGreatDoor
open Go.Shelf Go.RowKit Go.Rt
theorem fIndex:Tryz.laysIndex_ren.f 219=118:=by kernel_rfl
theorem oi_:∀(s:Str) (c:UInt8),dy_ s c=Lib.indexByte s c
 | [],_=>rfl
 | b::l,c=>by simp only[dy_,Lib.indexByte,oi_ l c]
theorem W_Index(x0 x1:Str)(r:Int)(hF:stringslite_Index x0 x1=some r)(w0:World):Ret Tryz.prog 118 #[S x0,S x1] w0 λv w=>v = .int .i64 r/\Ext w0 w:=by
 unfold stringslite_Index at hF;split at hF
 .rename_i c;simp only[qOi]at hF;subst hF;have hh:=Any.stringslite_Index_one Tryz.laysIndex ⟨x0.toArray⟩ c w0;rw[fIndex]at hh;refine Calls.mono hh λe w ⟨he,hb⟩=>⟨_,he,?_,?_⟩
  .simp[oi_]
  .subst hb;exact Ext.refl _
 .cases hF
def kl_:Con te:=af_ te [.d .str,.d .str] [(.int .i64,[])] false λa=>stringslite_Index a.1 a.2.1
theorem fe_:Con.OK Tryz.prog te 118 kl_/\cE_ Tryz.prog 118=true:=by
 refine⟨λR a k r hr => ?_,by kernel_rfl⟩;obtain⟨y,h1,h2⟩:=bind_some hr;exact⟨_,_,h2,jM_ (y:=y) rfl rfl rfl rfl rfl λw=>W_Index a.1 a.2.1 y h1 w⟩
end Go.Proofs.YtbdcelleafhelaaGreatDoor
namespace Go.Proofs
open Go.Shelf
def Tryz.laysBString_ren:Go.Shelf.Ren:=⟨λ | 169=>65|n=>n,λ | 70=>91 | 9=>9 | 0=>0 | 72=>94 | 37=>92 | 127=>136 | 3=>3 | 5=>5|n=>n,λ|n=>n⟩
theorem Tryz.laysBString:Go.Proofs.Lays.n169 Tryz.prog Tryz.laysBString_ren:={
 mixed:=by kernel_rfl
 f169:=Tryz.func65.trans (congrArg some (by kernel_rfl))
 t0:=Tryz.underlying0
 a0:=Tryz.isAgg0
 z0:=Tryz.sizeOf0
 v0:=Tryz.zeroValue0
 t3:=Tryz.underlying3
 a3:=Tryz.isAgg3
 z3:=Tryz.sizeOf3
 v3:=Tryz.zeroValue3
 t9:=Tryz.underlying9
 a9:=Tryz.isAgg9
 z9:=Tryz.sizeOf9
 v9:=Tryz.zeroValue9
 t37:=Tryz.underlying92
 a37:=Tryz.isAgg92
 z37:=Tryz.sizeOf92
 v37:=Tryz.zeroValue92
 t70:=Tryz.underlying91
 a70:=Tryz.isAgg91
 z70:=Tryz.sizeOf91
 v70:=Tryz.zeroValue91
 t72:=Tryz.underlying94
 a72:=Tryz.isAgg94
 z72:=Tryz.sizeOf94
 v72:=Tryz.zeroValue94
 t127:=Tryz.underlying136
 a127:=Tryz.isAgg136
 z127:=Tryz.sizeOf136
 v127:=Tryz.zeroValue136 }
end Go.Proofs
