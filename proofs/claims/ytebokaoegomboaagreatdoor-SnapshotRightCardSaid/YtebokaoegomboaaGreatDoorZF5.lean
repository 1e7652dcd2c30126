/-
 What the statements of this seat hang on,part 5: Fns Te Ch Lw ShDl LDl ShFi LFi ShIn LIn ShRp LRp ShSb LSb Lq ShSf.
-/
import Derived.Test.YtebokaoegomboaaGreatDoorZF4
import Derived.Test.YtebokaoegomboaaGreatDoorProg
import Derived.KernelRfl
import Derived.Test.YtebokaoegomboaaGreatDoorRows
import Derived.LaidMore
import Derived.LaidSub
import Derived.Lib.LaidTab
import Derived.Stop.Joined
import Derived.Shelf.Slices.Delete
import Derived.Shelf.Spec.SlicesInsertGrow
import Derived.Ground.Names2Prog
import Derived.Lib.Agree
import Derived.Shelf.Strconv.Itoa4
import Derived.Ground.NamesProg
import Derived.Shelf.Strings.Repeat
import Derived.Shelf.Strings.Builder1
import Derived.Sort.Grow
import Derived.Sort.EncStr
import Derived.Shelf.SlSortCmp.NoneTotal
import Derived.Shelf.SlSortCmp.WholeK
import Derived.Shelf.SlGeneric
namespace Go.Proofs.YtebokaoegomboaaGreatDoor
open Go.Rt Go.RowKit
noncomputable section
structure Xf where (Xv Yc:Str) (Yw:List Str)
deriving DecidableEq,Inhabited
structure Yq where (Ye:Str) (Xd Ys:Int)
deriving DecidableEq,Inhabited
structure Xq where (Id_ Xw Yz:Int) (Xv:Str) (Xp:Int) (Yf Ym Yy:Str) (Xo Yx:Int) (Xl:Str)
deriving DecidableEq,Inhabited
structure Xy where (Yk:Int) (Xz:List Xq)
deriving DecidableEq,Inhabited
structure Xm where (Yn:List Xf) (Yp:List Yq) (Xe:Xy) (Xu:List Int)
deriving DecidableEq,Inhabited
structure Xi where (Xc:Str) (Ya:Int) (Xl:Str)
deriving DecidableEq,Inhabited
structure Xx where (Yr:Int) (Xh:List Xi)
deriving DecidableEq,Inhabited
structure Yi where (Yg:Int) (Xc:Str)
deriving DecidableEq,Inhabited
structure Xg where (Xd:Xm) (Yd:Xx) (Xt:List Yi)
deriving DecidableEq,Inhabited
structure Yv where (S_:Str) (At_:Int) (Zj:Bool)
deriving DecidableEq,Inhabited
structure Xr where (Xc:Str) (Yj Yu:Int)
deriving DecidableEq,Inhabited
structure Yl where (Zv:Xm) (Zy Yh:Int)
deriving DecidableEq,Inhabited
structure Xj where (Zx:Xx) (Zd:List Str)
deriving DecidableEq,Inhabited
structure Xa where (a0_ a1_ a2_ a3_ a4_ a5_ a6_ a7_:Int)
deriving DecidableEq,Inhabited
def Xa.l(x:Xa):List Int:=[x.a0_,x.a1_,x.a2_,x.a3_,x.a4_,x.a5_,x.a6_,x.a7_]
def Xa.of(l:List Int):Xa:=⟨ao_ l 0,ao_ l 1,ao_ l 2,ao_ l 3,ao_ l 4,ao_ l 5,ao_ l 6,ao_ l 7⟩
structure Yb where (a0_ a1_ a2_ a3_ a4_ a5_ a6_ a7_ a8_ a9_ Zs Za Ze Zi Zo Zu Wz Wq Wx Wj Wy Wh Wg Wf Wm Wn Wp Wb Wc Wd Wr Wt Wl Ws Wa We Wi Wo Wu Vz Vq Vx Vj Vk Vv Vw Vy Vh Vg Vf Vm Vn Vp Vb Vc Vd Vr Vt Vl Vs Va Ve Vi Vo:Int)
deriving DecidableEq,Inhabited
def Yb.l(x:Yb):List Int:=[x.a0_,x.a1_,x.a2_,x.a3_,x.a4_,x.a5_,x.a6_,x.a7_,x.a8_,x.a9_,x.Zs,x.Za,x.Ze,x.Zi,x.Zo,x.Zu,x.Wz,x.Wq,x.Wx,x.Wj,x.Wy,x.Wh,x.Wg,x.Wf,x.Wm,x.Wn,x.Wp,x.Wb,x.Wc,x.Wd,x.Wr,x.Wt,x.Wl,x.Ws,x.Wa,x.We,x.Wi,x.Wo,x.Wu,x.Vz,x.Vq,x.Vx,x.Vj,x.Vk,x.Vv,x.Vw,x.Vy,x.Vh,x.Vg,x.Vf,x.Vm,x.Vn,x.Vp,x.Vb,x.Vc,x.Vd,x.Vr,x.Vt,x.Vl,x.Vs,x.Va,x.Ve,x.Vi,x.Vo]
def Yb.of(l:List Int):Yb:=⟨ao_ l 0,ao_ l 1,ao_ l 2,ao_ l 3,ao_ l 4,ao_ l 5,ao_ l 6,ao_ l 7,ao_ l 8,ao_ l 9,ao_ l 10,ao_ l 11,ao_ l 12,ao_ l 13,ao_ l 14,ao_ l 15,ao_ l 16,ao_ l 17,ao_ l 18,ao_ l 19,ao_ l 20,ao_ l 21,ao_ l 22,ao_ l 23,ao_ l 24,ao_ l 25,ao_ l 26,ao_ l 27,ao_ l 28,ao_ l 29,ao_ l 30,ao_ l 31,ao_ l 32,ao_ l 33,ao_ l 34,ao_ l 35,ao_ l 36,ao_ l 37,ao_ l 38,ao_ l 39,ao_ l 40,ao_ l 41,ao_ l 42,ao_ l 43,ao_ l 44,ao_ l 45,ao_ l 46,ao_ l 47,ao_ l 48,ao_ l 49,ao_ l 50,ao_ l 51,ao_ l 52,ao_ l 53,ao_ l 54,ao_ l 55,ao_ l 56,ao_ l 57,ao_ l 58,ao_ l 59,ao_ l 60,ao_ l 61,ao_ l 62,ao_ l 63⟩
structure Xs where (s_:Str) (at_:Int) (Zz:Bool)
deriving DecidableEq,Inhabited
structure Xn where (Yh:Xq) (Zn:Xr)
deriving DecidableEq,Inhabited
structure Xb where (Zg:List Xq) (Zh:Int)
deriving DecidableEq,Inhabited
structure Yt where (Wv Zt lo_ hi_:Int)
deriving DecidableEq,Inhabited
structure Xk where (Zr:Int) (Zp:Str)
deriving DecidableEq,Inhabited
structure Zf where (Yo Yz Zk:Int)
deriving DecidableEq,Inhabited
structure Zm where (Yo Zb:Int) (Zq:Zf) (Xp Xo Yx Yj:Int) (Xv Yf Ym Yy:Str)
deriving DecidableEq,Inhabited
structure Wk where (Ya:Int) (Ye:Str) (Id_:Int) (Xv:Str) (Uz Xp Ww:Int) (Xl:Str) (Zw:Zm) (Uq:Int)
deriving DecidableEq,Inhabited
structure Zl where (n_ Vu Zh:Int)
deriving DecidableEq,Inhabited
structure Zc where (a0_ a1_ a2_ a3_ a4_ a5_ a6_ a7_ a8_ a9_ Zs Za Ze Zi Zo Zu Wz Wq Wx Wj:Int)
deriving DecidableEq,Inhabited
def globP:Zc:=Zc.mk 1 10 100 1000 10000 100000 1000000 10000000 100000000 1000000000 10000000000 100000000000 1000000000000 10000000000000 100000000000000 1000000000000000 10000000000000000 100000000000000000 1000000000000000000 10000000000000000000
def glob0:Yb:=Yb.mk 1116352408 1899447441 3049323471 3921009573 961987163 1508970993 2453635748 2870763221 3624381080 310598401 607225278 1426881987 1925078388 2162078206 2614888103 3248222580 3835390401 4022224774 264347078 604807628 770255983 1249150122 1555081692 1996064986 2554220882 2821834349 2952996808 3210313671 3336571891 3584528711 113926993 338241895 666307205 773529912 1294757372 1396182291 1695183700 1986661051 2177026350 2456956037 2730485921 2820302411 3259730800 3345764771 3516065817 3600352804 4094571909 275423344 430227734 506948616 659060556 883997877 958139571 1322822218 1537002063 1747873779 1955562222 2024104815 2227730452 2361852424 2428436474 2756734187 3204031479 3329325298
def eI_(x0:Xg)(s2:Int):Option (Step Int (Out Unit Bool)):=(bif(decide (s2<(x0.Xd.Yn.length:Int)))then(ak_ x0.Xd.Yn s2).bind λy2=>(bif(decide ((y2.Yw.length:Int)>10))then some (.done (.ret (false)))else some (.next (w64 (s2+1))))else some (.done (.fall ())))
def eJ_(x0:Xg)(s4:Int):Option (Step Int (Out Unit Bool)):=(bif(decide (s4<(x0.Xd.Xe.Xz.length:Int)))then(ak_ x0.Xd.Xe.Xz s4).bind λy6=>Option.bind (bif(decide ((y6.Xl.length:Int)>3000))then some true else(ak_ x0.Xd.Xe.Xz s4).bind λy7=>some (decide ((y7.Xv.length:Int)>200)) ) λ(y8:Bool)=>(bif y8 then some (.done (.ret (false)))else some (.next (w64 (s4+1))))else some (.done (.fall ())))
def eK_(x0:Xg)(s6:Int):Option (Step Int (Out Unit Bool)):=(bif(decide (s6<(x0.Yd.Xh.length:Int)))then(ak_ x0.Yd.Xh s6).bind λy12=>Option.bind (bif(decide ((y12.Xl.length:Int)>2000))then some true else(ak_ x0.Yd.Xh s6).bind λy13=>some (decide ((y13.Xc.length:Int)>100)) ) λ(y14:Bool)=>(bif y14 then some (.done (.ret (false)))else some (.next (w64 (s6+1))))else some (.done (.fall ())))
def eL_(x0:Xg)(s8:Int):Option (Step Int (Out Unit Bool)):=(bif(decide (s8<(x0.Xt.length:Int)))then(ak_ x0.Xt s8).bind λy16=>(bif(decide ((y16.Xc.length:Int)>100))then some (.done (.ret (false)))else some (.next (w64 (s8+1))))else some (.done (.fall ())))
def hl_(x0:Xg):Option Bool:=(bif((((((decide ((x0.Xd.Yn.length:Int)>10))||(decide ((x0.Xd.Yp.length:Int)>10)))||(decide ((x0.Xd.Xe.Xz.length:Int)>12)))||(decide ((x0.Xd.Xu.length:Int)>20)))||(decide ((x0.Yd.Xh.length:Int)>120)))||(decide ((x0.Xt.length:Int)>6)))then some (false)else(aj_ (eI_ x0) BIG 0).bind λwo1=>match wo1 with | .ret r1=>some r1 | .fall _=>(aj_ (eJ_ x0) BIG 0).bind λwo2=>match wo2 with | .ret r2=>some r2 | .fall _=>(aj_ (eK_ x0) BIG 0).bind λwo3=>match wo3 with | .ret r3=>some r3 | .fall _=>(aj_ (eL_ x0) BIG 0).bind λwo4=>match wo4 with | .ret r4=>some r4 | .fall _=>some (true))
def eM_(x0:Str)(s2:Int):Option (Step Int (Out Unit Bool)):=(bif(decide (s2<(x0.length:Int)))then(bB_ x0 s2).bind λy2=>(bif((!((decide (y2>=97))&&(decide (y2<=122))))&&((s2==0)||(((!((decide (y2>=48))&&(decide (y2<=57))))&&(y2 != 45))&&(y2 != 95))))then some (.done (.ret (false)))else some (.next (w64 (s2+1))))else some (.done (.fall ())))
def fm_(x0:Str):Option Bool:=(bif((decide ((x0.length:Int)<1))||(decide ((x0.length:Int)>32)))then some (false)else(aj_ (eM_ x0) BIG 0).bind λwo1=>match wo1 with | .ret r1=>some r1 | .fall _=>some (true))
def jR_(x0:List Xf)(x1:Str)(s2:Int):Option (Step Int (Out Unit Int)):=(bif(decide (s2<(x0.length:Int)))then(ak_ x0 s2).bind λy2=>(bif(y2.Xv==x1)then some (.done (.ret (s2)))else some (.next (w64 (s2+1))))else some (.done (.fall ())))
def fS_(x0:List Xf)(x1:Str):Option Int:=(aj_ (jR_ x0 x1) BIG 0).bind λwo1=>match wo1 with | .ret r1=>some r1 | .fall _=>some ((-1))
def dA_(y1:Xf)(x0:List Xf)(s2:Int):Option (Step Int (Out Unit Int)):=(bif(decide (s2<(y1.Yw.length:Int)))then(ak_ y1.Yw s2).bind λy12=>(fS_ x0 y12).bind λy13=>Option.bind (bif(decide (y13<0))then some true else Option.bind (bif(decide (s2>0))then(ak_ y1.Yw (w64 (s2-1))).bind λy14=>(ak_ y1.Yw s2).bind λy15=>some (!(Op.bytesLess y14 y15))else some false) λ(y16:Bool)=>some y16 ) λ(y17:Bool)=>(bif y17 then some (.done (.ret (26)))else some (.next (w64 (s2+1))))else some (.done (.fall ())))
def eN_(x0:List Xf)(x1:Int):Option Int:=(ak_ x0 x1).bind λy1=>(fm_ y1.Xv).bind λy2=>(bif(!y2)then some (25)else(fS_ x0 y1.Xv).bind λy3=>(bif(decide (y3<x1))then some (7)else Option.bind (bif(!(y1.Yc==[]))then(fS_ x0 y1.Yc).bind λy4=>some (decide (y4<0))else some false) λ(y5:Bool)=>(bif y5 then some (26)else(aj_ (dA_ y1 x0) BIG 0).bind λwo1=>match wo1 with | .ret r1=>some r1 | .fall _=>some (0))))
def g1_(x0:List Xf)(s2:Int):Option (Step Int (Out Unit Int)):=(bif(decide (s2<(x0.length:Int)))then(eN_ x0 s2).bind λy2=>(bif(y2 != 0)then some (.done (.ret (y2)))else some (.next (w64 (s2+1))))else some (.done (.fall ())))
def hm_(x0:List Xf):Option Int:=(bif(decide ((x0.length:Int)>64))then some (22)else(aj_ (g1_ x0) BIG 0).bind λwo1=>match wo1 with | .ret r1=>some r1 | .fall _=>some (0))
def g2_(x0:List Yq)(s2:Int):Option (Step Int (Out Unit Int)):=(bif(decide (s2<(x0.length:Int)))then(ak_ x0 s2).bind λy5=>(fm_ y5.Ye).bind λy6=>(bif(!y6)then some (.done (.ret (25)))else Option.bind (bif(decide (s2>0))then(ak_ x0 (w64 (s2-1))).bind λy7=>some (!(Op.bytesLess y7.Ye y5.Ye))else some false) λ(y8:Bool)=>(bif y8 then some (.done (.ret (2)))else(bif((((decide (y5.Xd<0))||(decide (y5.Xd>9007199254740991)))||(decide (y5.Ys<0)))||(decide (y5.Ys>9007199254740991)))then some (.done (.ret (5)))else some (.next (w64 (s2+1))))))else some (.done (.fall ())))
def hn_(x0:List Yq):Option Int:=(bif(decide ((x0.length:Int)>64))then some (22)else(aj_ (g2_ x0) BIG 0).bind λwo1=>match wo1 with | .ret r1=>some r1 | .fall _=>some (0))
def ir_(x0:Int):Option Bool:=(bif((decide (x0<0))||(decide (x0>=4294967296)))then some (false)else some (((((((w64 (x0-(x0.tmod 512)))==0)||((w64 (x0-(x0.tmod 512)))==2147483648))||((w64 (x0-(x0.tmod 512)))==1073741824))||((w64 (x0-(x0.tmod 512)))==536870912))||((w64 (x0-(x0.tmod 512)))==1610612736))))
def b9_(x0:Int):Option Bool:=some ((decide (x0>=2147483648)))
def ex_(x0:Xq):Option Bool:=(ir_ x0.Xp).bind λy1=>(bif(((((((!y1)||(decide (x0.Yz<0)))||(decide (x0.Yz>2147483647)))||(decide (x0.Xo<0)))||(decide (x0.Xo>1099511627776)))||(decide (x0.Yx<0)))||(decide (x0.Yx>1099511627776)))then some (false)else(bif((((decide ((x0.Yf.length:Int)>64))||(decide ((x0.Ym.length:Int)>64)))||(decide ((x0.Yy.length:Int)>64)))||(decide ((x0.Xl.length:Int)>65536)))then some (false)else(b9_ x0.Xp).bind λy2=>some (((!y2)||(x0.Xl==[])))))
def kh_(x0:Str)(s2:Int):Option (Step Int (Out Unit Bool)):=(bif(decide (s2<(x0.length:Int)))then(bB_ x0 s2).bind λy6=>Option.bind (bif(decide (y6<33))then some true else(bB_ x0 s2).bind λy7=>some (decide (y7>126)) ) λ(y8:Bool)=>Option.bind (bif y8 then some true else(bB_ x0 s2).bind λy9=>some (y9==47) ) λ(y10:Bool)=>(bif y10 then some (.done (.ret (false)))else some (.next (w64 (s2+1))))else some (.done (.fall ())))
def ho_(x0:Str):Option Bool:=(aj_ (kh_ x0) BIG 0).bind λwo1=>match wo1 with | .ret r1=>some r1 | .fall _=>some (((((decide ((x0.length:Int)>=1))&&(decide ((x0.length:Int)<=64)))&&(!(x0==[46])))&&(!(x0==[46,46]))))
def c6_(s4:Int)(x0:Xy)(s6:Bool×Int):Option (Step (Bool×Int) (Out Bool Bool)):=(bif(decide (s6.2<s4))then Option.bind (bif s6.1 then some true else(ak_ x0.Xz s6.2).bind λy71=>(ak_ x0.Xz s4).bind λy72=>Option.bind (bif(y71.Id_==y72.Xw)then(ak_ x0.Xz s6.2).bind λy73=>(b9_ y73.Xp).bind λy74=>some y74 else some false) λ(y75:Bool)=>some y75 ) λ(y76:Bool)=>Option.bind (bif(decide (s6.2>0))then(ak_ x0.Xz s6.2).bind λy77=>(ak_ x0.Xz s4).bind λy78=>some (y77.Xw==y78.Xw)else some false) λ(y79:Bool)=>Option.bind (bif y79 then(ak_ x0.Xz s6.2).bind λy80=>(ak_ x0.Xz s4).bind λy81=>some (y80.Xv==y81.Xv)else some false) λ(y82:Bool)=>(bif y82 then some (.done (.ret (false)))else some (.next (y76,(w64 (s6.2+1)))))else some (.done (.fall s6.1)))
def dH_(x0:Xy)(s4:Int):Option (Step Int (Out Unit Bool)):=(bif(decide (s4<(x0.Xz.length:Int)))then(ak_ x0.Xz s4).bind λy48=>(ak_ x0.Xz (w64 (s4-1))).bind λy49=>Option.bind (bif(decide (y48.Id_<=y49.Id_))then some true else(ak_ x0.Xz s4).bind λy50=>(ak_ x0.Xz s4).bind λy51=>some (decide (y50.Xw>=y51.Id_)) ) λ(y52:Bool)=>Option.bind (bif y52 then some true else(ak_ x0.Xz s4).bind λy53=>(ho_ y53.Xv).bind λy54=>some (!y54) ) λ(y55:Bool)=>Option.bind (bif y55 then some true else(ak_ x0.Xz s4).bind λy56=>(ex_ y56).bind λy57=>some (!y57) ) λ(y58:Bool)=>(bif y58 then some (.done (.ret (false)))else(aj_ (c6_ s4 x0) BIG (false,0)).bind λwo2=>match wo2 with | .ret r2=>some (.done (.ret r2)) | .fall o2=>(bif(!o2)then some (.done (.ret (false)))else some (.next (w64 (s4+1)))))else some (.done (.fall ())))
def c5_(x0:Xy):Option Bool:=Option.bind (bif((decide ((x0.Xz.length:Int)<1))||(decide ((x0.Xz.length:Int)>1024)))then some true else(ak_ x0.Xz 0).bind λy1=>some (y1.Id_ != 1) ) λ(y2:Bool)=>Option.bind (bif y2 then some true else(ak_ x0.Xz 0).bind λy3=>some (y3.Xw != 1) ) λ(y4:Bool)=>Option.bind (bif y4 then some true else(ak_ x0.Xz 0).bind λy5=>some (!(y5.Xv==[47])) ) λ(y6:Bool)=>Option.bind (bif y6 then some true else(ak_ x0.Xz 0).bind λy7=>some (decide (y7.Xp<2147483648)) ) λ(y8:Bool)=>Option.bind (bif y8 then some true else(ak_ x0.Xz 0).bind λy9=>(ex_ y9).bind λy10=>some (!y10) ) λ(y11:Bool)=>(bif y11 then some (false)else(ak_ x0.Xz (w64 ((x0.Xz.length:Int)-1))).bind λy12=>(bif((decide (x0.Yk<=y12.Id_))||(decide (x0.Yk>1048576)))then some (false)else(aj_ (dH_ x0) BIG 1).bind λwo3=>match wo3 with | .ret r3=>some r3 | .fall _=>some (true)))
def g3_(x0:Xy)(x1:Int)(s2:Int):Option (Step Int (Out Unit Int)):=(bif(decide (s2<(x0.Xz.length:Int)))then(ak_ x0.Xz s2).bind λy2=>(bif(y2.Id_==x1)then some (.done (.ret (s2)))else some (.next (w64 (s2+1))))else some (.done (.fall ())))
def jS_(x0:Xy)(x1:Int):Option Int:=(aj_ (g3_ x0 x1) BIG 0).bind λwo1=>match wo1 with | .ret r1=>some r1 | .fall _=>some ((-1))
def is_(x0:Xy)(x1:Int):Option (Xq×Bool):=(jS_ x0 x1).bind λy1=>(bif(decide (y1<0))then some (((Xq.mk 0 0 0 [] 0 [] [] [] 0 0 []),false))else(ak_ x0.Xz y1).bind λy2=>some ((y2,true)))
def mj_(x0:Int)(x1:Int):Option Bool:=Option.bind (bif(decide (x0>=0))then(quoI .i64 x0 x1).bind λy1=>some ((y1.tmod 2)==1)else some false) λ(y2:Bool)=>some (y2)
def eO_(x0:Xm)(s2:Int):Option (Step Int (Out Unit Bool)):=(bif(decide (s2<(x0.Xu.length:Int)))then(ak_ x0.Xu s2).bind λy14=>(is_ x0.Xe y14).bind λy15=>Option.bind (bif(!y15.2)then some true else(mj_ y15.1.Xp 536870912).bind λy16=>some (!y16) ) λ(y17:Bool)=>Option.bind (bif y17 then some true else Option.bind (bif(decide (s2>0))then(ak_ x0.Xu (w64 (s2-1))).bind λy18=>(ak_ x0.Xu s2).bind λy19=>some (decide (y18>=y19))else some false) λ(y20:Bool)=>some y20 ) λ(y21:Bool)=>(bif y21 then some (.done (.ret (false)))else some (.next (w64 (s2+1))))else some (.done (.fall ())))
def hp_(x0:Xm):Option Bool:=(hm_ x0.Yn).bind λy1=>Option.bind (bif(y1 != 0)then some true else(hn_ x0.Yp).bind λy2=>some (y2 != 0) ) λ(y3:Bool)=>Option.bind (bif y3 then some true else(c5_ x0.Xe).bind λy4=>some (!y4) ) λ(y5:Bool)=>(bif y5 then some (false)else(aj_ (eO_ x0) BIG 0).bind λwo1=>match wo1 with | .ret r1=>some r1 | .fall _=>some (true))
def oS_(x0:Int):Option Bool:=some (((decide (x0>=1))&&(decide (x0<=4))))
def hq_(x0:List Xi)(x1:Str)(s2:Int):Option (Step Int (Out Unit Int)):=(bif(decide (s2<(x0.length:Int)))then(ak_ x0 s2).bind λy2=>(bif(y2.Xc==x1)then some (.done (.ret (s2)))else some (.next (w64 (s2+1))))else some (.done (.fall ())))
def iT_(x0:List Xi)(x1:Str):Option Int:=(aj_ (hq_ x0 x1) BIG 0).bind λwo1=>match wo1 with | .ret r1=>some r1 | .fall _=>some ((-1))
def eP_(x0:Xx)(s2:Int):Option (Step Int (Out Unit Bool)):=(bif(decide (s2<(x0.Xh.length:Int)))then(ak_ x0.Xh s2).bind λy6=>(oS_ y6.Ya).bind λy7=>Option.bind (bif(((!y7)||(decide ((y6.Xl.length:Int)>1024)))||((y6.Xc.length:Int) != 32))then some true else(bo_ x0.Xh 0 s2).bind λy8=>(iT_ y8 y6.Xc).bind λy9=>some (decide (y9>=0)) ) λ(y10:Bool)=>(bif y10 then some (.done (.ret (false)))else some (.next (w64 (s2+1))))else some (.done (.fall ())))
def fn_(x0:Xx):Option Bool:=(bif(((decide (x0.Yr<1))||(decide (x0.Yr>4096)))||(decide ((x0.Xh.length:Int)>x0.Yr)))then some (false)else(aj_ (eP_ x0) BIG 0).bind λwo1=>match wo1 with | .ret r1=>some r1 | .fall _=>some (true))
def ref14_big_L1(x1:Int)(s2:Int×Str×Int):Option (Step (Int×Str×Int) Str):=(bif(decide (s2.2.2<x1))then(cat (bytesS [(IntKind.u8.wrap (s2.1.tmod 256))]) s2.2.1).bind λy2=>some (.next ((IntKind.u64.wrap (s2.1.tdiv 256)),y2,(w64 (s2.2.2+1))))else some (.done s2.2.1))
def ey_(x0:Int)(x1:Int):Option Str:=Option.bind (aj_ (ref14_big_L1 x1) BIG (x0,[],0)) λ(o1:Str)=>some (o1)
def do_(s2:Str):Option (Step Str Str):=(bif(((s2.length:Int).tmod 64) != 56)then(cat s2 [0]).bind λy3=>some (.next y3)else some (.done s2))
def gn_(x0:Str):Option Str:=(cat x0 [128]).bind λy1=>(aj_ do_ BIG y1).bind λo1=>(ey_ (IntKind.u64.wrap ((IntKind.u64.wrap (x0.length:Int))*8)) 8).bind λy4=>(cat o1 y4).bind λy5=>some (y5)
def jr_:Option (List Int):=some ([1116352408,1899447441,3049323471,3921009573,961987163,1508970993,2453635748,2870763221,3624381080,310598401,607225278,1426881987,1925078388,2162078206,2614888103,3248222580,3835390401,4022224774,264347078,604807628,770255983,1249150122,1555081692,1996064986,2554220882,2821834349,2952996808,3210313671,3336571891,3584528711,113926993,338241895,666307205,773529912,1294757372,1396182291,1695183700,1986661051,2177026350,2456956037,2730485921,2820302411,3259730800,3345764771,3516065817,3600352804,4094571909,275423344,430227734,506948616,659060556,883997877,958139571,1322822218,1537002063,1747873779,1955562222,2024104815,2227730452,2361852424,2428436474,2756734187,3204031479,3329325298])
def aH_(x0:Int)(x1:Int):Option Int:=(shrI .u32 x0 x1).bind λy1=>(shlI .u32 x0 (w64 (32-x1))).bind λy2=>some ((orI .u32 y1 y2))
def e8_(x0:Str)(s2:Int×(List Int)):Option (Step (Int×(List Int)) (List Int)):=(bif(decide (s2.1<16))then(bB_ x0 (w64 (4*s2.1))).bind λy6=>(bB_ x0 (w64 ((w64 (4*s2.1))+1))).bind λy7=>(bB_ x0 (w64 ((w64 (4*s2.1))+2))).bind λy8=>(bB_ x0 (w64 ((w64 (4*s2.1))+3))).bind λy9=>(room 4 s2.2 [(orI .u32 (orI .u32 (orI .u32 (IntKind.u32.wrap ((IntKind.u32.wrap y6)*2^24)) (IntKind.u32.wrap ((IntKind.u32.wrap y7)*2^16))) (IntKind.u32.wrap ((IntKind.u32.wrap y8)*2^8))) (IntKind.u32.wrap y9))]).bind λy10=>some (.next ((w64 (s2.1+1)),y10))else some (.done s2.2))
def e9_(s4:Int×(List Int)):Option (Step (Int×(List Int)) (List Int)):=(bif(decide (s4.1<64))then(ak_ s4.2 (w64 (s4.1-15))).bind λy20=>(ak_ s4.2 (w64 (s4.1-2))).bind λy21=>(aH_ y20 7).bind λy22=>(aH_ y20 18).bind λy23=>(aH_ y21 17).bind λy24=>(aH_ y21 19).bind λy25=>(ak_ s4.2 (w64 (s4.1-16))).bind λy26=>(ak_ s4.2 (w64 (s4.1-7))).bind λy27=>(room 4 s4.2 [(IntKind.u32.wrap ((IntKind.u32.wrap ((IntKind.u32.wrap (y26+(bd_ .u32 (bd_ .u32 y22 y23) (y20.fdiv (2^3)))))+y27))+(bd_ .u32 (bd_ .u32 y24 y25) (y21.fdiv (2^10)))))]).bind λy28=>some (.next ((w64 (s4.1+1)),y28))else some (.done s4.2))
def eQ_(x0:Str):Option (List Int):=(aj_ (e8_ x0) BIG (0,[])).bind λo1=>(aj_ e9_ BIG (16,o1)).bind λo2=>some (o2)
def g4_(s2:Int×Int×Int×Int×Int×Int×Int×Int×Int×(List Int)×(List Int)):Option (Step (Int×Int×Int×Int×Int×Int×Int×Int×Int×(List Int)×(List Int)) (Int×Int×Int×Int×Int×Int×Int×Int)):=(bif(decide (s2.2.2.2.2.2.2.2.2.1<64))then(aH_ s2.2.2.2.2.1 6).bind λy19=>(aH_ s2.2.2.2.2.1 11).bind λy20=>(aH_ s2.2.2.2.2.1 25).bind λy21=>(ak_ s2.2.2.2.2.2.2.2.2.2.1 s2.2.2.2.2.2.2.2.2.1).bind λy22=>(ak_ s2.2.2.2.2.2.2.2.2.2.2 s2.2.2.2.2.2.2.2.2.1).bind λy23=>(aH_ s2.1 2).bind λy24=>(aH_ s2.1 13).bind λy25=>(aH_ s2.1 22).bind λy26=>some (.next ((IntKind.u32.wrap ((IntKind.u32.wrap ((IntKind.u32.wrap ((IntKind.u32.wrap ((IntKind.u32.wrap (s2.2.2.2.2.2.2.2.1+(bd_ .u32 (bd_ .u32 y19 y20) y21)))+(bd_ .u32 (b4_ .u32 s2.2.2.2.2.1 s2.2.2.2.2.2.1) (b4_ .u32 (bd_ .u32 4294967295 s2.2.2.2.2.1) s2.2.2.2.2.2.2.1))))+y22))+y23))+(IntKind.u32.wrap ((bd_ .u32 (bd_ .u32 y24 y25) y26)+(bd_ .u32 (bd_ .u32 (b4_ .u32 s2.1 s2.2.1) (b4_ .u32 s2.1 s2.2.2.1)) (b4_ .u32 s2.2.1 s2.2.2.1)))))),s2.1,s2.2.1,s2.2.2.1,(IntKind.u32.wrap (s2.2.2.2.1+(IntKind.u32.wrap ((IntKind.u32.wrap ((IntKind.u32.wrap ((IntKind.u32.wrap (s2.2.2.2.2.2.2.2.1+(bd_ .u32 (bd_ .u32 y19 y20) y21)))+(bd_ .u32 (b4_ .u32 s2.2.2.2.2.1 s2.2.2.2.2.2.1) (b4_ .u32 (bd_ .u32 4294967295 s2.2.2.2.2.1) s2.2.2.2.2.2.2.1))))+y22))+y23)))),s2.2.2.2.2.1,s2.2.2.2.2.2.1,s2.2.2.2.2.2.2.1,(w64 (s2.2.2.2.2.2.2.2.2.1+1)),s2.2.2.2.2.2.2.2.2.2.1,s2.2.2.2.2.2.2.2.2.2.2))else some (.done (s2.1,s2.2.1,s2.2.2.1,s2.2.2.2.1,s2.2.2.2.2.1,s2.2.2.2.2.2.1,s2.2.2.2.2.2.2.1,s2.2.2.2.2.2.2.2.1)))
def hr_(x0:List Int)(x1:Str):Option (List Int):=(jr_).bind λy1=>(eQ_ x1).bind λy2=>(ak_ x0 0).bind λy3=>(ak_ x0 1).bind λy4=>(ak_ x0 2).bind λy5=>(ak_ x0 3).bind λy6=>(ak_ x0 4).bind λy7=>(ak_ x0 5).bind λy8=>(ak_ x0 6).bind λy9=>(ak_ x0 7).bind λy10=>(aj_ g4_ BIG (y3,y4,y5,y6,y7,y8,y9,y10,0,y1,y2)).bind λo1=>(ak_ x0 0).bind λy27=>(ak_ x0 1).bind λy28=>(ak_ x0 2).bind λy29=>(ak_ x0 3).bind λy30=>(ak_ x0 4).bind λy31=>(ak_ x0 5).bind λy32=>(ak_ x0 6).bind λy33=>(ak_ x0 7).bind λy34=>some ([(IntKind.u32.wrap (y27+o1.1)),(IntKind.u32.wrap (y28+o1.2.1)),(IntKind.u32.wrap (y29+o1.2.2.1)),(IntKind.u32.wrap (y30+o1.2.2.2.1)),(IntKind.u32.wrap (y31+o1.2.2.2.2.1)),(IntKind.u32.wrap (y32+o1.2.2.2.2.2.1)),(IntKind.u32.wrap (y33+o1.2.2.2.2.2.2.1)),(IntKind.u32.wrap (y34+o1.2.2.2.2.2.2.2))])
def iU_(y1:Str)(s2:Int×(List Int)):Option (Step (Int×(List Int)) (List Int)):=(bif(decide (s2.1<(y1.length:Int)))then(bo_ y1 s2.1 (w64 (s2.1+64))).bind λy4=>(hr_ s2.2 y4).bind λy5=>some (.next ((w64 (s2.1+64)),y5))else some (.done s2.2))
def iV_(s4:Str×Int×(List Int)):Option (Step (Str×Int×(List Int)) Str):=(bif(decide (s4.2.1<8))then(ak_ s4.2.2 s4.2.1).bind λy9=>(ey_ (IntKind.u64.wrap y9) 4).bind λy10=>(cat s4.1 y10).bind λy11=>some (.next (y11,(w64 (s4.2.1+1)),s4.2.2))else some (.done s4.1))
def js_(x0:Str):Option Str:=(gn_ x0).bind λy1=>(aj_ (iU_ y1) BIG (0,[1779033703,3144134277,1013904242,2773480762,1359893119,2600822924,528734635,1541459225])).bind λo1=>Option.bind (aj_ iV_ BIG ([],0,o1)) λ(o2:Str)=>some (o2)
def hs_(x0:Int)(x1:Str):Option Str:=(cat (bytesS [(IntKind.u8.wrap ((w64 ((x0.tmod 256)+256)).tmod 256))]) x1).bind λy1=>(js_ y1).bind λy2=>some (y2)
def jt_(x0:Xx)(x1:Str)(x2:Int):Option (Str×Int):=(iT_ x0.Xh x1).bind λy1=>(bif(decide (y1<0))then some (([],35))else(ak_ x0.Xh y1).bind λy2=>(bif(y2.Ya != x2)then some (([],1))else(hs_ x2 y2.Xl).bind λy3=>(bif(!(y3==x1))then some (([],34))else some ((y2.Xl,0)))))
def d6_(x0:Xx)(x1:Str)(x2:Int):Option (Str×Int):=(jt_ x0 x1 x2).bind λy1=>(bif(y1.2==1)then some (([],2))else some ((y1.1,y1.2)))
def bv_(x0:Yv)(s2:Int×Int):Option (Step (Int×Int) (Out Int (Int×Yv))):=(bif(decide (s2.2>=0))then(bif(decide (s2.1>=36028797018963968))then some (.done (.ret ((0,(Yv.mk x0.S_ x0.At_ true)))))else(bB_ x0.S_ (w64 (x0.At_+s2.2))).bind λy2=>some (.next ((w64 ((w64 (s2.1*256))+(w64 (y2)))),(w64 (s2.2-1)))))else some (.done (.fall s2.1)))
def ar_(x0:Yv)(x1:Int):Option (Int×Yv):=(bif(x0.Zj||(decide ((w64 ((x0.S_.length:Int)-x0.At_))<x1)))then some ((0,(Yv.mk x0.S_ x0.At_ true)))else(aj_ (bv_ x0) BIG (0,(w64 (x1-1)))).bind λwo1=>match wo1 with | .ret r1=>some r1 | .fall o1=>some ((o1,(Yv.mk x0.S_ (w64 (x0.At_+x1)) x0.Zj))))
def be_(x0:Yv)(x1:Int):Option (Str×Yv):=(bif(x0.Zj||(decide ((w64 ((x0.S_.length:Int)-x0.At_))<x1)))then some (([],(Yv.mk x0.S_ x0.At_ true)))else(bo_ x0.S_ (w64 ((w64 (x0.At_+x1))-x1)) (w64 (x0.At_+x1))).bind λy1=>some ((y1,(Yv.mk x0.S_ (w64 (x0.At_+x1)) x0.Zj))))
def c9_(x0:Yv):Option (Xq×Xr×Yv):=(ar_ x0 4).bind λy1=>(ar_ y1.2 4).bind λy2=>(ar_ y2.2 4).bind λy3=>(ar_ y3.2 4).bind λy4=>(ar_ y4.2 8).bind λy5=>(ar_ y5.2 8).bind λy6=>(ar_ y6.2 2).bind λy7=>(be_ y7.2 y7.1).bind λy8=>(ar_ y8.2 2).bind λy9=>(be_ y9.2 y9.1).bind λy10=>(ar_ y10.2 2).bind λy11=>(be_ y11.2 y11.1).bind λy12=>(ar_ y12.2 2).bind λy13=>(be_ y13.2 y13.1).bind λy14=>(ar_ y14.2 4).bind λy15=>(ar_ y15.2 1).bind λy16=>(be_ y16.2 32).bind λy17=>some (((Xq.mk y1.1 y2.1 y3.1 y8.1 y4.1 y10.1 y12.1 y14.1 y5.1 y6.1 []),(Xr.mk y17.1 y15.1 y16.1),y17.2))
def go_(s2:Int×Int):Option (Step (Int×Int) Int):=(bif(decide (s2.1>1))then some (.next ((IntKind.i64.wrap ((w64 ((w64 (s2.1+32))-1)).tdiv 32)),(w64 (s2.2+1))))else some (.done s2.2))
def gp_(x0:Int):Option Int:=(aj_ go_ BIG ((bV_ 1 (IntKind.i64.wrap ((w64 ((w64 (x0+1024))-1)).tdiv 1024))),0)).bind λo1=>some (o1)
def fo_(x0:Xr):Option Bool:=Option.bind (bif((((x0.Xc.length:Int)==32)&&(decide (x0.Yj>=0)))&&(decide (x0.Yj<=1048576)))then(gp_ x0.Yj).bind λy1=>some (x0.Yu==y1)else some false) λ(y2:Bool)=>some (y2)
def q7_(x0:Int)(s2:Int×Int):Option (Step (Int×Int) Int):=(bif(decide (s2.2<x0))then some (.next ((w64 (s2.1*32)),(w64 (s2.2+1))))else some (.done s2.1))
def eR_(x0:Int):Option Int:=(aj_ (q7_ x0) BIG (1024,0)).bind λo1=>some (o1)
def fy_(y5:Int)(x5:Int)(y4:Int)(x4:Int)(x6:Int)(x7:Bool)(y3:Str×Int)(rec0:Xx->Str->Int->Int->Int->Int->Int->Bool->Option (Str×Int))(x0:Xx)(x2:Int)(x3:Int)(s2:Str×Int):Option (Step (Str×Int) (Out Str (Str×Int))):=(bif(decide (s2.2<y5))then Option.bind ( (bif((decide ((bH_ (bV_ (w64 (x5-(w64 (s2.2*y4)))) 0) (bH_ y4 (w64 (x4-(w64 (s2.2*y4))))))>=(bH_ (bV_ (w64 (x6-(w64 (s2.2*y4)))) 0) (bH_ y4 (w64 (x4-(w64 (s2.2*y4))))))))&&(!x7))then some (.fall s2.1)else(bo_ y3.1 (w64 (32*s2.2)) (w64 ((w64 (32*s2.2))+32))).bind λy9=>(rec0 x0 y9 x2 (w64 (x3-1)) (bH_ y4 (w64 (x4-(w64 (s2.2*y4))))) (bH_ (bV_ (w64 (x5-(w64 (s2.2*y4)))) 0) (bH_ y4 (w64 (x4-(w64 (s2.2*y4)))))) (bH_ (bV_ (w64 (x6-(w64 (s2.2*y4)))) 0) (bH_ y4 (w64 (x4-(w64 (s2.2*y4)))))) x7).bind λy10=>(bif(y10.2 != 0)then some (.ret (([],y10.2)))else(cat s2.1 y10.1).bind λy11=>some (.fall y11))) ) λ(wo2:Out Str (Str×Int))=>match wo2 with | .ret r2=>some (.done (.ret r2)) | .fall o2=>some (.next (o2,(w64 (s2.2+1))))else some (.done (.fall s2.1)))
def dI_(rec0:Xx->Str->Int->Int->Int->Int->Int->Bool->Option (Str×Int))(x0:Xx)(x1:Str)(x2:Int)(x3:Int)(x4:Int)(x5:Int)(x6:Int)(x7:Bool):Option (Str×Int):=(bif(x3==0)then(d6_ x0 x1 x2).bind λy1=>(bif(y1.2 != 0)then some (([],y1.2))else(bif((y1.1.length:Int) != x4)then some (([],2))else(bo_ y1.1 x5 x6).bind λy2=>some ((y2,0))))else(d6_ x0 x1 2).bind λy3=>(bif(y3.2 != 0)then some (([],y3.2))else(eR_ (w64 (x3-1))).bind λy4=>(quoI .i64 (w64 ((w64 (x4+y4))-1)) y4).bind λy5=>(bif((y3.1.length:Int) != (w64 (32*y5)))then some (([],2))else Option.bind (aj_ (fy_ y5 x5 y4 x4 x6 x7 y3 rec0 x0 x2 x3) BIG ([],0)) λ(wo3:Out Str (Str×Int))=>match wo3 with | .ret r3=>some r3 | .fall o3=>some ((o3,0)))))
def dp_:Nat->Xx->Str->Int->Int->Int->Int->Int->Bool->Option (Str×Int) | 0=>λ_ _ _ _ _ _ _ _=>none|n+1=>dI_ (dp_ n)
def cu_(x0:Xx)(x1:Int)(x2:Xr):Option (Str×Int):=(fo_ x2).bind λy1=>(bif(!y1)then some (([],2))else(dp_ BIG x0 x2.Xc x1 x2.Yu x2.Yj 0 x2.Yj true).bind λy2=>some ((y2.1,y2.2)))
def bJ_(y5:Str×Int)(x1:Xq)(s2:(List Xq)×(List Xr)×Yv):Option (Step ((List Xq)×(List Xr)×Yv) (Out ((List Xq)×(List Xr)) ((List Xq)×Int))):=(bif(decide (s2.2.2.At_<(y5.1.length:Int)))then(c9_ s2.2.2).bind λy9=>(bif(y9.2.2.Zj||(y9.1.Xw != x1.Id_))then some (.done (.ret (([],2))))else(room 128 s2.1 [y9.1]).bind λy10=>(room 32 s2.2.1 [y9.2.1]).bind λy11=>some (.next (y10,y11,y9.2.2)))else some (.done (.fall (s2.1,s2.2.1))))
def cv_(rec0:Xx->Xq->Xr->Int->Option ((List Xq)×Int))(x0:Xx)(x3:Int)(s4:Int×(List Xq)×(List Xr)×(List Xq)):Option (Step (Int×(List Xq)×(List Xr)×(List Xq)) (Out (List Xq) ((List Xq)×Int))):=(bif(decide (s4.1<(s4.2.1.length:Int)))then(ak_ s4.2.1 s4.1).bind λy16=>(ak_ s4.2.2.1 s4.1).bind λy17=>(rec0 x0 y16 y17 (w64 (x3-(s4.2.2.2.length:Int)))).bind λy18=>(bif(y18.2 != 0)then some (.done (.ret (([],y18.2))))else(room 128 s4.2.2.2 y18.1).bind λy19=>some (.next ((w64 (s4.1+1)),s4.2.1,s4.2.2.1,y19)))else some (.done (.fall s4.2.2.2)))
def cf_(rec0:Xx->Xq->Xr->Int->Option ((List Xq)×Int))(x0:Xx)(x1:Xq)(x2:Xr)(x3:Int):Option ((List Xq)×Int):=Option.bind (bif(decide (x3<1))then some true else(fo_ x2).bind λy1=>some (!y1) ) λ(y2:Bool)=>(bif y2 then some (([],2))else(b9_ x1.Xp).bind λy3=>(bif(!y3)then(cu_ x0 1 x2).bind λy4=>some (([(Xq.mk x1.Id_ x1.Xw x1.Yz x1.Xv x1.Xp x1.Yf x1.Ym x1.Yy x1.Xo x1.Yx y4.1)],y4.2))else(cu_ x0 3 x2).bind λy5=>(bif(y5.2 != 0)then some (([],y5.2))else Option.bind (aj_ (bJ_ y5 x1) BIG ([],[],(Yv.mk y5.1 0 false))) λ(wo1:Out ((List Xq)×(List Xr)) ((List Xq)×Int))=>match wo1 with | .ret r1=>some r1 | .fall o1=>(aj_ (cv_ rec0 x0 x3) BIG (0,o1.1,o1.2,[x1])).bind λwo2=>match wo2 with | .ret r2=>some r2 | .fall o2=>some ((o2,0)))))
def bT_:Nat->Xx->Xq->Xr->Int->Option ((List Xq)×Int) | 0=>λ_ _ _ _=>none|n+1=>cf_ (bT_ n)
def eh_(s4:(List Xq)×Int)(x0:List Xq)(s6:Int):Option (Step Int Int):=Option.bind (bif(decide (s6<(s4.1.length:Int)))then(ak_ s4.1 s6).bind λy10=>(ak_ x0 s4.2).bind λy11=>some (decide (y10.Id_<=y11.Id_))else some false) λ(y12:Bool)=>(bif y12 then some (.next (w64 (s6+1)))else some (.done s6))
def ei_(x0:List Xq)(s4:(List Xq)×Int):Option (Step ((List Xq)×Int) (List Xq)):=(bif(decide (s4.2<(x0.length:Int)))then(aj_ (eh_ s4 x0) BIG 0).bind λo2=>(bo_ s4.1 0 o2).bind λy13=>(room 128 ([]:List Xq) y13).bind λy14=>(ak_ x0 s4.2).bind λy15=>(room 128 y14 [y15]).bind λy16=>(bo_ s4.1 o2 (s4.1.length:Int)).bind λy17=>(room 128 y16 y17).bind λy18=>some (.next (y18,(w64 (s4.2+1))))else some (.done s4.1))
def gq_(x0:List Xq):Option (List Xq):=Option.bind (aj_ (ei_ x0) BIG ([],0)) λ(o3:(List Xq))=>some (o3)
def di_(x0:Xx)(x1:Str):Option (Xy×Int):=(d6_ x0 x1 4).bind λy1=>(bif(y1.2 != 0)then some (((Xy.mk 0 []),y1.2))else(ar_ (Yv.mk y1.1 0 false) 4).bind λy2=>(ar_ y2.2 4).bind λy3=>(c9_ y3.2).bind λy4=>(bif(((y4.2.2.Zj||(y4.2.2.At_ != (y1.1.length:Int)))||(decide (y3.1<1)))||(decide (y3.1>1024)))then some (((Xy.mk 0 []),2))else(bT_ BIG x0 y4.1 y4.2.1 y3.1).bind λy5=>(bif(y5.2 != 0)then some (((Xy.mk 0 []),y5.2))else(gq_ y5.1).bind λy6=>Option.bind (bif((y5.1.length:Int) != y3.1)then some true else(c5_ (Xy.mk y2.1 y6)).bind λy7=>some (!y7) ) λ(y8:Bool)=>(bif y8 then some (((Xy.mk 0 []),2))else some (((Xy.mk y2.1 y6),0))))))
def eS_(x0:Xg)(s2:Int):Option (Step Int (Out Unit Bool)):=(bif(decide (s2<(x0.Xt.length:Int)))then(ak_ x0.Xt s2).bind λy12=>Option.bind (bif((decide (y12.Yg<0))||(decide (y12.Yg>1099511627776)))then some true else Option.bind (bif(decide (s2>0))then(ak_ x0.Xt (w64 (s2-1))).bind λy13=>some (decide (y13.Yg>=y12.Yg))else some false) λ(y14:Bool)=>some y14 ) λ(y15:Bool)=>(bif y15 then some (.done (.ret (false)))else(di_ x0.Yd y12.Xc).bind λy16=>Option.bind (bif(y16.2 != 0)then some true else(c5_ y16.1).bind λy17=>some (!y17) ) λ(y18:Bool)=>(bif y18 then some (.done (.ret (false)))else some (.next (w64 (s2+1)))))else some (.done (.fall ())))
def ht_(x0:Xg):Option Bool:=Option.bind (bif(decide ((x0.Xt.length:Int)>64))then some true else(hp_ x0.Xd).bind λy1=>some (!y1) ) λ(y2:Bool)=>Option.bind (bif y2 then some true else(fn_ x0.Yd).bind λy3=>some (!y3) ) λ(y4:Bool)=>(bif y4 then some (false)else(aj_ (eS_ x0) BIG 0).bind λwo1=>match wo1 with | .ret r1=>some r1 | .fall _=>some (true))
def fz_(x0:Str)(s2:Int):Option (Step Int (Out Unit Bool)):=(bif(decide (s2<(x0.length:Int)))then(bB_ x0 s2).bind λy2=>(bif((!((decide (y2>=97))&&(decide (y2<=122))))&&((s2==0)||(!((((decide (y2>=48))&&(decide (y2<=57)))||(y2==45))||(y2==95)))))then some (.done (.ret (false)))else some (.next (w64 (s2+1))))else some (.done (.fall ())))
def dV_(x0:Str):Option Bool:=(bif((x0==[])||(decide ((x0.length:Int)>32)))then some (false)else(aj_ (fz_ x0) BIG 0).bind λwo1=>match wo1 with | .ret r1=>some r1 | .fall _=>some (true))
def ej_(x1:List Str)(x0:List Str×List Int)(s2:Int):Option (Step Int (Out Unit (Int×(List Str)×(List Int)))):=(bif(decide (s2<(x1.length:Int)))then(ak_ x1 s2).bind λy4=>(bif((au_ eqS x0.1 x0.2 y4 0)==0)then some (.done (.ret ((26,x0.1,x0.2))))else Option.bind (bif(decide (s2>0))then(ak_ x1 (w64 (s2-1))).bind λy5=>some (!(Op.bytesLess y5 y4))else some false) λ(y6:Bool)=>(bif y6 then some (.done (.ret ((26,x0.1,x0.2))))else some (.next (w64 (s2+1)))))else some (.done (.fall ())))
def gr_(x0:List Str×List Int)(x1:List Str):Option (Int×(List Str)×(List Int)):=(aj_ (ej_ x1 x0) BIG 0).bind λwo1=>match wo1 with | .ret r1=>some r1 | .fall _=>some ((0,x0.1,x0.2))
def fA_(x0:List Xf)(s2:Int×(List Str)×(List Int)):Option (Step (Int×(List Str)×(List Int)) ((List Str)×(List Int))):=(bif(decide (s2.1<(x0.length:Int)))then(ak_ x0 s2.1).bind λy2=>some (.next ((w64 (s2.1+1)),(aD_ eqS s2.2.1 y2.Xv),(aN_ eqS s2.2.1 s2.2.2 y2.Xv (w64 ((au_ eqS s2.2.1 s2.2.2 y2.Xv 0)+1)))))else some (.done (s2.2.1,s2.2.2)))
def d0_(x0:List Xf)(s4:Int×(List Str)×(List Int)×(List Str)×(List Int)):Option (Step (Int×(List Str)×(List Int)×(List Str)×(List Int)) (Out Unit Int)):=(bif(decide (s4.1<(x0.length:Int)))then(ak_ x0 s4.1).bind λy7=>(dV_ y7.Xv).bind λy8=>(bif(!y8)then some (.done (.ret (25)))else(bif(decide ((au_ eqS s4.2.2.2.1 s4.2.2.2.2 y7.Xv 0)>0))then some (.done (.ret (7)))else Option.bind (bif(!(y7.Yc==[]))then some ((au_ eqS s4.2.1 s4.2.2.1 y7.Yc 0)==0)else some false) λ(y9:Bool)=>(bif y9 then some (.done (.ret (26)))else(gr_ (s4.2.1,s4.2.2.1) y7.Yw).bind λy10=>(bif(y10.1 != 0)then some (.done (.ret (y10.1)))else some (.next ((w64 (s4.1+1)),y10.2.1,y10.2.2,(aD_ eqS s4.2.2.2.1 y7.Xv),(aN_ eqS s4.2.2.2.1 s4.2.2.2.2 y7.Xv (w64 ((au_ eqS s4.2.2.2.1 s4.2.2.2.2 y7.Xv 0)+1)))))))))else some (.done (.fall ())))
def gs_(x0:List Xf):Option Int:=(bif(decide ((x0.length:Int)>64))then some (22)else(aj_ (fA_ x0) BIG (0,([]:List Str),([]:List Int))).bind λo1=>(aj_ (d0_ x0) BIG (0,o1.1,o1.2,([]:List Str),([]:List Int))).bind λwo2=>match wo2 with | .ret r2=>some r2 | .fall _=>some (0))
def g5_(x0:List Yq)(s2:Int):Option (Step Int (Out Unit Int)):=(bif(decide (s2<(x0.length:Int)))then(ak_ x0 s2).bind λy5=>(dV_ y5.Ye).bind λy6=>(bif(!y6)then some (.done (.ret (25)))else Option.bind (bif(decide (s2>0))then(ak_ x0 (w64 (s2-1))).bind λy7=>some (Op.bytesLess y5.Ye y7.Ye||y5.Ye==y7.Ye)else some false) λ(y8:Bool)=>(bif y8 then some (.done (.ret (2)))else(bif((decide ((bH_ y5.Xd y5.Ys)<0))||(decide ((bV_ y5.Xd y5.Ys)>9007199254740991)))then some (.done (.ret (5)))else some (.next (w64 (s2+1))))))else some (.done (.fall ())))
def fp_(x0:List Yq):Option Int:=(bif(decide ((x0.length:Int)>64))then some (22)else(aj_ (g5_ x0) BIG 0).bind λwo1=>match wo1 with | .ret r1=>some r1 | .fall _=>some (0))
def gE_(x0:List Xf):Option (List Xf):=(nilB x0 λ(n1:Bool)=>(bif n1 then some ([])else(room 56 ([]:List Xf) x0).bind λy1=>some (y1)))
def bb_(x0:List Xf):Option (List Xf):=room 56 ([]:List Xf) x0
theorem gF_:gE_=bb_:=funext λ_=>es_
def ga_(x0:List Yq):Option (List Yq):=(nilB x0 λ(n1:Bool)=>(bif n1 then some ([])else(room 32 ([]:List Yq) x0).bind λy1=>some (y1)))
def aW_(x0:List Yq):Option (List Yq):=room 32 ([]:List Yq) x0
theorem gb_:ga_=aW_:=funext λ_=>es_
def d1_(x0:Int):Option Int:=some ((bH_ (bV_ x0 0) 1099511627776))
def eT_(x0:Str):Option Str:=(bif(decide ((x0.length:Int)>64))then some ([])else some (x0))
def eU_(x0:Int):Option Int:=some ((bH_ (bV_ x0 0) 1099511627776))
def tree_New(x0:Str)(x1:Int)(x2:Int):Option Xy:=(remI x1 512).bind λy1=>(remI (w64 (y1+512)) 512).bind λy2=>(eT_ x0).bind λy3=>(eU_ x2).bind λy4=>some ((Xy.mk 2 [(Xq.mk 1 1 0 [47] (w64 (2147483648+y2)) y3 y3 y3 y4 y4 [])]))
def hI_(x0:List Str):Option (List Str):=(nilB x0 λ(n1:Bool)=>(bif n1 then some ([])else(room 16 ([]:List Str) x0).bind λy1=>some (y1)))
def aX_(x0:List Str):Option (List Str):=room 16 ([]:List Str) x0
theorem hJ_:hI_=aX_:=funext λ_=>es_
def p0_(y4:(List Xf))(s2:Int×(List Xf)):Option (Step (Int×(List Xf)) (List Xf)):=(bif(decide (s2.1<(y4.length:Int)))then(ak_ s2.2 s2.1).bind λy11=>(aX_ y11.Yw).bind λy12=>(ak_ s2.2 s2.1).bind λy13=>some (.next ((w64 (s2.1+1)),(s2.2.set s2.1.toNat (Xf.mk y13.Xv y13.Yc y12))))else some (.done s2.2))
def nl_(x0:List Xf)(x1:List Yq)(x2:Str)(x3:Int):Option (Xm×Int):=(gs_ x0).bind λy1=>(bif(y1 != 0)then some (((Xm.mk [] [] (Xy.mk 0 []) []),y1))else(fp_ x1).bind λy2=>(bif(y2 != 0)then some (((Xm.mk [] [] (Xy.mk 0 []) []),y2))else(dV_ x2).bind λy3=>(bif(!y3)then some (((Xm.mk [] [] (Xy.mk 0 []) []),25))else(bb_ x0).bind λy4=>(aW_ x1).bind λy5=>(d1_ x3).bind λy6=>(tree_New x2 493 y6).bind λy7=>(aj_ (p0_ y4) BIG (0,y4)).bind λo1=>some (((Xm.mk o1 y5 y7 []),0)))))
def gG_(x0:List Xq):Option (List Xq):=(nilB x0 λ(n1:Bool)=>(bif n1 then some ([])else(room 128 ([]:List Xq) x0).bind λy1=>some (y1)))
def bs_(x0:List Xq):Option (List Xq):=room 128 ([]:List Xq) x0
theorem gH_:gG_=bs_:=funext λ_=>es_
def ki_(x0:List Int):Option (List Int):=(nilB x0 λ(n1:Bool)=>(bif n1 then some ([])else(room 8 ([]:List Int) x0).bind λy1=>some (y1)))
def bP_(x0:List Int):Option (List Int):=room 8 ([]:List Int) x0
theorem kj_:ki_=bP_:=funext λ_=>es_
def cm_(y1:(List Xf))(s2:Int×(List Xf)):Option (Step (Int×(List Xf)) (List Xf)):=(bif(decide (s2.1<(y1.length:Int)))then(ak_ s2.2 s2.1).bind λy5=>(aX_ y5.Yw).bind λy6=>(ak_ s2.2 s2.1).bind λy7=>some (.next ((w64 (s2.1+1)),(s2.2.set s2.1.toNat (Xf.mk y7.Xv y7.Yc y6))))else some (.done s2.2))
def cg_(x0:Xm):Option Xm:=(bb_ x0.Yn).bind λy1=>(aj_ (cm_ y1) BIG (0,y1)).bind λo1=>(aW_ x0.Yp).bind λy8=>(bs_ x0.Xe.Xz).bind λy9=>(bP_ x0.Xu).bind λy10=>some ((Xm.mk o1 y8 (Xy.mk x0.Xe.Yk y9) y10))
def block_New(x0:Int):Option Xx:=some ((Xx.mk (bH_ (bV_ x0 1) 4096) []))
def da_(x0:Xm)(x1:Int):Option Xg:=(cg_ x0).bind λy1=>(block_New x1).bind λy2=>some ((Xg.mk y1 y2 []))
def iW_(x0:Xy)(x1:Xq->Option Bool)(s2:Int):Option (Step Int (Out Unit Int)):=(bif(decide (s2<(x0.Xz.length:Int)))then(ak_ x0.Xz s2).bind λy3=>(x1 y3).bind λy4=>(bif y4 then some (.done (.ret (s2)))else some (.next (w64 (s2+1))))else some (.done (.fall ())))
def ju_(x0:Xy)(x1:Xq->Option Bool):Option Int:=(aj_ (iW_ x0 x1) BIG 0).bind λwo1=>match wo1 with | .ret r1=>some r1 | .fall _=>some ((-1))
def mk_(x0:Xq)(x1:Int):Option Bool:=some ((x0.Id_==x1))
def eV_(x0:Xy)(x1:Int):Option Int:=(ju_ x0 (λ(u1:Xq)=>Option.bind (mk_ u1 x1) λ(v1:Bool)=>some v1)).bind λy1=>some (y1)
def ck_(x0:Xy)(x1:Int):Option (Xq×Bool):=(eV_ x0 x1).bind λy1=>(bif(decide (y1<0))then some (((Xq.mk 0 0 0 [] 0 [] [] [] 0 0 []),false))else(ak_ x0.Xz y1).bind λy2=>some ((y2,true)))
def gt_(x0:Xm)(x1:Str)(x2:Int):Option (Xq×Int):=(dV_ x1).bind λy1=>(bif(!y1)then some (((Xq.mk 0 0 0 [] 0 [] [] [] 0 0 []),25))else(ck_ x0.Xe x2).bind λy2=>(bif(!y2.2)then some (((Xq.mk 0 0 0 [] 0 [] [] [] 0 0 []),8))else some ((y2.1,0))))
def aV_(x0:Int)(x1:Int):Option Bool:=some (((decide (x0>=0))&&((b4_ .i64 x0 x1) != 0)))
def fa_(x0:Xm)(x1:Str)(x2:Int):Option (Xq×Int):=(gt_ x0 x1 x2).bind λy1=>Option.bind ( Option.bind (bif(y1.2==0)then(aV_ y1.1.Xp 2147483648).bind λy2=>some (!y2)else some false) λ(y3:Bool)=>(bif y3 then some 9 else some y1.2) ) λ(o1:Int)=>some ((y1.1,o1))
def user_Find_L1(x0:List Xf)(x1:Str)(s2:Int):Option (Step Int (Out Unit (Xf×Bool))):=(bif(decide (s2<(x0.length:Int)))then(ak_ x0 s2).bind λy3=>(bif(y3.Xv==x1)then(aX_ y3.Yw).bind λy4=>some (.done (.ret (((Xf.mk y3.Xv y3.Yc y4),true))))else some (.next (w64 (s2+1))))else some (.done (.fall ())))
def user_Find(x0:List Xf)(x1:Str):Option (Xf×Bool):=(aj_ (user_Find_L1 x0 x1) BIG 0).bind λwo1=>match wo1 with | .ret r1=>some r1 | .fall _=>some (((Xf.mk [] [] []),false))
def cw_(x0:List Str)(x1:Str)(s2:Int):Option (Step Int (Out Unit Int)):=(bif(decide (s2<(x0.length:Int)))then(ak_ x0 s2).bind λy2=>(bif(x1==y2)then some (.done (.ret (s2)))else some (.next (w64 (s2+1))))else some (.done (.fall ())))
def c1_(x0:List Str)(x1:Str):Option Int:=(aj_ (cw_ x0 x1) BIG 0).bind λwo1=>match wo1 with | .ret r1=>some r1 | .fall _=>some ((-1))
def dJ_(x0:List Str)(x1:Str):Option Bool:=(c1_ x0 x1).bind λy1=>some ((decide (y1>=0)))
def nm_(x0:List Xf)(x1:Str)(x2:Str):Option Bool:=(bif(x1==x2)then some (true)else(user_Find x0 x2).bind λy1=>Option.bind (bif y1.2 then(dJ_ y1.1.Yw x1).bind λy2=>some y2 else some false) λ(y3:Bool)=>some (y3))
def jT_(x0:List Xf)(x1:Str)(x2:Str)(x3:Str)(x4:Int)(x5:Int):Option Bool:=(bif(((decide (x4<0))||(decide (x5<0)))||(decide (x5>7)))then some (false)else Option.bind ( (nm_ x0 x1 x3).bind λy1=>(bif y1 then some (orI .i64 (x4.tmod 8) ((IntKind.i64.wrap (x4.tdiv 8)).tmod 8))else some (x4.tmod 8)) ) λ(o1:Int)=>Option.bind ( (bif(x1==x2)then some (orI .i64 o1 ((IntKind.i64.wrap (x4.tdiv 64)).tmod 8))else some o1) ) λ(o2:Int)=>some (((b4_ .i64 o2 x5)==x5)))
def fq_(x0:Xm)(x1:Str)(x2:Xq)(x3:Int):Option Bool:=(jT_ x0.Yn x1 x2.Yf x2.Ym x2.Xp x3).bind λy1=>some (y1)
def bq_(x0:Int):Option Bool:=some (((decide (x0>=0))&&(((IntKind.i64.wrap (x0.tdiv 2147483648)).tmod 2)==1)))
def hu_(x0:Xy)(x1:Int):Option Int:=(ck_ x0 x1).bind λy1=>(bif(!y1.2)then some (8)else(bq_ y1.1.Xp).bind λy2=>(bif(!y2)then some (9)else some (0)))
def ml_(x0:Xq)(x1:Int)(x2:Str):Option Bool:=some ((((x0.Xw==x1)&&(x0.Id_ != 1))&&(x0.Xv==x2)))
def la_(x0:Xy)(x1:Int)(x2:Str):Option Int:=(ju_ x0 (λ(u1:Xq)=>Option.bind (ml_ u1 x1 x2) λ(v1:Bool)=>some v1)).bind λy1=>some (y1)
def mm_(x0:Xy)(x1:Int)(x2:Str):Option (Int×Int):=(hu_ x0 x1).bind λy1=>(bif(y1 != 0)then some ((0,y1))else(bif(x2==[46,46])then(ck_ x0 x1).bind λy2=>some ((y2.1.Xw,0))else(la_ x0 x1 x2).bind λy3=>(bif(decide (y3<0))then some ((0,8))else(ak_ x0.Xz y3).bind λy4=>some ((y4.Id_,0)))))
def iX_(x0:Xm)(x1:Str)(x2:Int)(x3:Str):Option (Int×Int):=(fa_ x0 x1 x2).bind λy1=>(bif(y1.2 != 0)then some ((0,y1.2))else(fq_ x0 x1 y1.1 1).bind λy2=>(bif(!y2)then some ((0,11))else(mm_ x0.Xe x2 x3).bind λy3=>some ((y3.1,y3.2))))
def kk_(x0:Xg)(x1:Str):Option Bool:=Option.bind (iX_ x0.Xd x1 0 []) λ(y1:Int×Int)=>some ((y1.2 != 25))
def bf_(x0:List Xi)(x1:Xi->Option Bool)(s2:Int):Option (Step Int (Out Unit Int)):=(bif(decide (s2<(x0.length:Int)))then(ak_ x0 s2).bind λy3=>(x1 y3).bind λy4=>(bif y4 then some (.done (.ret (s2)))else some (.next (w64 (s2+1))))else some (.done (.fall ())))
def bQ_(x0:List Xi)(x1:Xi->Option Bool):Option Int:=(aj_ (bf_ x0 x1) BIG 0).bind λwo1=>match wo1 with | .ret r1=>some r1 | .fall _=>some ((-1))
def hY_(x0:Xi)(x1:Str):Option Bool:=some ((x0.Xc==x1))
def fr_(x0:Xx)(x1:Str):Option Int:=(bQ_ x0.Xh (λ(u1:Xi)=>Option.bind (hY_ u1 x1) λ(v1:Bool)=>some v1)).bind λy1=>some (y1)
def jU_(s2:(List Int)):Option (Step (List Int) (List Int)):=(bif(((s2.length:Int).tmod 64) != 56)then(room 1 s2 [0]).bind λy4=>some (.next y4)else some (.done s2))
def hv_(x0:Str)(s4:Int×(List Int)):Option (Step (Int×(List Int)) (List Int)):=(bif(decide (s4.1>=0))then(shrI .u64 (IntKind.u64.wrap (8*(IntKind.u64.wrap (x0.length:Int)))) s4.1).bind λy7=>(room 1 s4.2 [(IntKind.u8.wrap y7)]).bind λy8=>some (.next ((w64 (s4.1-8)),y8))else some (.done s4.2))
def iY_(x0:Str):Option Str:=(room 1 ([]:List Int) (cr_ x0)).bind λy1=>(room 1 y1 [128]).bind λy2=>(aj_ jU_ BIG y2).bind λo1=>(aj_ (hv_ x0) BIG (56,o1)).bind λo2=>some ((bytesS o2))
def jv_(x0:Str):Option Int:=(bB_ x0 0).bind λy1=>(bB_ x0 1).bind λy2=>(bB_ x0 2).bind λy3=>(bB_ x0 3).bind λy4=>some ((orI .u32 (orI .u32 (orI .u32 (IntKind.u32.wrap ((IntKind.u32.wrap y1)*2^24)) (IntKind.u32.wrap ((IntKind.u32.wrap y2)*2^16))) (IntKind.u32.wrap ((IntKind.u32.wrap y3)*2^8))) (IntKind.u32.wrap y4)))
def h6_(x0:Int)(x1:Int):Option Int:=(shlI .u32 x0 (b4_ .u64 (IntKind.u64.wrap x1) 31)).bind λy1=>(shrI .u32 x0 (IntKind.u64.wrap (32-(b4_ .u64 (IntKind.u64.wrap x1) 31)))).bind λy2=>some ((orI .u32 y1 y2))
def aQ_(x0:Int)(x1:Int):Option Int:=(h6_ x0 (w64 (0-x1))).bind λy1=>some (y1)
def fT_(x0:Str)(s2:Int×Yb):Option (Step (Int×Yb) Yb):=(bif(decide (s2.1<64))then Option.bind ( (bif(decide (s2.1<16))then(bo_ x0 (w64 (4*s2.1)) (x0.length:Int)).bind λy19=>(jv_ y19).bind λy20=>(cc_ 64 s2.1).bind λ_=>(setI s2.2.l s2.1 y20).bind λy22=>some (Yb.of y22)else(cc_ 64 (w64 (s2.1-15))).bind λ_=>(ak_ s2.2.l (w64 (s2.1-15))).bind λy24=>(cc_ 64 (w64 (s2.1-2))).bind λ_=>(ak_ s2.2.l (w64 (s2.1-2))).bind λy26=>(aQ_ y24 7).bind λy27=>(aQ_ y24 18).bind λy28=>(aQ_ y26 17).bind λy29=>(aQ_ y26 19).bind λy30=>(cc_ 64 (w64 (s2.1-16))).bind λ_=>(ak_ s2.2.l (w64 (s2.1-16))).bind λy32=>(cc_ 64 (w64 (s2.1-7))).bind λ_=>(ak_ s2.2.l (w64 (s2.1-7))).bind λy34=>(cc_ 64 s2.1).bind λ_=>(setI s2.2.l s2.1 (IntKind.u32.wrap ((IntKind.u32.wrap ((IntKind.u32.wrap (y32+(bd_ .u32 (bd_ .u32 y27 y28) (y24.fdiv (2^3)))))+y34))+(bd_ .u32 (bd_ .u32 y29 y30) (y26.fdiv (2^10)))))).bind λy36=>some (Yb.of y36)) ) λ(o2:Yb)=>some (.next ((w64 (s2.1+1)),o2))else some (.done s2.2))
def fB_(x0:Str):Option Yb:=(aj_ (fT_ x0) BIG (0,(Yb.mk 0 0 0 0 0 0 0 0 0 0 0 0 0 0 0 0 0 0 0 0 0 0 0 0 0 0 0 0 0 0 0 0 0 0 0 0 0 0 0 0 0 0 0 0 0 0 0 0 0 0 0 0 0 0 0 0 0 0 0 0 0 0 0 0))).bind λo3=>some (o3)
def jV_(y1:Yb)(s2:Int×Xa):Option (Step (Int×Xa) Xa):=(bif(decide (s2.1<64))then(aQ_ s2.2.a4_ 6).bind λy12=>(aQ_ s2.2.a4_ 11).bind λy13=>(aQ_ s2.2.a4_ 25).bind λy14=>(cc_ 64 s2.1).bind λ_=>(ak_ glob0.l s2.1).bind λy16=>(cc_ 64 s2.1).bind λ_=>(ak_ y1.l s2.1).bind λy18=>(aQ_ s2.2.a0_ 2).bind λy19=>(aQ_ s2.2.a0_ 13).bind λy20=>(aQ_ s2.2.a0_ 22).bind λy21=>some (.next ((w64 (s2.1+1)),(Xa.mk (IntKind.u32.wrap ((IntKind.u32.wrap ((IntKind.u32.wrap ((IntKind.u32.wrap ((IntKind.u32.wrap (s2.2.a7_+(bd_ .u32 (bd_ .u32 y12 y13) y14)))+(bd_ .u32 (b4_ .u32 s2.2.a4_ s2.2.a5_) (b4_ .u32 (bd_ .u32 4294967295 s2.2.a4_) s2.2.a6_))))+y16))+y18))+(IntKind.u32.wrap ((bd_ .u32 (bd_ .u32 y19 y20) y21)+(bd_ .u32 (bd_ .u32 (b4_ .u32 s2.2.a0_ s2.2.a1_) (b4_ .u32 s2.2.a0_ s2.2.a2_)) (b4_ .u32 s2.2.a1_ s2.2.a2_)))))) s2.2.a0_ s2.2.a1_ s2.2.a2_ (IntKind.u32.wrap (s2.2.a3_+(IntKind.u32.wrap ((IntKind.u32.wrap ((IntKind.u32.wrap ((IntKind.u32.wrap (s2.2.a7_+(bd_ .u32 (bd_ .u32 y12 y13) y14)))+(bd_ .u32 (b4_ .u32 s2.2.a4_ s2.2.a5_) (b4_ .u32 (bd_ .u32 4294967295 s2.2.a4_) s2.2.a6_))))+y16))+y18)))) s2.2.a4_ s2.2.a5_ s2.2.a6_)))else some (.done s2.2))
def nn_(o1:Xa)(s4:Int×Xa):Option (Step (Int×Xa) Xa):=(bif(decide (s4.1<8))then(cc_ 8 s4.1).bind λ_=>(ak_ s4.2.l s4.1).bind λy29=>(cc_ 8 s4.1).bind λ_=>(ak_ o1.l s4.1).bind λy31=>(cc_ 8 s4.1).bind λ_=>(setI s4.2.l s4.1 (IntKind.u32.wrap (y29+y31))).bind λy33=>some (.next ((w64 (s4.1+1)),(Xa.of y33)))else some (.done s4.2))
def lb_(x0:Xa)(x1:Str):Option Xa:=(fB_ x1).bind λy1=>(aj_ (jV_ y1) BIG (0,x0)).bind λo1=>(aj_ (nn_ o1) BIG (0,x0)).bind λo2=>some (o2)
def jW_(s2:Str×Xa):Option (Step (Str×Xa) Xa):=(bif(!(s2.1==[]))then(bo_ s2.1 0 64).bind λy5=>(lb_ s2.2 y5).bind λy6=>(bo_ s2.1 64 (s2.1.length:Int)).bind λy7=>some (.next (y7,y6))else some (.done s2.2))
def no_(o1:Xa)(s4:Int×(List Int)):Option (Step (Int×(List Int)) (List Int)):=(bif(decide (s4.1<8))then(ak_ o1.l s4.1).bind λy11=>(room 1 s4.2 [(IntKind.u8.wrap (y11.fdiv (2^24))),(IntKind.u8.wrap (y11.fdiv (2^16))),(IntKind.u8.wrap (y11.fdiv (2^8))),(IntKind.u8.wrap y11)]).bind λy12=>some (.next ((w64 (s4.1+1)),y12))else some (.done s4.2))
def lc_(x0:Str):Option Str:=(iY_ x0).bind λy1=>(aj_ jW_ BIG (y1,(Xa.mk 1779033703 3144134277 1013904242 2773480762 1359893119 2600822924 528734635 1541459225))).bind λo1=>(h9_ 1 (0:Int) 32).bind λ_=>(aj_ (no_ o1) BIG (0,[])).bind λo2=>some ((bytesS o2))
def it_(x0:Int)(x1:Str):Option Str:=(cat (bytesS [(IntKind.u8.wrap x0)]) x1).bind λy1=>(lc_ y1).bind λy2=>some (y2)
def gu_(x0:Int)(x1:Str):Option Xi:=(it_ x0 x1).bind λy1=>some ((Xi.mk y1 x0 x1))
def jw_(x0:Xx)(x1:Str)(x2:Int):Option (Str×Int):=(fr_ x0 x1).bind λy1=>(bif(decide (y1<0))then some (([],35))else(ak_ x0.Xh y1).bind λy2=>(bif(y2.Ya != x2)then some (([],1))else(ak_ x0.Xh y1).bind λy3=>(ak_ x0.Xh y1).bind λy4=>(gu_ x2 y4.Xl).bind λy5=>(bif(!(decide (y3=y5)))then some (([],34))else(ak_ x0.Xh y1).bind λy6=>some ((y6.Xl,0)))))
def bN_(x0:Xj)(x1:Str)(x2:Int):Option (Str×Int×Xj):=(jw_ x0.Zx x1 x2).bind λy1=>Option.bind ( (bif(y1.2==1)then some 2 else some y1.2) ) λ(o1:Int)=>(bif(o1 != 0)then some (([],o1,x0))else(room 16 x0.Zd [x1]).bind λy2=>some ((y1.1,0,(Xj.mk x0.Zx y2))))
def ez_(x0:Str)(x1:Int)(s2:Int×Int):Option (Step (Int×Int) Int):=(bif(decide (s2.2>=0))then(bB_ x0 (w64 (x1+s2.2))).bind λy2=>some (.next ((orI .u64 (IntKind.u64.wrap (s2.1*2^8)) (IntKind.u64.wrap y2)),(w64 (s2.2-1))))else some (.done s2.1))
def hK_(x0:Str)(x1:Int)(x2:Int):Option (Int×Int×Int):=(bif((((decide (x2<1))||(decide (x2>8)))||(decide (x1<0)))||(decide (x1>(x0.length:Int))))then some ((0,0,1))else(bif(decide ((w64 ((x0.length:Int)-x1))<x2))then some ((0,0,3))else(aj_ (ez_ x0 x1) BIG (0,(w64 (x2-1)))).bind λo1=>(bif(decide (o1>9223372036854775807))then some ((0,0,5))else some (((w64 (o1)),(w64 (x1+x2)),0)))))
def av_(x0:Xs)(x1:Int):Option (Int×Xs):=(hK_ x0.s_ x0.at_ x1).bind λy1=>(bif(x0.Zz||(y1.2.2 != 0))then some ((0,(Xs.mk x0.s_ x0.at_ true)))else some ((y1.1,(Xs.mk x0.s_ y1.2.1 x0.Zz))))
def fC_(x0:Str)(x1:Int):Option (Str×Int×Int):=(hK_ x0 x1 2).bind λy1=>(bif(y1.2.2 != 0)then some (([],0,y1.2.2))else(bif(decide ((w64 ((x0.length:Int)-y1.2.1))<y1.1))then some (([],0,3))else(bo_ x0 y1.2.1 (w64 (y1.2.1+y1.1))).bind λy2=>some ((y2,(w64 (y1.2.1+y1.1)),0))))
def bw_(x0:Xs):Option (Str×Xs):=(fC_ x0.s_ x0.at_).bind λy1=>(bif(x0.Zz||(y1.2.2 != 0))then some (([],(Xs.mk x0.s_ x0.at_ true)))else some ((y1.1,(Xs.mk x0.s_ y1.2.1 x0.Zz))))
def cN_(x0:Xs):Option (Str×Xs):=(bif(x0.Zz||(decide ((w64 ((x0.s_.length:Int)-x0.at_))<32)))then some (([],(Xs.mk x0.s_ x0.at_ true)))else(bo_ x0.s_ (w64 ((w64 (x0.at_+32))-32)) (w64 (x0.at_+32))).bind λy1=>some ((y1,(Xs.mk x0.s_ (w64 (x0.at_+32)) x0.Zz))))
def b0_(x0:Xs):Option (Xn×Xs):=(av_ x0 4).bind λy1=>(av_ y1.2 4).bind λy2=>(av_ y2.2 4).bind λy3=>(av_ y3.2 4).bind λy4=>(av_ y4.2 8).bind λy5=>(av_ y5.2 8).bind λy6=>(bw_ y6.2).bind λy7=>(bw_ y7.2).bind λy8=>(bw_ y8.2).bind λy9=>(bw_ y9.2).bind λy10=>(av_ y10.2 4).bind λy11=>(av_ y11.2 1).bind λy12=>(cN_ y12.2).bind λy13=>some (((Xn.mk (Xq.mk y1.1 y2.1 y3.1 y7.1 y4.1 y8.1 y9.1 y10.1 y5.1 y6.1 []) (Xr.mk y13.1 y11.1 y12.1)),y13.2))
def cl_(x0:Xq):Option Bool:=some ((decide (x0.Xp>=2147483648)))
def ec_(x1:Int)(s2:Int×Int):Option (Step (Int×Int) Int):=(bif(decide (s2.2<x1))then some (.next ((IntKind.i64.wrap ((w64 ((w64 (s2.1+32))-1)).tdiv 32)),(w64 (s2.2+1))))else some (.done s2.1))
def db_(x0:Int)(x1:Int):Option Int:=(aj_ (ec_ x1) BIG ((bV_ 1 (IntKind.i64.wrap ((w64 ((w64 (x0+1024))-1)).tdiv 1024))),0)).bind λo1=>some (o1)
def fb_(x0:Int)(s2:Int):Option (Step Int Int):=(db_ x0 s2).bind λy2=>(bif(decide (y2>1))then some (.next (w64 (s2+1)))else some (.done s2))
def dK_(x0:Int):Option Int:=(aj_ (fb_ x0) BIG 0).bind λo1=>some (o1)
def fD_(x0:Xr):Option Bool:=Option.bind (bif((((x0.Xc.length:Int)==32)&&(decide (x0.Yj>=0)))&&(decide (x0.Yj<=1048576)))then(dK_ x0.Yj).bind λy1=>some (x0.Yu==y1)else some false) λ(y2:Bool)=>some (y2)
def bF_(x0:Yt)(x1:Int)(x2:Int):Option Int:=(bif(x1==0)then some ((bH_ 1024 (w64 (x0.Zt-(w64 (x2*1024))))))else(db_ x0.Zt (w64 (x1-1))).bind λy1=>some ((w64 (32*(bH_ 32 (w64 (y1-(w64 (x2*32)))))))))
def nQ_(x0:Int)(s2:Int×Int):Option (Step (Int×Int) Int):=(bif(decide (s2.2<x0))then some (.next ((w64 (s2.1*32)),(w64 (s2.2+1))))else some (.done s2.1))
def bM_(x0:Int):Option Int:=(aj_ (nQ_ x0) BIG (1024,0)).bind λo1=>some (o1)
def cD_(y1:Str×Int×Xj)(x3:Int)(x4:Int)(x1:Yt)(rec0:Xj->Yt->Str->Int->Int->Option (Str×Int×Xj))(s2:Str×Int×Int×(List Xi)×(List Str)):Option (Step (Str×Int×Int×(List Xi)×(List Str)) (Out (Str×Int×(List Xi)×(List Str)) (Str×Int×Xj))):=(bif(decide (s2.2.1<(IntKind.i64.wrap ((y1.1.length:Int).tdiv 32))))then Option.bind ( (bM_ (w64 (x3-1))).bind λy11=>Option.bind (bif(decide ((w64 ((w64 ((w64 (x4*32))+s2.2.1))*y11))>=x1.hi_))then some true else(bM_ (w64 (x3-1))).bind λy12=>some (decide ((w64 ((w64 ((w64 ((w64 (x4*32))+s2.2.1))*y11))+y12))<=x1.lo_)) ) λ(y13:Bool)=>(bif y13 then some (.fall (s2.1,s2.2.2.1,s2.2.2.2.1,s2.2.2.2.2))else(bo_ y1.1 (w64 (s2.2.1*32)) (w64 ((w64 (s2.2.1+1))*32))).bind λy14=>(rec0 (Xj.mk (Xx.mk s2.2.2.1 s2.2.2.2.1) s2.2.2.2.2) x1 y14 (w64 (x3-1)) (w64 ((w64 (x4*32))+s2.2.1))).bind λy15=>(bif(y15.2.1 != 0)then some (.ret (([],y15.2.1,y15.2.2)))else(cat s2.1 y15.1).bind λy16=>some (.fall (y16,y15.2.2.Zx.Yr,y15.2.2.Zx.Xh,y15.2.2.Zd)))) ) λ(wo3:Out (Str×Int×(List Xi)×(List Str)) (Str×Int×Xj))=>match wo3 with | .ret r3=>some (.done (.ret r3)) | .fall o3=>some (.next (o3.1,(w64 (s2.2.1+1)),o3.2.1,o3.2.2.1,o3.2.2.2))else some (.done (.fall (s2.1,s2.2.2.1,s2.2.2.2.1,s2.2.2.2.2))))
def bG_(rec0:Xj->Yt->Str->Int->Int->Option (Str×Int×Xj))(x0:Xj)(x1:Yt)(x2:Str)(x3:Int)(x4:Int):Option (Str×Int×Xj):=Option.bind ( (bif(x3==0)then some x1.Wv else some 2) ) λ(o1:Int)=>(bN_ x0 x2 o1).bind λy1=>(bif(y1.2.1 != 0)then some (([],y1.2.1,y1.2.2))else(bF_ x1 x3 x4).bind λy2=>(bif((y1.1.length:Int) != y2)then some (([],2,y1.2.2))else(bM_ x3).bind λy3=>(bif(x3==0)then(bo_ y1.1 (bV_ 0 (w64 (x1.lo_-(w64 (x4*y3))))) (bH_ (y1.1.length:Int) (w64 (x1.hi_-(w64 (x4*y3)))))).bind λy4=>some ((y4,0,y1.2.2))else Option.bind (aj_ (cD_ y1 x3 x4 x1 rec0) BIG ([],0,y1.2.2.Zx.Yr,y1.2.2.Zx.Xh,y1.2.2.Zd)) λ(wo4:Out (Str×Int×(List Xi)×(List Str)) (Str×Int×Xj))=>match wo4 with | .ret r4=>some r4 | .fall o4=>some ((o4.1,0,(Xj.mk (Xx.mk o4.2.1 o4.2.2.1) o4.2.2.2))))))
def bn_:Nat->Xj->Yt->Str->Int->Int->Option (Str×Int×Xj) | 0=>λ_ _ _ _ _=>none|n+1=>bG_ (bn_ n)
def cn_(x0:Xj)(x1:Xr)(x2:Int):Option (Str×Int×Xj):=(fD_ x1).bind λy1=>(bif(!y1)then some (([],2,x0))else(bif(x1.Yj==0)then(bN_ x0 x1.Xc x2).bind λy2=>Option.bind ( (bif((y2.2.1==0)&&(!(y2.1==[])))then some 2 else some y2.2.1) ) λ(o1:Int)=>some (([],o1,y2.2.2))else(bn_ BIG x0 (Yt.mk x2 x1.Yj 0 x1.Yj) x1.Xc x1.Yu 0).bind λy3=>some ((y3.1,y3.2.1,y3.2.2))))
def b1_(x0:Str)(s2:Xs×(List Xn)):Option (Step (Xs×(List Xn)) (Xs×(List Xn))):=(bif((decide (s2.1.at_<(x0.length:Int)))&&(!s2.1.Zz))then(b0_ s2.1).bind λy3=>(room 160 s2.2 [y3.1]).bind λy4=>some (.next (y3.2,y4))else some (.done (s2.1,s2.2)))
def ek_(x0:Str):Option ((List Xn)×Bool):=Option.bind (aj_ (b1_ x0) BIG ((Xs.mk x0 0 false),[])) λ(o1:Xs×(List Xn))=>some ((o1.2,(!o1.1.Zz)))
def aR_(x0:List Xn)(x1:Xn->Option Bool)(s2:Int):Option (Step Int (Out Unit Int)):=(bif(decide (s2<(x0.length:Int)))then(ak_ x0 s2).bind λy3=>(x1 y3).bind λy4=>(bif y4 then some (.done (.ret (s2)))else some (.next (w64 (s2+1))))else some (.done (.fall ())))
def br_(x0:List Xn)(x1:Xn->Option Bool):Option Int:=(aj_ (aR_ x0 x1) BIG 0).bind λwo1=>match wo1 with | .ret r1=>some r1 | .fall _=>some ((-1))
def aE_(x0:List Xn)(x1:Xn->Option Bool):Option Bool:=(br_ x0 x1).bind λy1=>some ((decide (y1>=0)))
def bK_(x0:Xn)(x1:Xn):Option Bool:=some ((x0.Yh.Xw != x1.Yh.Id_))
def bk_(y6:(List Xn)×Bool)(rec0:Xb->Xj->Xn->Option (Int×Xb×Xj))(s2:Int×Int×Int×(List Xi)×(List Str)×(List Xq)×(List Xn)):Option (Step (Int×Int×Int×(List Xi)×(List Str)×(List Xq)×(List Xn)) (Out (Int×Int×(List Xi)×(List Str)×(List Xq)) (Int×Xb×Xj))):=(bif(decide (s2.1<(y6.1.length:Int)))then(ak_ s2.2.2.2.2.2.2 s2.1).bind λy11=>(rec0 (Xb.mk s2.2.2.2.2.2.1 s2.2.1) (Xj.mk (Xx.mk s2.2.2.1 s2.2.2.2.1) s2.2.2.2.2.1) y11).bind λy12=>(bif(y12.1 != 0)then some (.done (.ret ((y12.1,y12.2.1,y12.2.2))))else some (.next ((w64 (s2.1+1)),y12.2.1.Zh,y12.2.2.Zx.Yr,y12.2.2.Zx.Xh,y12.2.2.Zd,y12.2.1.Zg,s2.2.2.2.2.2.2)))else some (.done (.fall (s2.2.1,s2.2.2.1,s2.2.2.2.1,s2.2.2.2.2.1,s2.2.2.2.2.2.1))))
def aU_(rec0:Xb->Xj->Xn->Option (Int×Xb×Xj))(x0:Xb)(h0:Xj)(x1:Xn):Option (Int×Xb×Xj):=(bif(decide ((x0.Zg.length:Int)>=x0.Zh))then some ((2,x0,h0))else Option.bind ( (cl_ x1.Yh).bind λy1=>(bif y1 then some 3 else some 1) ) λ(o1:Int)=>(cn_ h0 x1.Zn o1).bind λy2=>(bif(y2.2.1 != 0)then some ((y2.2.1,x0,y2.2.2))else(cl_ x1.Yh).bind λy3=>(bif(!y3)then(room 128 x0.Zg [(Xq.mk x1.Yh.Id_ x1.Yh.Xw x1.Yh.Yz x1.Yh.Xv x1.Yh.Xp x1.Yh.Yf x1.Yh.Ym x1.Yh.Yy x1.Yh.Xo x1.Yh.Yx y2.1)]).bind λy4=>some ((0,(Xb.mk y4 x0.Zh),y2.2.2))else(room 128 x0.Zg [x1.Yh]).bind λy5=>(ek_ y2.1).bind λy6=>Option.bind (bif(!y6.2)then some true else(aE_ y6.1 (λ(u1:Xn)=>Option.bind (bK_ u1 x1) λ(v1:Bool)=>some v1)).bind λy7=>some y7 ) λ(y8:Bool)=>(bif y8 then some ((2,(Xb.mk y5 x0.Zh),y2.2.2))else(aj_ (bk_ y6 rec0) BIG (0,x0.Zh,y2.2.2.Zx.Yr,y2.2.2.Zx.Xh,y2.2.2.Zd,y5,y6.1)).bind λwo2=>match wo2 with | .ret r2=>some r2 | .fall o2=>some ((0,(Xb.mk o2.2.2.2.2 o2.1),(Xj.mk (Xx.mk o2.2.1 o2.2.2.1) o2.2.2.2.1)))))))
def aL_:Nat->Xb->Xj->Xn->Option (Int×Xb×Xj) | 0=>λ_ _ _=>none|n+1=>aU_ (aL_ n)
def gv_(x0:Int):Option Bool:=(bif(decide (x0<0))then some (false)else Option.bind ( (bif((w64 (x0-(x0.tmod 512)))==0)then some ((w64 (x0-(x0.tmod 512)))==0)else(bif((w64 (x0-(x0.tmod 512)))==2147483648)then some ((w64 (x0-(x0.tmod 512)))==2147483648)else(bif((w64 (x0-(x0.tmod 512)))==1073741824)then some ((w64 (x0-(x0.tmod 512)))==1073741824)else(bif((w64 (x0-(x0.tmod 512)))==536870912)then some ((w64 (x0-(x0.tmod 512)))==536870912)else some ((w64 (x0-(x0.tmod 512)))==1610612736))))) ) λ(o1:Bool)=>(bif o1 then some (true)else some (false)))
def gw_(x0:Xq):Option Bool:=(gv_ x0.Xp).bind λy1=>Option.bind (bif(((!y1)||(decide (x0.Yz<0)))||(decide (x0.Yz>2147483647)))then some true else(eU_ x0.Xo).bind λy2=>some (x0.Xo != y2) ) λ(y3:Bool)=>Option.bind (bif y3 then some true else(eU_ x0.Yx).bind λy4=>some (x0.Yx != y4) ) λ(y5:Bool)=>(bif y5 then some (false)else(bif((decide ((bV_ (bV_ (x0.Yf.length:Int) (x0.Ym.length:Int)) (x0.Yy.length:Int))>64))||(decide ((x0.Xl.length:Int)>65536)))then some (false)else(bq_ x0.Xp).bind λy6=>some (((!y6)||(x0.Xl==[])))))
def fE_(x0:Str)(s2:Int):Option (Step Int (Out Unit Bool)):=(bif(decide (s2<(x0.length:Int)))then(bB_ x0 s2).bind λy6=>Option.bind (bif(decide (y6<33))then some true else(bB_ x0 s2).bind λy7=>some (decide (y7>126)) ) λ(y8:Bool)=>Option.bind (bif y8 then some true else(bB_ x0 s2).bind λy9=>some (y9==47) ) λ(y10:Bool)=>(bif y10 then some (.done (.ret (false)))else some (.next (w64 (s2+1))))else some (.done (.fall ())))
def dq_(x0:Str):Option Bool:=(bif((((x0==[])||(x0==[46]))||(x0==[46,46]))||(decide ((x0.length:Int)>64)))then some (false)else(aj_ (fE_ x0) BIG 0).bind λwo1=>match wo1 with | .ret r1=>some r1 | .fall _=>some (true))
def gx_(x0:Xy)(s2:Int×(List Int)×(List Int)×(List Xk)×(List Int)):Option (Step (Int×(List Int)×(List Int)×(List Xk)×(List Int)) (Out Unit Bool)):=(bif(decide (s2.1<(x0.Xz.length:Int)))then Option.bind ( (ak_ x0.Xz s2.1).bind λy12=>(gw_ y12).bind λy13=>Option.bind (bif((!y13)||(decide (y12.Id_>=x0.Yk)))then some true else Option.bind (bif(decide (s2.1>0))then(ak_ x0.Xz (w64 (s2.1-1))).bind λy14=>some (decide (y12.Id_<=y14.Id_))else some false) λ(y15:Bool)=>some y15 ) λ(y16:Bool)=>(bif y16 then some (.ret (false))else Option.bind ( (bif(s2.1==0)then Option.bind (bif(((y12.Id_ != 1)||(y12.Xw != 1))||(!(y12.Xv==[47])))then some true else(bq_ y12.Xp).bind λy17=>some (!y17) ) λ(y18:Bool)=>(bif y18 then some (.ret (false))else some (.fall ()))else(dq_ y12.Xv).bind λy19=>Option.bind (bif(!y19)then some true else some ((au_ eqI s2.2.1 s2.2.2.1 y12.Xw 0)==0)) λ(y20:Bool)=>Option.bind (bif y20 then some true else some (decide ((au_ (λ(a b:Xk)=>decide (a=b)) s2.2.2.2.1 s2.2.2.2.2 (Xk.mk y12.Xw y12.Xv) 0)>0))) λ(y21:Bool)=>(bif y21 then some (.ret (false))else some (.fall ()))) ) λ(wo4:Out Unit Bool)=>match wo4 with | .ret r4=>some (.ret r4) | .fall _=>Option.bind ( (bif(decide (s2.1>0))then(both ( some ((aD_ (λ(a b:Xk)=>decide (a=b)) (aD_ (λ(a b:Xk)=>decide (a=b)) s2.2.2.2.1 (Xk.mk y12.Xw y12.Xv)) (Xk.mk y12.Xw y12.Xv)),(aN_ (λ(a b:Xk)=>decide (a=b)) (aD_ (λ(a b:Xk)=>decide (a=b)) s2.2.2.2.1 (Xk.mk y12.Xw y12.Xv)) (aN_ (λ(a b:Xk)=>decide (a=b)) s2.2.2.2.1 s2.2.2.2.2 (Xk.mk y12.Xw y12.Xv) (au_ (λ(a b:Xk)=>decide (a=b)) s2.2.2.2.1 s2.2.2.2.2 (Xk.mk y12.Xw y12.Xv) 0)) (Xk.mk y12.Xw y12.Xv) (w64 ((au_ (λ(a b:Xk)=>decide (a=b)) s2.2.2.2.1 s2.2.2.2.2 (Xk.mk y12.Xw y12.Xv) 0)+1))))) ( some ((aD_ (λ(a b:Xk)=>decide (a=b)) (aD_ (λ(a b:Xk)=>decide (a=b)) s2.2.2.2.1 (Xk.mk y12.Xw y12.Xv)) (Xk.mk y12.Xw y12.Xv)),(aN_ (λ(a b:Xk)=>decide (a=b)) (aD_ (λ(a b:Xk)=>decide (a=b)) s2.2.2.2.1 (Xk.mk y12.Xw y12.Xv)) (aN_ (λ(a b:Xk)=>decide (a=b)) s2.2.2.2.1 s2.2.2.2.2 (Xk.mk y12.Xw y12.Xv) (au_ (λ(a b:Xk)=>decide (a=b)) s2.2.2.2.1 s2.2.2.2.2 (Xk.mk y12.Xw y12.Xv) 0)) (Xk.mk y12.Xw y12.Xv) (w64 ((au_ (λ(a b:Xk)=>decide (a=b)) (aD_ (λ(a b:Xk)=>decide (a=b)) s2.2.2.2.1 (Xk.mk y12.Xw y12.Xv)) (aN_ (λ(a b:Xk)=>decide (a=b)) s2.2.2.2.1 s2.2.2.2.2 (Xk.mk y12.Xw y12.Xv) (au_ (λ(a b:Xk)=>decide (a=b)) s2.2.2.2.1 s2.2.2.2.2 (Xk.mk y12.Xw y12.Xv) 0)) (Xk.mk y12.Xw y12.Xv) 0)+1))))))else some (s2.2.2.2.1,s2.2.2.2.2)) ) λ(o5:(List Xk)×(List Int))=>(bq_ y12.Xp).bind λy22=>(bif y22 then some (.fall ((aD_ eqI s2.2.1 y12.Id_),(aN_ eqI s2.2.1 s2.2.2.1 y12.Id_ (w64 ((au_ eqI s2.2.1 s2.2.2.1 y12.Id_ 0)+1))),o5.1,o5.2))else some (.fall (s2.2.1,s2.2.2.1,o5.1,o5.2)))) ) λ(wo6:Out ((List Int)×(List Int)×(List Xk)×(List Int)) Bool)=>match wo6 with | .ret r6=>some (.done (.ret r6)) | .fall o6=>some (.next ((w64 (s2.1+1)),o6.1,o6.2.1,o6.2.2.1,o6.2.2.2))else some (.done (.fall ())))
def mn_(x0:Xy):Option Bool:=(bif(((decide ((x0.Xz.length:Int)<1))||(decide ((x0.Xz.length:Int)>1024)))||(decide (x0.Yk>1048576)))then some (false)else(aj_ (gx_ x0) BIG (0,([]:List Int),([]:List Int),([]:List Xk),([]:List Int))).bind λwo7=>match wo7 with | .ret r7=>some r7 | .fall _=>some (true))
def bU_(x0:Xy)(s2:Int×(List Int)×(List Int)×(List Xk)×(List Int)):Option (Step (Int×(List Int)×(List Int)×(List Xk)×(List Int)) (Out Unit Bool)):=(bif(decide (s2.1<(x0.Xz.length:Int)))then Option.bind ( (ak_ x0.Xz s2.1).bind λy12=>(gw_ y12).bind λy13=>Option.bind (bif((!y13)||(decide (y12.Id_>=x0.Yk)))then some true else Option.bind (bif(decide (s2.1>0))then(ak_ x0.Xz (w64 (s2.1-1))).bind λy14=>some (decide (y12.Id_<=y14.Id_))else some false) λ(y15:Bool)=>some y15 ) λ(y16:Bool)=>(bif y16 then some (.ret (false))else Option.bind ( (bif(s2.1==0)then Option.bind (bif(((y12.Id_ != 1)||(y12.Xw != 1))||(!(y12.Xv==[47])))then some true else(bq_ y12.Xp).bind λy17=>some (!y17) ) λ(y18:Bool)=>(bif y18 then some (.ret (false))else some (.fall ()))else(dq_ y12.Xv).bind λy19=>Option.bind (bif(!y19)then some true else some ((au_ eqI s2.2.1 s2.2.2.1 y12.Xw 0)==0)) λ(y20:Bool)=>Option.bind (bif y20 then some true else some (decide ((au_ (λ(a b:Xk)=>decide (a=b)) s2.2.2.2.1 s2.2.2.2.2 (Xk.mk y12.Xw y12.Xv) 0)>0))) λ(y21:Bool)=>(bif y21 then some (.ret (false))else some (.fall ()))) ) λ(wo4:Out Unit Bool)=>match wo4 with | .ret r4=>some (.ret r4) | .fall _=>Option.bind ( (bif(decide (s2.1>0))then(bothC ( some ((aD_ (λ(a b:Xk)=>decide (a=b)) (aD_ (λ(a b:Xk)=>decide (a=b)) s2.2.2.2.1 (Xk.mk y12.Xw y12.Xv)) (Xk.mk y12.Xw y12.Xv)),(aN_ (λ(a b:Xk)=>decide (a=b)) (aD_ (λ(a b:Xk)=>decide (a=b)) s2.2.2.2.1 (Xk.mk y12.Xw y12.Xv)) (aN_ (λ(a b:Xk)=>decide (a=b)) s2.2.2.2.1 s2.2.2.2.2 (Xk.mk y12.Xw y12.Xv) (au_ (λ(a b:Xk)=>decide (a=b)) s2.2.2.2.1 s2.2.2.2.2 (Xk.mk y12.Xw y12.Xv) 0)) (Xk.mk y12.Xw y12.Xv) (w64 ((au_ (λ(a b:Xk)=>decide (a=b)) s2.2.2.2.1 s2.2.2.2.2 (Xk.mk y12.Xw y12.Xv) 0)+1))))) ( some ((aD_ (λ(a b:Xk)=>decide (a=b)) (aD_ (λ(a b:Xk)=>decide (a=b)) s2.2.2.2.1 (Xk.mk y12.Xw y12.Xv)) (Xk.mk y12.Xw y12.Xv)),(aN_ (λ(a b:Xk)=>decide (a=b)) (aD_ (λ(a b:Xk)=>decide (a=b)) s2.2.2.2.1 (Xk.mk y12.Xw y12.Xv)) (aN_ (λ(a b:Xk)=>decide (a=b)) s2.2.2.2.1 s2.2.2.2.2 (Xk.mk y12.Xw y12.Xv) (au_ (λ(a b:Xk)=>decide (a=b)) s2.2.2.2.1 s2.2.2.2.2 (Xk.mk y12.Xw y12.Xv) 0)) (Xk.mk y12.Xw y12.Xv) (w64 ((au_ (λ(a b:Xk)=>decide (a=b)) (aD_ (λ(a b:Xk)=>decide (a=b)) s2.2.2.2.1 (Xk.mk y12.Xw y12.Xv)) (aN_ (λ(a b:Xk)=>decide (a=b)) s2.2.2.2.1 s2.2.2.2.2 (Xk.mk y12.Xw y12.Xv) (au_ (λ(a b:Xk)=>decide (a=b)) s2.2.2.2.1 s2.2.2.2.2 (Xk.mk y12.Xw y12.Xv) 0)) (Xk.mk y12.Xw y12.Xv) 0)+1))))))else some (s2.2.2.2.1,s2.2.2.2.2)) ) λ(o5:(List Xk)×(List Int))=>(bq_ y12.Xp).bind λy22=>(bif y22 then some (.fall ((aD_ eqI s2.2.1 y12.Id_),(aN_ eqI s2.2.1 s2.2.2.1 y12.Id_ (w64 ((au_ eqI s2.2.1 s2.2.2.1 y12.Id_ 0)+1))),o5.1,o5.2))else some (.fall (s2.2.1,s2.2.2.1,o5.1,o5.2)))) ) λ(wo6:Out ((List Int)×(List Int)×(List Xk)×(List Int)) Bool)=>match wo6 with | .ret r6=>some (.done (.ret r6)) | .fall o6=>some (.next ((w64 (s2.1+1)),o6.1,o6.2.1,o6.2.2.1,o6.2.2.2))else some (.done (.fall ())))
def c2_(x0:Xy):Option Bool:=(bif(((decide ((x0.Xz.length:Int)<1))||(decide ((x0.Xz.length:Int)>1024)))||(decide (x0.Yk>1048576)))then some (false)else(aj_ (bU_ x0) BIG (0,([]:List Int),([]:List Int),([]:List Xk),([]:List Int))).bind λwo7=>match wo7 with | .ret r7=>some r7 | .fall _=>some (true))
theorem oT_:gx_=bU_:=by
 funext x0 s2
 simp only[gx_,bU_,e_both]<;>rfl
theorem e_tree_Right:mn_=c2_:=by
 funext x0
 simp only[mn_,c2_,oT_]<;>rfl
def de_(x0:Xj)(x1:Str):Option (Xy×Int×Xj):=(bN_ x0 x1 4).bind λy1=>(bif(y1.2.1 != 0)then some (((Xy.mk 0 []),y1.2.1,y1.2.2))else(av_ (Xs.mk y1.1 0 false) 4).bind λy2=>(av_ y2.2 4).bind λy3=>(b0_ y3.2).bind λy4=>(bif(((y4.2.Zz||(y4.2.at_ != (y1.1.length:Int)))||(decide (y3.1<1)))||(decide (y3.1>1024)))then some (((Xy.mk 0 []),2,y1.2.2))else Option.bind (aL_ BIG (Xb.mk [] y3.1) y1.2.2 y4.1) λ(y5:Int×Xb×Xj)=>(bif(y5.1 != 0)then some (((Xy.mk 0 []),y5.1,y5.2.2))else(fl_ (λ(x:Xq)=>x.Id_) y5.2.1.Zg).bind λy6=>Option.bind (bif((y6.length:Int) != y3.1)then some true else(c2_ (Xy.mk y2.1 y6)).bind λy7=>some (!y7) ) λ(y8:Bool)=>(bif y8 then some (((Xy.mk 0 []),2,y5.2.2))else some (((Xy.mk y2.1 y6),0,y5.2.2))))))
def cO_(x0:Xx)(x1:Str):Option (Xy×Int):=Option.bind (de_ (Xj.mk x0 []) x1) λ(y1:Xy×Int×Xj)=>some ((y1.1,y1.2.1))
def hZ_(x0:Xg)(x1:Int):Option (Yl×Bool):=(bif((x1==1)||(x1==2))then some (((Yl.mk (Xm.mk [] [] (Xy.mk 0 []) []) 0 x1),true))else(bif((decide (x1<1048576))||(decide ((IntKind.i64.wrap (x1.tdiv 1048576))>(w64 ((x0.Xt.length:Int)+1)))))then some (((Yl.mk (Xm.mk [] [] (Xy.mk 0 []) []) 0 0),false))else Option.bind ( (bif(decide ((IntKind.i64.wrap (x1.tdiv 1048576))>1))then(ak_ x0.Xt (w64 ((IntKind.i64.wrap (x1.tdiv 1048576))-2))).bind λy1=>(cO_ x0.Yd y1.Xc).bind λy2=>(bif(y2.2 != 0)then some (.ret (((Yl.mk (Xm.mk [] [] (Xy.mk 0 []) []) 0 0),false)))else some (.fall (x0.Xd.Yn,x0.Xd.Yp,y2.1.Yk,y2.1.Xz,[],(IntKind.i64.wrap (x1.tdiv 1048576)),(x1.tmod 1048576))))else some (.fall (x0.Xd.Yn,x0.Xd.Yp,x0.Xd.Xe.Yk,x0.Xd.Xe.Xz,x0.Xd.Xu,(IntKind.i64.wrap (x1.tdiv 1048576)),(x1.tmod 1048576)))) ) λ(wo1:Out ((List Xf)×(List Yq)×Int×(List Xq)×(List Int)×Int×Int) (Yl×Bool))=>match wo1 with | .ret r1=>some r1 | .fall o1=>(ck_ (Xy.mk o1.2.2.1 o1.2.2.2.1) (x1.tmod 1048576)).bind λy3=>some (((Yl.mk (Xm.mk o1.1 o1.2.1 (Xy.mk o1.2.2.1 o1.2.2.2.1) o1.2.2.2.2.1) o1.2.2.2.2.2.1 o1.2.2.2.2.2.2),y3.2))))
def dL_(x0:Xg)(x1:Str)(x2:Int):Option (Yl×Int):=(kk_ x0 x1).bind λy1=>(bif(!y1)then some (((Yl.mk (Xm.mk [] [] (Xy.mk 0 []) []) 0 0),25))else(hZ_ x0 x2).bind λy2=>(bif(!y2.2)then some (((Yl.mk (Xm.mk [] [] (Xy.mk 0 []) []) 0 0),8))else some ((y2.1,0))))
def gc_(x0:List Xi):Option (List Xi):=(nilB x0 λ(n1:Bool)=>(bif n1 then some ([])else(room 40 ([]:List Xi) x0).bind λy1=>some (y1)))
def bl_(x0:List Xi):Option (List Xi):=room 40 ([]:List Xi) x0
theorem gd_:gc_=bl_:=funext λ_=>es_
def gI_(x0:List Yi):Option (List Yi):=(nilB x0 λ(n1:Bool)=>(bif n1 then some ([])else(room 24 ([]:List Yi) x0).bind λy1=>some (y1)))
def cF_(x0:List Yi):Option (List Yi):=room 24 ([]:List Yi) x0
theorem gJ_:gI_=cF_:=funext λ_=>es_
def ax_(x0:Xg):Option Xg:=(cg_ x0.Xd).bind λy1=>(bl_ x0.Yd.Xh).bind λy2=>(cF_ x0.Xt).bind λy3=>some ((Xg.mk y1 (Xx.mk x0.Yd.Yr y2) y3))
def nR_(y1:(List Xf))(s2:Int×(List Xf)):Option (Step (Int×(List Xf)) (List Xf)):=(bif(decide (s2.1<(y1.length:Int)))then(ak_ s2.2 s2.1).bind λy5=>(aX_ y5.Yw).bind λy6=>(ak_ s2.2 s2.1).bind λy7=>some (.next ((w64 (s2.1+1)),(s2.2.set s2.1.toNat (Xf.mk y7.Xv y7.Yc y6))))else some (.done s2.2))
def fF_(x0:Xm):Option Xm:=(bb_ x0.Yn).bind λy1=>(aj_ (nR_ y1) BIG (0,y1)).bind λo1=>(bs_ x0.Xe.Xz).bind λy8=>(aW_ x0.Yp).bind λy9=>(bP_ x0.Xu).bind λy10=>some ((Xm.mk o1 y9 (Xy.mk x0.Xe.Yk y8) y10))
def h7_(x0:Int):Option Bool:=(bif(decide (x0<0))then some (false)else some ((((gO_ .i64 x0 511)==2147483648)||((gO_ .i64 (gO_ .i64 x0 511) 1610612736)==0))))
def iZ_(x0:Int)(x1:Int):Option Bool:=Option.bind (bif(decide (x0>=0))then(quoI .i64 x0 x1).bind λy1=>some ((y1.tmod 2)==1)else some false) λ(y2:Bool)=>some (y2)
def jx_(x0:Int):Option (Int×Int):=Option.bind ( (iZ_ x0 16).bind λy1=>(bif y1 then some (w64 (x0-16))else some x0) ) λ(o1:Int)=>Option.bind ( (iZ_ x0 64).bind λy2=>(bif y2 then some (w64 (o1-64))else some o1) ) λ(o2:Int)=>(bif((decide (o2<0))||(decide (o2>3)))then some ((0,12))else(ak_ [4,2,6,1] o2).bind λy3=>Option.bind ( (iZ_ x0 16).bind λy4=>(bif y4 then some (orI .i64 y3 2)else some y3) ) λ(o3:Int)=>some ((o3,0)))
def q8_(x0:List Yq)(x1:Str)(s2:Int):Option (Step Int (Out Unit (Yq×Bool))):=(bif(decide (s2<(x0.length:Int)))then(ak_ x0 s2).bind λy2=>(bif(y2.Ye==x1)then some (.done (.ret ((y2,true))))else some (.next (w64 (s2+1))))else some (.done (.fall ())))
def oU_(x0:List Yq)(x1:Str):Option (Yq×Bool):=(aj_ (q8_ x0 x1) BIG 0).bind λwo1=>match wo1 with | .ret r1=>some r1 | .fall _=>some (((Yq.mk [] 0 0),false))
def q9_(x0:Xy)(x1:Str)(s2:Int×Int×Int):Option (Step (Int×Int×Int) (Int×Int)):=(bif(decide (s2.2.2<(x0.Xz.length:Int)))then Option.bind ( (ak_ x0.Xz s2.2.2).bind λy2=>(bif(y2.Yf==x1)then some ((w64 (s2.1+1)),(w64 (s2.2.1+(y2.Xl.length:Int))))else some (s2.1,s2.2.1)) ) λ(o2:Int×Int)=>some (.next (o2.1,o2.2,(w64 (s2.2.2+1))))else some (.done (s2.1,s2.2.1)))
def oV_(x0:Xy)(x1:Str):Option (Int×Int):=(aj_ (q9_ x0 x1) BIG (0,0,0)).bind λo3=>some ((o3.1,o3.2))
def ld_(x0:List Yq)(x1:Xy)(x2:Str)(x3:Int)(x4:Int):Option Bool:=(oU_ x0 x2).bind λy1=>(bif(!y1.2)then some (true)else(oV_ x1 x2).bind λy2=>some ((((decide (x3<=0))||(decide (x3<=(w64 (y1.1.Xd-y2.1)))))&&((decide (x4<=0))||(decide (x4<=(w64 (y1.1.Ys-y2.2))))))))
def lx_(x0:Xm)(x1:Str)(x2:Xq)(x3:Str)(x4:Int)(x5:Int):Option Int:=(dq_ x3).bind λy1=>(bif(!y1)then some (6)else(h7_ x4).bind λy2=>(bif(!y2)then some (1)else(jx_ x5).bind λy3=>(bif(y3.2 != 0)then some (y3.2)else(aV_ x4 2147483648).bind λy4=>(bif(y4&&(x5 != 0))then some (12)else(fq_ x0 x1 x2 2).bind λy5=>(bif(!y5)then some (11)else(mm_ x0.Xe x2.Id_ x3).bind λy6=>(bif(y6.2==0)then some (7)else(ld_ x0.Yp x0.Xe x1 1 0).bind λy7=>(bif(!y7)then some (21)else some (0))))))))
def mo_(x0:Int)(x1:Int):Option Int:=(bif((decide (x0<0))||(decide (x1<0)))then some (0)else Option.bind ( (iZ_ x1 2147483648).bind λy1=>(bif y1 then some 511 else some 438) ) λ(o1:Int)=>some ((gO_ .i64 x1 (gO_ .i64 o1 x0))))
def bg_(x0:Xy):Option Xy:=Option.bind (h9_ 128 ((Xq.mk 0 0 0 [] 0 [] [] [] 0 0 []):Xq) (x0.Xz.length:Int)) λ(y1:List Xq)=>some ((Xy.mk x0.Yk (copyL y1 x0.Xz)))
def hw_(x0:Xy)(x1:Int)(x2:Str)(x3:Int):Option Xy:=(ak_ x0.Xz x1).bind λy1=>Option.bind ( (bif(decide (((Xq.mk y1.Id_ y1.Xw (w64 (y1.Yz+1)) y1.Xv y1.Xp y1.Yf y1.Ym y1.Yy y1.Xo y1.Yx y1.Xl).Yz)>2147483647))then some ((x0.Xz.set x1.toNat (Xq.mk y1.Id_ y1.Xw (w64 (y1.Yz+1)) y1.Xv y1.Xp y1.Yf y1.Ym y1.Yy y1.Xo y1.Yx y1.Xl)).set x1.toNat (Xq.mk ((Xq.mk y1.Id_ y1.Xw (w64 (y1.Yz+1)) y1.Xv y1.Xp y1.Yf y1.Ym y1.Yy y1.Xo y1.Yx y1.Xl).Id_) ((Xq.mk y1.Id_ y1.Xw (w64 (y1.Yz+1)) y1.Xv y1.Xp y1.Yf y1.Ym y1.Yy y1.Xo y1.Yx y1.Xl).Xw) 0 ((Xq.mk y1.Id_ y1.Xw (w64 (y1.Yz+1)) y1.Xv y1.Xp y1.Yf y1.Ym y1.Yy y1.Xo y1.Yx y1.Xl).Xv) ((Xq.mk y1.Id_ y1.Xw (w64 (y1.Yz+1)) y1.Xv y1.Xp y1.Yf y1.Ym y1.Yy y1.Xo y1.Yx y1.Xl).Xp) ((Xq.mk y1.Id_ y1.Xw (w64 (y1.Yz+1)) y1.Xv y1.Xp y1.Yf y1.Ym y1.Yy y1.Xo y1.Yx y1.Xl).Yf) ((Xq.mk y1.Id_ y1.Xw (w64 (y1.Yz+1)) y1.Xv y1.Xp y1.Yf y1.Ym y1.Yy y1.Xo y1.Yx y1.Xl).Ym) ((Xq.mk y1.Id_ y1.Xw (w64 (y1.Yz+1)) y1.Xv y1.Xp y1.Yf y1.Ym y1.Yy y1.Xo y1.Yx y1.Xl).Yy) ((Xq.mk y1.Id_ y1.Xw (w64 (y1.Yz+1)) y1.Xv y1.Xp y1.Yf y1.Ym y1.Yy y1.Xo y1.Yx y1.Xl).Xo) ((Xq.mk y1.Id_ y1.Xw (w64 (y1.Yz+1)) y1.Xv y1.Xp y1.Yf y1.Ym y1.Yy y1.Xo y1.Yx y1.Xl).Yx) ((Xq.mk y1.Id_ y1.Xw (w64 (y1.Yz+1)) y1.Xv y1.Xp y1.Yf y1.Ym y1.Yy y1.Xo y1.Yx y1.Xl).Xl)))else some (x0.Xz.set x1.toNat (Xq.mk y1.Id_ y1.Xw (w64 (y1.Yz+1)) y1.Xv y1.Xp y1.Yf y1.Ym y1.Yy y1.Xo y1.Yx y1.Xl))) ) λ(o1:(List Xq))=>(ak_ o1 x1).bind λy2=>(eU_ x3).bind λy3=>(eT_ x2).bind λy4=>some (Xy.mk x0.Yk ((o1.set x1.toNat (Xq.mk y2.Id_ y2.Xw y2.Yz y2.Xv y2.Xp y2.Yf y2.Ym y2.Yy y2.Xo y3 y2.Xl)).set x1.toNat (Xq.mk ((Xq.mk y2.Id_ y2.Xw y2.Yz y2.Xv y2.Xp y2.Yf y2.Ym y2.Yy y2.Xo y3 y2.Xl).Id_) ((Xq.mk y2.Id_ y2.Xw y2.Yz y2.Xv y2.Xp y2.Yf y2.Ym y2.Yy y2.Xo y3 y2.Xl).Xw) ((Xq.mk y2.Id_ y2.Xw y2.Yz y2.Xv y2.Xp y2.Yf y2.Ym y2.Yy y2.Xo y3 y2.Xl).Yz) ((Xq.mk y2.Id_ y2.Xw y2.Yz y2.Xv y2.Xp y2.Yf y2.Ym y2.Yy y2.Xo y3 y2.Xl).Xv) ((Xq.mk y2.Id_ y2.Xw y2.Yz y2.Xv y2.Xp y2.Yf y2.Ym y2.Yy y2.Xo y3 y2.Xl).Xp) ((Xq.mk y2.Id_ y2.Xw y2.Yz y2.Xv y2.Xp y2.Yf y2.Ym y2.Yy y2.Xo y3 y2.Xl).Yf) ((Xq.mk y2.Id_ y2.Xw y2.Yz y2.Xv y2.Xp y2.Yf y2.Ym y2.Yy y2.Xo y3 y2.Xl).Ym) y4 ((Xq.mk y2.Id_ y2.Xw y2.Yz y2.Xv y2.Xp y2.Yf y2.Ym y2.Yy y2.Xo y3 y2.Xl).Xo) ((Xq.mk y2.Id_ y2.Xw y2.Yz y2.Xv y2.Xp y2.Yf y2.Ym y2.Yy y2.Xo y3 y2.Xl).Yx) ((Xq.mk y2.Id_ y2.Xw y2.Yz y2.Xv y2.Xp y2.Yf y2.Ym y2.Yy y2.Xo y3 y2.Xl).Xl))))
def np_(x0:Xy)(x1:Int)(x2:Str)(x3:Int)(x4:Str)(x5:Str)(x6:Int):Option (Xy×Int×Int):=(hu_ x0 x1).bind λy1=>(bif(y1 != 0)then(bg_ x0).bind λy2=>some ((y2,0,y1))else(dq_ x2).bind λy3=>(bif(!y3)then(bg_ x0).bind λy4=>some ((y4,0,6))else(gv_ x3).bind λy5=>(bif(!y5)then(bg_ x0).bind λy6=>some ((y6,0,1))else(la_ x0 x1 x2).bind λy7=>(bif(decide (y7>=0))then(bg_ x0).bind λy8=>some ((y8,0,7))else(bif((decide ((x0.Xz.length:Int)>=1024))||(decide (x0.Yk>1048575)))then(bg_ x0).bind λy9=>some ((y9,0,22))else(bg_ x0).bind λy10=>(eV_ y10 x1).bind λy11=>(hw_ y10 y11 x4 x6).bind λy12=>(eU_ x6).bind λy13=>(eT_ x4).bind λy14=>(eT_ x5).bind λy15=>(eT_ x4).bind λy16=>Option.bind (room 128 y12.Xz [(Xq.mk x0.Yk x1 0 x2 x3 y14 y15 y16 y13 y13 [])]) λ(y17:List Xq)=>some (((Xy.mk (w64 (y10.Yk+1)) y17),x0.Yk,0)))))))
def cmp_isNaN_int(x0:Int):Option Bool:=some ((x0 != x0))
def cmp_Less_int(x0:Int)(x1:Int):Option Bool:=(cmp_isNaN_int x0).bind λy1=>Option.bind (bif y1 then(cmp_isNaN_int x1).bind λy2=>some (!y2)else some false) λ(y3:Bool)=>some ((y3||(decide (x0<x1))))
def fU_(x0:Int):Option Bool:=some ((x0 != x0))
def gK_(x0:List Int)(x1:Int)(s2:Int×Int):Option (Step (Int×Int) Int):=(bif(decide (s2.1<s2.2))then(ak_ x0 (w64 (((IntKind.u64.wrap (w64 (s2.1+s2.2))).fdiv (2^1))))).bind λy3=>(cmp_Less_int y3 x1).bind λy4=>(bif y4 then some (.next ((w64 ((w64 (((IntKind.u64.wrap (w64 (s2.1+s2.2))).fdiv (2^1))))+1)),s2.2))else some (.next (s2.1,(w64 (((IntKind.u64.wrap (w64 (s2.1+s2.2))).fdiv (2^1)))))))else some (.done s2.1))
def d2_(x0:List Int)(x1:Int):Option (Int×Bool):=(aj_ (gK_ x0 x1) BIG (0,(x0.length:Int))).bind λo1=>Option.bind (bif(decide (o1<(x0.length:Int)))then(ak_ x0 o1).bind λy5=>Option.bind (bif(y5==x1)then some true else(ak_ x0 o1).bind λy6=>(fU_ y6).bind λy7=>Option.bind (bif y7 then(fU_ x1).bind λy8=>some y8 else some false) λ(y9:Bool)=>some y9 ) λ(y10:Bool)=>some y10 else some false) λ(y11:Bool)=>some ((o1,y11))
def i0_(x0:Xm)(x1:Int):Option Xm:=Option.bind ( (d2_ x0.Xu x1).bind λy1=>(bif(!y1.2)then(bP_ x0.Xu).bind λy2=>((insN (α:=Int) 8) y2 y1.1 [x1]).bind λy3=>some (x0.Yn,x0.Yp,x0.Xe.Yk,x0.Xe.Xz,y3)else some (x0.Yn,x0.Yp,x0.Xe.Yk,x0.Xe.Xz,x0.Xu)) ) λ(o1:(List Xf)×(List Yq)×Int×(List Xq)×(List Int))=>some ((Xm.mk o1.1 o1.2.1 (Xy.mk o1.2.2.1 o1.2.2.2.1) o1.2.2.2.2))
def kl_(x0:Xm)(x1:Str)(x2:Int)(x3:Str)(x4:Int)(x5:Int)(x6:Int):Option (Xm×Int×Int):=(fF_ x0).bind λy1=>(fa_ x0 x1 x2).bind λy2=>Option.bind ( (bif(y2.2==0)then(lx_ x0 x1 y2.1 x3 x4 x5).bind λy3=>some y3 else some y2.2) ) λ(o1:Int)=>(bif(o1 != 0)then some ((y1,0,o1))else(mo_ y2.1.Xp x4).bind λy4=>(d1_ x6).bind λy5=>(np_ y1.Xe x2 x3 (orI .i64 (gO_ .i64 x4 511) (b4_ .i64 y4 511)) x1 y2.1.Ym y5).bind λy6=>(bif(y6.2.2 != 0)then some ((y1,0,y6.2.2))else Option.bind ( (aV_ (orI .i64 (gO_ .i64 x4 511) (b4_ .i64 y4 511)) 536870912).bind λy7=>(bif y7 then(i0_ (Xm.mk y1.Yn y1.Yp y6.1 y1.Xu) y6.2.1).bind λy8=>some (y8.Yn,y8.Yp,y8.Xe.Yk,y8.Xe.Xz,y8.Xu)else some (y1.Yn,y1.Yp,y6.1.Yk,y6.1.Xz,y1.Xu)) ) λ(o2:(List Xf)×(List Yq)×Int×(List Xq)×(List Int))=>some (((Xm.mk o2.1 o2.2.1 (Xy.mk o2.2.2.1 o2.2.2.2.1) o2.2.2.2.2),y6.2.1,0))))
def fG_(x0:Xg)(x1:Xm):Option Xg:=(ax_ x0).bind λy1=>some ((Xg.mk x1 y1.Yd y1.Xt))
def jy_(x0:Xg)(x1:Str)(x2:Int)(x3:Str)(x4:Int)(x5:Int)(x6:Int):Option (Xg×Int×Int):=(dL_ x0 x1 x2).bind λy1=>(bif(y1.2 != 0)then(ax_ x0).bind λy2=>some ((y2,0,y1.2))else(bif(y1.1.Zy != 1)then(ax_ x0).bind λy3=>some ((y3,0,33))else(kl_ x0.Xd x1 y1.1.Yh x3 x4 x5 x6).bind λy4=>(bif(y4.2.2 != 0)then(ax_ x0).bind λy5=>some ((y5,0,y4.2.2))else(fG_ x0 y4.1).bind λy6=>some ((y6,(w64 (1048576+y4.2.1)),0)))))
def eW_(x0:Yl):Option Bool:=(bif(x0.Zy==0)then some (true)else(ck_ x0.Zv.Xe x0.Yh).bind λy1=>some ((decide (y1.1.Xp>=2147483648))))
def ly_(x0:Xm)(x1:Xq)(x2:Int):Option Bool:=Option.bind (bif(decide (x2<=(x1.Xl.length:Int)))then some true else(ld_ x0.Yp x0.Xe x1.Yf 0 (w64 (x2-(x1.Xl.length:Int)))).bind λy1=>some y1 ) λ(y2:Bool)=>some (y2)
def jz_(x0:Xy)(x1:Int):Option (Int×Int):=(eV_ x0 x1).bind λy1=>(bif(decide (y1<0))then some ((0,8))else(ak_ x0.Xz y1).bind λy2=>(bq_ y2.Xp).bind λy3=>(bif y3 then some ((0,10))else some ((y1,0))))
def mp_(x0:Int):Option Bool:=some (((decide (x0>=0))&&(((IntKind.i64.wrap (x0.tdiv 1073741824)).tmod 2)==1)))
def nS_(x0:Str)(x1:Int):Option Str:=(bif(decide (x1<=(x0.length:Int)))then(bo_ x0 0 x1).bind λy1=>some (y1)else(strings_Repeat [0] (w64 (x1-(x0.length:Int)))).bind λy2=>(cat x0 y2).bind λy3=>some (y3))
def oW_(x0:Xy)(x1:Int)(x2:Int)(x3:Str)(x4:Str)(x5:Int):Option (Xy×Int×Int):=(jz_ x0 x1).bind λy1=>(bif(y1.2 != 0)then(bg_ x0).bind λy2=>some ((y2,0,y1.2))else(bif(decide (x2<0))then(bg_ x0).bind λy3=>some ((y3,0,1))else(bif(x3==[])then(bg_ x0).bind λy4=>some ((y4,0,0))else(ak_ x0.Xz y1.1).bind λy5=>Option.bind ( (ak_ x0.Xz y1.1).bind λy6=>(mp_ y6.Xp).bind λy7=>(bif y7 then some (y5.Xl.length:Int)else some x2) ) λ(o1:Int)=>(bif((decide (o1>65536))||(decide ((x3.length:Int)>(w64 (65536-o1)))))then(bg_ x0).bind λy8=>some ((y8,0,4))else(bg_ x0).bind λy9=>(nS_ y5.Xl o1).bind λy10=>(cat y10 x3).bind λy11=>(bo_ y5.Xl (bH_ (w64 (o1+(x3.length:Int))) (y5.Xl.length:Int)) (y5.Xl.length:Int)).bind λy12=>(cat y11 y12).bind λy13=>(ak_ y9.Xz y1.1).bind λy14=>(hw_ (Xy.mk y9.Yk (y9.Xz.set y1.1.toNat (Xq.mk y14.Id_ y14.Xw y14.Yz y14.Xv y14.Xp y14.Yf y14.Ym y14.Yy y14.Xo y14.Yx y13))) y1.1 x4 x5).bind λy15=>some (((Xy.mk y9.Yk y15.Xz),(x3.length:Int),0))))))
def lz_(x0:Xm)(x1:Str)(x2:Int)(x3:Int)(x4:Str)(x5:Int):Option (Xm×Int×Int):=(fF_ x0).bind λy1=>(gt_ x0 x1 x2).bind λy2=>(bif(y2.2 != 0)then some ((y1,0,y2.2))else(aV_ y2.1.Xp 2147483648).bind λy3=>(bif y3 then some ((y1,0,10))else(bif(decide (x3<0))then some ((y1,0,1))else(bif(x4==[])then some ((y1,0,0))else Option.bind ( (aV_ y2.1.Xp 1073741824).bind λy4=>(bif y4 then some (y2.1.Xl.length:Int)else some x3) ) λ(o1:Int)=>(bif((decide (o1>65536))||(decide ((x4.length:Int)>(w64 (65536-o1)))))then some ((y1,0,4))else(ly_ x0 y2.1 (w64 (o1+(x4.length:Int)))).bind λy5=>(bif(!y5)then some ((y1,0,21))else(d1_ x5).bind λy6=>(oW_ y1.Xe x2 o1 x4 x1 y6).bind λy7=>(bif(y7.2.2 != 0)then some ((y1,0,y7.2.2))else some (((Xm.mk y1.Yn y1.Yp y7.1 y1.Xu),y7.2.1,0)))))))))
def km_(x0:Xg)(x1:Str)(x2:Int)(x3:Int)(x4:Str)(x5:Int):Option (Xg×Int×Int):=(dL_ x0 x1 x2).bind λy1=>(bif(y1.2 != 0)then(ax_ x0).bind λy2=>some ((y2,0,y1.2))else(eW_ y1.1).bind λy3=>(bif y3 then(ax_ x0).bind λy4=>some ((y4,0,10))else(bif(decide (x3<0))then(ax_ x0).bind λy5=>some ((y5,0,1))else(bif(y1.1.Zy != 1)then(ax_ x0).bind λy6=>some ((y6,0,33))else(lz_ x0.Xd x1 y1.1.Yh x3 x4 x5).bind λy7=>(bif(y7.2.2 != 0)then(ax_ x0).bind λy8=>some ((y8,0,y7.2.2))else(fG_ x0 y7.1).bind λy9=>some ((y9,y7.2.1,0)))))))
def hx_(x0:Xx):Option Xx:=(bl_ x0.Xh).bind λy1=>some ((Xx.mk x0.Yr y1))
def nT_(x0:Xy)(x1:Int)(s2:Int×(List Int)):Option (Step (Int×(List Int)) (List Int)):=(bif(decide (s2.1<(x0.Xz.length:Int)))then Option.bind ( (ak_ x0.Xz s2.1).bind λy4=>(bif((y4.Xw==x1)&&(y4.Id_ != 1))then(room 8 s2.2 [y4.Id_]).bind λy5=>some y5 else some s2.2) ) λ(o2:(List Int))=>some (.next ((w64 (s2.1+1)),o2))else some (.done s2.2))
def lA_(x0:Xy)(x1:Int):Option (List Int):=(hu_ x0 x1).bind λy1=>(bif(y1 != 0)then some ([])else(aj_ (nT_ x0 x1) BIG (0,[])).bind λo3=>some (o3))
def octet_Put_L1(y4:List Int)(x0:Int)(s2:Int×(List Int)):Option (Step (Int×(List Int)) (List Int)):=(bif(decide (s2.1<(y4.length:Int)))then(shrI .i64 x0 (w64 (8*s2.1))).bind λy7=>(ak_ s2.2 s2.1).bind λ_=>some (.next ((w64 (s2.1+1)),(s2.2.set s2.1.toNat (IntKind.u8.wrap y7))))else some (.done s2.2))
def hL_(x0:Int)(x1:Int):Option (Str×Int):=(bif((decide (x1<1))||(decide (x1>8)))then some (([],1))else Option.bind (bif(decide (x0<0))then some true else Option.bind (bif(decide (x1<8))then(shrI .i64 x0 (w64 (8*x1))).bind λy1=>some (decide (y1>0))else some false) λ(y2:Bool)=>some y2 ) λ(y3:Bool)=>(bif y3 then some (([],5))else(h9_ 1 (0:Int) x1).bind λy4=>(aj_ (octet_Put_L1 y4 x0) BIG (0,y4)).bind λo1=>some (((bytesS o1),0))))
def cx_(x0:Int)(x1:Int)(x2:Str):Option Str:=(hL_ x0 x1).bind λy1=>(cat x2 y1.1).bind λy2=>some y2
def lB_(x0:Str):Option (Str×Int):=(bif(decide ((x0.length:Int)>65535))then some (([],4))else(hL_ (x0.length:Int) 2).bind λy1=>(cat y1.1 x0).bind λy2=>some ((y2,y1.2)))
def m8_(x0:Xn)(s2:Int×Str×(List Int)):Option (Step (Int×Str×(List Int)) Str):=(bif(decide (s2.1<([x0.Yh.Id_,x0.Yh.Xw,x0.Yh.Yz,x0.Yh.Xp].length:Int)))then(ak_ s2.2.2 s2.1).bind λy3=>(cx_ y3 4 s2.2.1).bind λy4=>some (.next ((w64 (s2.1+1)),y4,s2.2.2))else some (.done s2.2.1))
def m9_(x0:Xn)(s4:Int×Str×(List Str)):Option (Step (Int×Str×(List Str)) Str):=(bif(decide (s4.1<([x0.Yh.Xv,x0.Yh.Yf,x0.Yh.Ym,x0.Yh.Yy].length:Int)))then(ak_ s4.2.2 s4.1).bind λy10=>(lB_ y10).bind λy11=>(cat s4.2.1 y11.1).bind λy12=>some (.next ((w64 (s4.1+1)),y12,s4.2.2))else some (.done s4.2.1))
def g6_(x0:Xn):Option Str:=Option.bind (aj_ (m8_ x0) BIG (0,[],[x0.Yh.Id_,x0.Yh.Xw,x0.Yh.Yz,x0.Yh.Xp])) λ(o1:Str)=>(cx_ x0.Yh.Xo 8 o1).bind λy5=>(cx_ x0.Yh.Yx 8 y5).bind λy6=>(aj_ (m9_ x0) BIG (0,y6,[x0.Yh.Xv,x0.Yh.Yf,x0.Yh.Ym,x0.Yh.Yy])).bind λo2=>(cx_ x0.Zn.Yj 4 o2).bind λy13=>(cx_ x0.Zn.Yu 1 y13).bind λy14=>(cat y14 x0.Zn.Xc).bind λy15=>some (y15)
def na_(x1:Int)(s2:Str×(List Str)):Option (Step (Str×(List Str)) (Str×(List Str))):=(bif(decide ((s2.1.length:Int)>x1))then(bo_ s2.1 0 x1).bind λy4=>(room 16 s2.2 [y4]).bind λy5=>(bo_ s2.1 x1 (s2.1.length:Int)).bind λy6=>some (.next (y6,y5))else some (.done (s2.1,s2.2)))
def g7_(x0:Str)(x1:Int):Option (List Str):=Option.bind (aj_ (na_ x1) BIG (x0,[])) λ(o1:Str×(List Str))=>(room 16 o1.2 [o1.1]).bind λy7=>some (y7)
def nq_(x0:Xx):Option Xx:=(bl_ x0.Xh).bind λy1=>some ((Xx.mk x0.Yr y1))
def jX_(x0:Int):Option Bool:=some (((decide (x0>=1))&&(decide (x0<=4))))
def mq_(x0:Xx)(x1:Int)(x2:Str):Option (Xx×Str×Int):=(nq_ x0).bind λy1=>(jX_ x1).bind λy2=>(bif(!y2)then some ((y1,[],1))else(bif(decide ((x2.length:Int)>1024))then some ((y1,[],4))else(gu_ x1 x2).bind λy3=>(fr_ x0 y3.Xc).bind λy4=>(bif(decide (y4>=0))then(ak_ x0.Xh y4).bind λy5=>(bif(!(decide (y5=y3)))then some ((y1,[],34))else some ((y1,y3.Xc,0)))else(bif(decide ((x0.Xh.length:Int)>=x0.Yr))then some ((y1,[],22))else(room 40 y1.Xh [y3]).bind λy6=>some (((Xx.mk y1.Yr y6),y3.Xc,0))))))
def p1_(s4:Int×Xx×Xr×(List Str))(s6:Str×Int×Int×(List Xi)×Xr×(List Str)):Option (Step (Str×Int×Int×(List Xi)×Xr×(List Str)) (Out (Str×Xx×Xr×(List Str)) (Xx×Xr×Int))):=(bif(decide (s6.2.1<(s4.2.2.2.length:Int)))then(ak_ s6.2.2.2.2.2 s6.2.1).bind λy13=>(mq_ (Xx.mk s6.2.2.1 s6.2.2.2.1) s4.1 y13).bind λy14=>(bif(y14.2.2 != 0)then some (.done (.ret (((Xx.mk s6.2.2.1 s6.2.2.2.1),(Xr.mk [] 0 0),y14.2.2))))else(cat s6.1 y14.2.1).bind λy15=>some (.next (y15,(w64 (s6.2.1+1)),y14.1.Yr,y14.1.Xh,(Xr.mk y14.2.1 s6.2.2.2.2.1.Yj s6.2.2.2.2.1.Yu),s6.2.2.2.2.2)))else some (.done (.fall (s6.1,(Xx.mk s6.2.2.1 s6.2.2.2.1),s6.2.2.2.2.1,s6.2.2.2.2.2))))
def p2_(s4:Int×Xx×Xr×(List Str)):Option (Step (Int×Xx×Xr×(List Str)) (Out Unit (Xx×Xr×Int))):=Option.bind (aj_ (p1_ s4) BIG ([],0,s4.2.1.Yr,s4.2.1.Xh,s4.2.2.1,s4.2.2.2)) λ(wo2:Out (Str×Xx×Xr×(List Str)) (Xx×Xr×Int))=>match wo2 with | .ret r2=>some (.done (.ret r2)) | .fall o2=>(bif((o2.2.2.2.length:Int)==1)then some (.done (.ret ((o2.2.1,o2.2.2.1,0))))else(g7_ o2.1 1024).bind λy16=>some (.next (2,o2.2.1,o2.2.2.1,y16)))
def nr_(x0:Xx)(x1:Int)(x2:Str):Option (Xx×Xr×Int):=(dK_ (x2.length:Int)).bind λy1=>(g7_ x2 1024).bind λy2=>Option.bind (aj_ p2_ BIG (x1,x0,(Xr.mk [] (x2.length:Int) y1),y2)) λ(wo3:Out Unit (Xx×Xr×Int))=>match wo3 with | .ret r3=>some r3 | .fall _=>none
def mr_(y3:(List Int))(rec0:Xx->Xy->Int->Option (Xx×Xn×Int))(x1:Xy)(s2:Str×Int×Xx×(List Int)):Option (Step (Str×Int×Xx×(List Int)) (Out (Str×Xx) (Xx×Xn×Int))):=(bif(decide (s2.2.1<(y3.length:Int)))then(ak_ s2.2.2.2 s2.2.1).bind λy8=>(rec0 s2.2.2.1 x1 y8).bind λy9=>(bif(y9.2.2 != 0)then some (.done (.ret ((s2.2.2.1,(Xn.mk (Xq.mk 0 0 0 [] 0 [] [] [] 0 0 []) (Xr.mk [] 0 0)),y9.2.2))))else(g6_ y9.2.1).bind λy10=>(cat s2.1 y10).bind λy11=>some (.next (y11,(w64 (s2.2.1+1)),y9.1,s2.2.2.2)))else some (.done (.fall (s2.1,s2.2.2.1))))
def h8_(rec0:Xx->Xy->Int->Option (Xx×Xn×Int))(x0:Xx)(x1:Xy)(x2:Int):Option (Xx×Xn×Int):=(ck_ x1 x2).bind λy1=>Option.bind ( Option.bind (cl_ (Xq.mk y1.1.Id_ y1.1.Xw y1.1.Yz y1.1.Xv y1.1.Xp y1.1.Yf y1.1.Ym y1.1.Yy y1.1.Xo y1.1.Yx [])) λ(y2:Bool)=>(bif y2 then(lA_ x1 x2).bind λy3=>Option.bind (aj_ (mr_ y3 rec0 x1) BIG ([],0,x0,y3)) λ(wo1:Out (Str×Xx) (Xx×Xn×Int))=>match wo1 with | .ret r1=>some (.ret r1) | .fall o1=>some (.fall (3,o1.1,o1.2))else some (.fall (1,y1.1.Xl,x0))) ) λ(wo2:Out (Int×Str×Xx) (Xx×Xn×Int))=>match wo2 with | .ret r2=>some r2 | .fall o2=>(nr_ o2.2.2 o2.1 o2.2.1).bind λy12=>some ((y12.1,(Xn.mk (Xq.mk y1.1.Id_ y1.1.Xw y1.1.Yz y1.1.Xv y1.1.Xp y1.1.Yf y1.1.Ym y1.1.Yy y1.1.Xo y1.1.Yx []) y12.2.1),y12.2.2))
def el_:Nat->Xx->Xy->Int->Option (Xx×Xn×Int) | 0=>λ_ _ _=>none|n+1=>h8_ (el_ n)
def jA_(x0:Xx)(x1:Xy):Option (Xx×Str×Int):=(c2_ x1).bind λy1=>(bif(!y1)then(hx_ x0).bind λy2=>some ((y2,[],1))else(el_ BIG x0 x1 1).bind λy3=>(bif(y3.2.2 != 0)then(hx_ x0).bind λy4=>some ((y4,[],y3.2.2))else(hL_ x1.Yk 4).bind λy5=>(hL_ (x1.Xz.length:Int) 4).bind λy6=>(cat y5.1 y6.1).bind λy7=>(g6_ y3.2.1).bind λy8=>(cat y7 y8).bind λy9=>(mq_ y3.1 4 y9).bind λy10=>(bif(y10.2.2 != 0)then(hx_ x0).bind λy11=>some ((y11,[],y10.2.2))else some ((y10.1,y10.2.1,0)))))
def lC_(x0:Xg)(x1:Int):Option (Xg×Int):=(bif(decide ((x0.Xt.length:Int)>=64))then(ax_ x0).bind λy1=>some ((y1,22))else Option.bind (bif((decide (x1<0))||(decide (x1>1099511627776)))then some true else Option.bind (bif(decide ((x0.Xt.length:Int)>0))then(ak_ x0.Xt (w64 ((x0.Xt.length:Int)-1))).bind λy2=>some (decide (x1<=y2.Yg))else some false) λ(y3:Bool)=>some y3 ) λ(y4:Bool)=>(bif y4 then(ax_ x0).bind λy5=>some ((y5,1))else(jA_ x0.Yd x0.Xd.Xe).bind λy6=>(bif(y6.2.2 != 0)then(ax_ x0).bind λy7=>some ((y7,y6.2.2))else(ax_ x0).bind λy8=>(room 24 y8.Xt [(Yi.mk x1 y6.2.1)]).bind λy9=>some (((Xg.mk y8.Xd y6.1 y9),0)))))
def i1_(x0:Int):Option Int:=some ((w64 ((w64 (x0*1048576))+1)))
def num_known(x0:Int):Option Bool:=some ((((x0==8)||(x0==10))||(x0==16)))
def num_Text(x0:Int)(x1:Int):Option Str:=(num_known x1).bind λy1=>(bif(!y1)then some ([])else(dz_ x0 x1).bind λy2=>some (y2))
def nU_(x0:Xg)(x2:Int)(x3:Str)(s2:Int):Option (Step Int (Out Unit (Int×Int))):=(bif(decide (s2<(x0.Xt.length:Int)))then(ak_ x0.Xt s2).bind λy8=>Option.bind (bif(x2==2)then(num_Text y8.Yg 10).bind λy9=>some (y9==x3)else some false) λ(y10:Bool)=>(bif y10 then(i1_ (w64 (2+s2))).bind λy11=>some (.done (.ret ((y11,0))))else some (.next (w64 (s2+1))))else some (.done (.fall ())))
def lD_(x0:Xg)(x1:Str)(x2:Int)(x3:Str):Option (Int×Int):=(dL_ x0 x1 x2).bind λy1=>(bif(y1.2 != 0)then some ((0,y1.2))else(bif(decide (y1.1.Zy>0))then(iX_ y1.1.Zv x1 y1.1.Yh x3).bind λy2=>(bif(y2.2 != 0)then some ((0,y2.2))else(bif((x3==[46,46])&&(y1.1.Yh==1))then some (((bH_ y1.1.Zy 2),0))else some (((w64 ((w64 (y1.1.Zy*1048576))+y2.1)),0))))else(bif(x3==[46,46])then some ((1,0))else(bif((x2==1)&&(x3==[97,99,116,105,118,101]))then(i1_ 1).bind λy3=>some ((y3,0))else(bif((x2==1)&&(x3==[97,114,99,104,105,118,101]))then some ((2,0))else(aj_ (nU_ x0 x2 x3) BIG 0).bind λwo1=>match wo1 with | .ret r1=>some r1 | .fall _=>some ((0,8)))))))
def tree_Read(x0:Xy)(x1:Int)(x2:Int)(x3:Int):Option (Str×Int):=(jz_ x0 x1).bind λy1=>(bif(y1.2 != 0)then some (([],y1.2))else(bif((decide (x2<0))||(decide (x3<0)))then some (([],1))else(ak_ x0.Xz y1.1).bind λy2=>(bo_ y2.Xl (bH_ x2 (y2.Xl.length:Int)) (y2.Xl.length:Int)).bind λy3=>(bo_ y3 0 (bH_ x3 (y3.length:Int))).bind λy4=>some ((y4,0))))
def ms_(x0:Xm)(x1:Int)(x2:Int)(x3:Int):Option (Str×Int):=(tree_Read x0.Xe x1 x2 x3).bind λy1=>some ((y1.1,y1.2))
def lE_(x0:Xg)(x1:Int)(x2:Int)(x3:Int):Option (Str×Int):=(hZ_ x0 x1).bind λy1=>(bif(!y1.2)then some (([],8))else(eW_ y1.1).bind λy2=>(bif y2 then some (([],10))else(ms_ y1.1.Zv y1.1.Yh x2 x3).bind λy3=>some ((y3.1,y3.2))))
def lF_(x0:Xm)(x1:Str)(x2:Xq):Option Bool:=(ck_ x0.Xe x2.Xw).bind λy1=>Option.bind (bif(y1.2&&(x2.Id_ != 1))then(fq_ x0 x1 y1.1 2).bind λy2=>some y2 else some false) λ(y3:Bool)=>some (y3)
def jY_(x0:List Int)(x1:Int)(s2:Int):Option (Step Int (Out Unit Int)):=(bif(decide (s2<(x0.length:Int)))then(ak_ x0 s2).bind λy2=>(bif(x1==y2)then some (.done (.ret (s2)))else some (.next (w64 (s2+1))))else some (.done (.fall ())))
def gL_(x0:List Int)(x1:Int):Option Int:=(aj_ (jY_ x0 x1) BIG 0).bind λwo1=>match wo1 with | .ret r1=>some r1 | .fall _=>some ((-1))
def fs_(x0:List Int)(x1:Int):Option Bool:=(gL_ x0 x1).bind λy1=>some ((decide (y1>=0)))
def lG_(x0:Xm)(x1:Str)(x2:Xq)(x3:Int):Option Int:=(jx_ x3).bind λy1=>(bif(y1.2 != 0)then some (y1.2)else(aV_ x2.Xp 2147483648).bind λy2=>(bif(y2&&(x3 != 0))then some (10)else(fq_ x0 x1 x2 y1.1).bind λy3=>(bif(!y3)then some (11)else Option.bind (bif((b4_ .i64 x3 64) != 0)then(lF_ x0 x1 x2).bind λy4=>some (!y4)else some false) λ(y5:Bool)=>(bif y5 then some (11)else(aV_ x2.Xp 536870912).bind λy6=>Option.bind (bif y6 then(fs_ x0.Xu x2.Id_).bind λy7=>some y7 else some false) λ(y8:Bool)=>(bif y8 then some (24)else some (0))))))
def ns_(x0:Xy)(x1:Int)(x2:Int)(x3:Str)(x4:Int):Option (Xy×Int):=(jz_ x0 x1).bind λy1=>(bif(y1.2 != 0)then(bg_ x0).bind λy2=>some ((y2,y1.2))else(bif(decide (x2<0))then(bg_ x0).bind λy3=>some ((y3,1))else(bif(decide (x2>65536))then(bg_ x0).bind λy4=>some ((y4,4))else(ak_ x0.Xz y1.1).bind λy5=>(bif(x2==(y5.Xl.length:Int))then(bg_ x0).bind λy6=>some ((y6,0))else(bg_ x0).bind λy7=>(ak_ y7.Xz y1.1).bind λy8=>(nS_ y8.Xl x2).bind λy9=>(ak_ y7.Xz y1.1).bind λy10=>(hw_ (Xy.mk y7.Yk (y7.Xz.set y1.1.toNat (Xq.mk y10.Id_ y10.Xw y10.Yz y10.Xv y10.Xp y10.Yf y10.Ym y10.Yy y10.Xo y10.Yx y9))) y1.1 x3 x4).bind λy11=>some (((Xy.mk y7.Yk y11.Xz),0))))))
def mt_(x0:Xm)(x1:Str)(x2:Int)(x3:Int)(x4:Int):Option (Xm×Int):=(fF_ x0).bind λy1=>(gt_ x0 x1 x2).bind λy2=>(bif(y2.2 != 0)then some ((y1,y2.2))else(lG_ x0 x1 y2.1 x3).bind λy3=>(bif(y3 != 0)then some ((y1,y3))else Option.bind ( Option.bind (bif((b4_ .i64 x3 16) != 0)then(aV_ y2.1.Xp 1073741824).bind λy4=>some (!y4)else some false) λ(y5:Bool)=>(bif y5 then(d1_ x4).bind λy6=>(ns_ y1.Xe x2 0 x1 y6).bind λy7=>some (y7.1.Yk,y1.Yn,y1.Yp,y7.1.Xz,y1.Xu)else some (y1.Xe.Yk,y1.Yn,y1.Yp,y1.Xe.Xz,y1.Xu)) ) λ(o1:Int×(List Xf)×(List Yq)×(List Xq)×(List Int))=>Option.bind ( (aV_ y2.1.Xp 536870912).bind λy8=>(bif y8 then(i0_ (Xm.mk o1.2.1 o1.2.2.1 (Xy.mk o1.1 o1.2.2.2.1) o1.2.2.2.2) x2).bind λy9=>some (y9.Yn,y9.Yp,y9.Xe.Yk,y9.Xe.Xz,y9.Xu)else some (o1.2.1,o1.2.2.1,o1.1,o1.2.2.2.1,o1.2.2.2.2)) ) λ(o2:(List Xf)×(List Yq)×Int×(List Xq)×(List Int))=>some (((Xm.mk o2.1 o2.2.1 (Xy.mk o2.2.2.1 o2.2.2.2.1) o2.2.2.2.2),0))))
def lH_(x0:Xg)(x1:Str)(x2:Int)(x3:Int)(x4:Int):Option (Xg×Int):=(dL_ x0 x1 x2).bind λy1=>(bif(y1.2 != 0)then(ax_ x0).bind λy2=>some ((y2,y1.2))else(bif(y1.1.Zy==1)then(mt_ x0.Xd x1 y1.1.Yh x3 x4).bind λy3=>(bif(y3.2 != 0)then(ax_ x0).bind λy4=>some ((y4,y3.2))else(fG_ x0 y3.1).bind λy5=>some ((y5,0)))else(jx_ x3).bind λy6=>(bif(y6.2 != 0)then(ax_ x0).bind λy7=>some ((y7,y6.2))else(eW_ y1.1).bind λy8=>(bif(y8&&(x3 != 0))then(ax_ x0).bind λy9=>some ((y9,10))else(bif(y1.1.Zy==0)then(ax_ x0).bind λy10=>some ((y10,0))else(bif(((b4_ .i64 y6.1 2) != 0)||(decide (x3>=64)))then(ax_ x0).bind λy11=>some ((y11,33))else(ck_ y1.1.Zv.Xe y1.1.Yh).bind λy12=>(jT_ x0.Xd.Yn x1 y12.1.Yf y12.1.Ym y12.1.Xp y6.1).bind λy13=>(bif(!y13)then(ax_ x0).bind λy14=>some ((y14,11))else(ax_ x0).bind λy15=>some ((y15,0)))))))))
def lI_(f31:(List Xf)->(List Yq)->Str->Int->Option (Xm×Int))(f20:Xm->Int->Option Xg)(f41:Xg->Str->Int->Str->Int->Int->Int->Option (Xg×Int×Int))(f42:Xg->Str->Int->Int->Str->Int->Option (Xg×Int×Int))(f36:Xg->Int->Option (Xg×Int))(f22:Xg->Str->Int->Str->Option (Int×Int))(f24:Xg->Int->Int->Int->Option (Str×Int))(f43:Xg->Str->Int->Int->Int->Option (Xg×Int)):Option Bool:=Option.bind (f31 [(Xf.mk [97,100,109] [] [])] [] [97,100,109] 1) λ(y1:Xm×Int)=>(bif(y1.2 != 0)then some (false)else(f20 y1.1 100).bind λy2=>(f41 y2 [97,100,109] 1048577 [102] 420 1 2).bind λy3=>(bif((y3.2.2 != 0)||(y3.2.1 != 1048578))then some (false)else(f42 y3.1 [97,100,109] y3.2.1 0 [111,108,100] 3).bind λy4=>(bif(y4.2.2 != 0)then some (false)else(f36 y4.1 5).bind λy5=>(bif(y5.2 != 0)then some (false)else(f42 y5.1 [97,100,109] y3.2.1 0 [110,101,119] 6).bind λy6=>(f22 y6.1 [97,100,109] 2 [53]).bind λy7=>(f24 y6.1 2097154 0 10).bind λy8=>(f24 y6.1 y3.2.1 0 10).bind λy9=>(f43 y6.1 [97,100,109] 2097154 1 7).bind λy10=>some (((((((((y6.2.2==0)&&(y7.1==2097153))&&(y7.2==0))&&(y8.1==[111,108,100]))&&(y8.2==0))&&(y9.1==[110,101,119]))&&(y9.2==0))&&(y10.2==33)))))))
def d7_  : Option Bool:=lI_ nl_ da_ jy_ km_ lC_ lD_ lE_ lH_ 
def fc_(x0:Xy)(x1:Xy)(s2:Int):Option (Step Int (Out Unit Bool)):=(bif(decide (s2<(x0.Xz.length:Int)))then(ak_ x0.Xz s2).bind λy3=>(ak_ x1.Xz s2).bind λy4=>(bif(!(decide (y3=y4)))then some (.done (.ret (false)))else some (.next (w64 (s2+1))))else some (.done (.fall ())))
def eX_(x0:Xy)(x1:Xy):Option Bool:=(bif((x0.Yk != x1.Yk)||((x0.Xz.length:Int) != (x1.Xz.length:Int)))then some (false)else(aj_ (fc_ x0 x1) BIG 0).bind λwo1=>match wo1 with | .ret r1=>some r1 | .fall _=>some (true))
def cy_(x0:Xm)(s2:Int×Int):Option (Step (Int×Int) (Out Unit Bool)):=(bif(decide (s2.2<(x0.Xu.length:Int)))then(ak_ x0.Xu s2.2).bind λy10=>(ck_ x0.Xe y10).bind λy11=>Option.bind (bif(!y11.2)then some true else(aV_ y11.1.Xp 536870912).bind λy12=>some (!y12) ) λ(y13:Bool)=>(bif(y13||(decide (y10<=s2.1)))then some (.done (.ret (false)))else some (.next (y10,(w64 (s2.2+1)))))else some (.done (.fall ())))
def fH_(x0:Xm):Option Bool:=(gs_ x0.Yn).bind λy1=>Option.bind (bif(y1 != 0)then some true else(fp_ x0.Yp).bind λy2=>some (y2 != 0) ) λ(y3:Bool)=>Option.bind (bif y3 then some true else(c2_ x0.Xe).bind λy4=>some (!y4) ) λ(y5:Bool)=>(bif y5 then some (false)else(aj_ (cy_ x0) BIG (0,0)).bind λwo1=>match wo1 with | .ret r1=>some r1 | .fall _=>some (true))
def c7_(x0:Xx)(s2:Int×(List Str)×(List Int)):Option (Step (Int×(List Str)×(List Int)) (Out Unit Bool)):=(bif(decide (s2.1<(x0.Xh.length:Int)))then(ak_ x0.Xh s2.1).bind λy4=>(jX_ y4.Ya).bind λy5=>Option.bind (bif(((!y5)||(decide ((y4.Xl.length:Int)>1024)))||((y4.Xc.length:Int) != 32))then some true else some (decide ((au_ eqS s2.2.1 s2.2.2 y4.Xc 0)>0))) λ(y6:Bool)=>(bif y6 then some (.done (.ret (false)))else some (.next ((w64 (s2.1+1)),(aD_ eqS s2.2.1 y4.Xc),(aN_ eqS s2.2.1 s2.2.2 y4.Xc (w64 ((au_ eqS s2.2.1 s2.2.2 y4.Xc 0)+1))))))else some (.done (.fall ())))
def hy_(x0:Xx):Option Bool:=(bif(((decide (x0.Yr<1))||(decide (x0.Yr>4096)))||(decide ((x0.Xh.length:Int)>x0.Yr)))then some (false)else(aj_ (c7_ x0) BIG (0,([]:List Str),([]:List Int))).bind λwo1=>match wo1 with | .ret r1=>some r1 | .fall _=>some (true))
def ci_(x0:Xg)(s2:Int×Int):Option (Step (Int×Int) (Out Unit Bool)):=(bif(decide (s2.2<(x0.Xt.length:Int)))then(ak_ x0.Xt s2.2).bind λy8=>(bif((decide (y8.Yg<=s2.1))||(decide (y8.Yg>1099511627776)))then some (.done (.ret (false)))else(cO_ x0.Yd y8.Xc).bind λy9=>Option.bind (bif(y9.2 != 0)then some true else(c2_ y9.1).bind λy10=>some (!y10) ) λ(y11:Bool)=>(bif y11 then some (.done (.ret (false)))else some (.next (y8.Yg,(w64 (s2.2+1))))))else some (.done (.fall ())))
def eY_(x0:Xg):Option Bool:=(fH_ x0.Xd).bind λy1=>Option.bind (bif(!y1)then some true else(hy_ x0.Yd).bind λy2=>some (!y2) ) λ(y3:Bool)=>(bif(y3||(decide ((x0.Xt.length:Int)>64)))then some (false)else(aj_ (ci_ x0) BIG ((-1),0)).bind λwo1=>match wo1 with | .ret r1=>some r1 | .fall _=>some (true))
def ref15_New(x0:Int):Option Xx:=some ((Xx.mk (bH_ (bV_ x0 1) 4096) []))
def hM_(x0:Xm)(x1:Int):Option Xg:=(ref15_New x1).bind λy1=>some ((Xg.mk x0 y1 []))
def eA_(x0:List Str)(x1:List Str)(s2:Int):Option (Step Int (Out Unit Bool)):=(bif(decide (s2<(x0.length:Int)))then(ak_ x0 s2).bind λy3=>(ak_ x1 s2).bind λy4=>(bif(!(y3==y4))then some (.done (.ret (false)))else some (.next (w64 (s2+1))))else some (.done (.fall ())))
def em_(x0:List Str)(x1:List Str):Option Bool:=(bif((x0.length:Int) != (x1.length:Int))then some (false)else(aj_ (eA_ x0 x1) BIG 0).bind λwo1=>match wo1 with | .ret r1=>some r1 | .fall _=>some (true))
def eB_(x0:List Xf)(x1:List Xf)(s2:Int):Option (Step Int (Out Unit Bool)):=(bif(decide (s2<(x0.length:Int)))then(ak_ x0 s2).bind λy10=>(ak_ x1 s2).bind λy11=>Option.bind (bif(!(y10.Xv==y11.Xv))then some true else(ak_ x0 s2).bind λy12=>(ak_ x1 s2).bind λy13=>some (!(y12.Yc==y13.Yc)) ) λ(y14:Bool)=>Option.bind (bif y14 then some true else(ak_ x0 s2).bind λy15=>(ak_ x1 s2).bind λy16=>(em_ y15.Yw y16.Yw).bind λy17=>some (!y17) ) λ(y18:Bool)=>(bif y18 then some (.done (.ret (false)))else some (.next (w64 (s2+1))))else some (.done (.fall ())))
def en_(x0:List Xf)(x1:List Xf):Option Bool:=(bif((x0.length:Int) != (x1.length:Int))then some (false)else(aj_ (eB_ x0 x1) BIG 0).bind λwo1=>match wo1 with | .ret r1=>some r1 | .fall _=>some (true))
def ed_(x0:List Yq)(x1:List Yq)(s2:Int):Option (Step Int (Out Unit Bool)):=(bif(decide (s2<(x0.length:Int)))then(ak_ x0 s2).bind λy3=>(ak_ x1 s2).bind λy4=>(bif(!(decide (y3=y4)))then some (.done (.ret (false)))else some (.next (w64 (s2+1))))else some (.done (.fall ())))
def dW_(x0:List Yq)(x1:List Yq):Option Bool:=(bif((x0.length:Int) != (x1.length:Int))then some (false)else(aj_ (ed_ x0 x1) BIG 0).bind λwo1=>match wo1 with | .ret r1=>some r1 | .fall _=>some (true))
def fd_(x0:List Int)(x1:List Int)(s2:Int):Option (Step Int (Out Unit Bool)):=(bif(decide (s2<(x0.length:Int)))then(ak_ x0 s2).bind λy3=>(ak_ x1 s2).bind λy4=>(bif(y3 != y4)then some (.done (.ret (false)))else some (.next (w64 (s2+1))))else some (.done (.fall ())))
def eZ_(x0:List Int)(x1:List Int):Option Bool:=(bif((x0.length:Int) != (x1.length:Int))then some (false)else(aj_ (fd_ x0 x1) BIG 0).bind λwo1=>match wo1 with | .ret r1=>some r1 | .fall _=>some (true))
def iu_(x0:Xm)(x1:Xm):Option Bool:=(en_ x0.Yn x1.Yn).bind λy1=>Option.bind (bif y1 then(dW_ x0.Yp x1.Yp).bind λy2=>some y2 else some false) λ(y3:Bool)=>Option.bind (bif y3 then(eX_ x0.Xe x1.Xe).bind λy4=>some y4 else some false) λ(y5:Bool)=>Option.bind (bif y5 then(eZ_ x0.Xu x1.Xu).bind λy6=>some y6 else some false) λ(y7:Bool)=>some (y7)
def hN_(x0:Xx)(x1:Xx)(s2:Int):Option (Step Int (Out Unit Bool)):=(bif(decide (s2<(x0.Xh.length:Int)))then(ak_ x0.Xh s2).bind λy3=>(ak_ x1.Xh s2).bind λy4=>(bif(!(decide (y3=y4)))then some (.done (.ret (false)))else some (.next (w64 (s2+1))))else some (.done (.fall ())))
def eo_(x0:Xx)(x1:Xx):Option Bool:=(bif((x0.Yr != x1.Yr)||((x0.Xh.length:Int) != (x1.Xh.length:Int)))then some (false)else(aj_ (hN_ x0 x1) BIG 0).bind λwo1=>match wo1 with | .ret r1=>some r1 | .fall _=>some (true))
def lJ_(x0:Xg)(x1:Xg)(s2:Int):Option (Step Int (Out Unit Bool)):=(bif(decide (s2<(x0.Xt.length:Int)))then(ak_ x0.Xt s2).bind λy6=>(ak_ x1.Xt s2).bind λy7=>(bif(!(decide (y6=y7)))then some (.done (.ret (false)))else some (.next (w64 (s2+1))))else some (.done (.fall ())))
def e0_(x0:Xg)(x1:Xg):Option Bool:=(iu_ x0.Xd x1.Xd).bind λy1=>Option.bind (bif(!y1)then some true else(eo_ x0.Yd x1.Yd).bind λy2=>some (!y2) ) λ(y3:Bool)=>(bif(y3||((x0.Xt.length:Int) != (x1.Xt.length:Int)))then some (false)else(aj_ (lJ_ x0 x1) BIG 0).bind λwo1=>match wo1 with | .ret r1=>some r1 | .fall _=>some (true))
def df_(x0:Xg)(x1:Int):Option Bool:=(hl_ x0).bind λy1=>(bif(!y1)then(d7_).bind λy2=>some (y2)else(eY_ x0).bind λy3=>(ht_ x0).bind λy4=>(bif(y3==y4)then(both ( (both ( (da_ x0.Xd x1).bind λy13=>(hM_ x0.Xd x1).bind λy14=>(e0_ y13 y14).bind λy15=>(bif y15 then(d7_).bind λy16=>some (y16)else some (false))) ( (da_ x0.Xd x1).bind λy9=>(hM_ x0.Xd x1).bind λy10=>(e0_ y9 y10).bind λy11=>(bif y11 then(d7_).bind λy12=>some (y12)else some (false))))) ( (da_ x0.Xd x1).bind λy5=>(hM_ x0.Xd x1).bind λy6=>(e0_ y5 y6).bind λy7=>(bif y7 then(d7_).bind λy8=>some (y8)else some (false))))else(both ( (both ( some (false)) ( some (false)))) ( some (false)))))
def le_(x0:List Xf)(x1:Str):Option (Xf×Bool):=(fS_ x0 x1).bind λy1=>(bif(decide (y1<0))then some (((Xf.mk [] [] []),false))else(ak_ x0 y1).bind λy2=>some ((y2,true)))
def gy_(y1:Xf×Bool)(x1:Str)(s2:Int):Option (Step Int (Out Unit Bool)):=(bif(decide (s2<(y1.1.Yw.length:Int)))then(ak_ y1.1.Yw s2).bind λy3=>(bif(y3==x1)then some (.done (.ret (true)))else some (.next (w64 (s2+1))))else some (.done (.fall ())))
def mu_(x0:List Xf)(x1:Str)(x2:Str):Option Bool:=(bif(x1==x2)then some (true)else(le_ x0 x2).bind λy1=>(aj_ (gy_ y1 x1) BIG 0).bind λwo1=>match wo1 with | .ret r1=>some r1 | .fall _=>some (false))
def teS:Nat->Type | 0=>Xf | 1=>Yq | 2=>Xq | 3=>Xy | 4=>Xm | 5=>Xi | 6=>Xx | 7=>Yi | 8=>Xg | 9=>Yv | 10=>Xr | 11=>Yl | 12=>Xj | 13=>Xa | 14=>Yb | 15=>Xs | 16=>Xn | 17=>Xb | 18=>Yt | 19=>Xk | 20=>Zf | 21=>Zm | 22=>Wk | 23=>Zl | 24=>Zc|_=>Int
def teCs:Nat->List Ty | 0=>[.str,.str,.sl .str] | 1=>[.str,.int .i64,.int .i64] | 2=>[.int .i64,.int .i64,.int .i64,.str,.int .i64,.str,.str,.str,.int .i64,.int .i64,.str] | 3=>[.int .i64,.sl (.st 2)] | 4=>[.sl (.st 0),.sl (.st 1),.int .i64,.sl (.st 2),.sl (.int .i64)] | 5=>[.str,.int .i64,.str] | 6=>[.int .i64,.sl (.st 5)] | 7=>[.int .i64,.str] | 8=>[.sl (.st 0),.sl (.st 1),.int .i64,.sl (.st 2),.sl (.int .i64),.int .i64,.sl (.st 5),.sl (.st 7)] | 9=>[.str,.int .i64,.bool] | 10=>[.str,.int .i64,.int .i64] | 11=>[.sl (.st 0),.sl (.st 1),.int .i64,.sl (.st 2),.sl (.int .i64),.int .i64,.int .i64] | 12=>[.int .i64,.sl (.st 5),.sl .str] | 13=>[.int .u32,.int .u32,.int .u32,.int .u32,.int .u32,.int .u32,.int .u32,.int .u32] | 14=>[.int .u32,.int .u32,.int .u32,.int .u32,.int .u32,.int .u32,.int .u32,.int .u32,.int .u32,.int .u32,.int .u32,.int .u32,.int .u32,.int .u32,.int .u32,.int .u32,.int .u32,.int .u32,.int .u32,.int .u32,.int .u32,.int .u32,.int .u32,.int .u32,.int .u32,.int .u32,.int .u32,.int .u32,.int .u32,.int .u32,.int .u32,.int .u32,.int .u32,.int .u32,.int .u32,.int .u32,.int .u32,.int .u32,.int .u32,.int .u32,.int .u32,.int .u32,.int .u32,.int .u32,.int .u32,.int .u32,.int .u32,.int .u32,.int .u32,.int .u32,.int .u32,.int .u32,.int .u32,.int .u32,.int .u32,.int .u32,.int .u32,.int .u32,.int .u32,.int .u32,.int .u32,.int .u32,.int .u32,.int .u32] | 15=>[.str,.int .i64,.bool] | 16=>[.int .i64,.int .i64,.int .i64,.str,.int .i64,.str,.str,.str,.int .i64,.int .i64,.str,.str,.int .i64,.int .i64] | 17=>[.sl (.st 2),.int .i64] | 18=>[.int .i64,.int .i64,.int .i64,.int .i64] | 19=>[.int .i64,.str] | 20=>[.int .i64,.int .i64,.int .i64] | 21=>[.int .i64,.int .i64,.int .i64,.int .i64,.int .i64,.int .i64,.int .i64,.int .i64,.int .i64,.str,.str,.str,.str] | 22=>[.int .i64,.str,.int .i64,.str,.int .i64,.int .i64,.int .i64,.str,.int .i64,.int .i64,.int .i64,.int .i64,.int .i64,.int .i64,.int .i64,.int .i64,.int .i64,.str,.str,.str,.str,.int .i64] | 23=>[.int .i64,.int .i64,.int .i64] | 24=>[.int .u64,.int .u64,.int .u64,.int .u64,.int .u64,.int .u64,.int .u64,.int .u64,.int .u64,.int .u64,.int .u64,.int .u64,.int .u64,.int .u64,.int .u64,.int .u64,.int .u64,.int .u64,.int .u64,.int .u64]|_=>[.int .i64]
def teUn:(n:Nat)->teS n->HL teS (teCs n) | 0,d=>(d.Xv,d.Yc,d.Yw,()) | 1,d=>(d.Ye,d.Xd,d.Ys,()) | 2,d=>(d.Id_,d.Xw,d.Yz,d.Xv,d.Xp,d.Yf,d.Ym,d.Yy,d.Xo,d.Yx,d.Xl,()) | 3,d=>(d.Yk,d.Xz,()) | 4,d=>(d.Yn,d.Yp,d.Xe.Yk,d.Xe.Xz,d.Xu,()) | 5,d=>(d.Xc,d.Ya,d.Xl,()) | 6,d=>(d.Yr,d.Xh,()) | 7,d=>(d.Yg,d.Xc,()) | 8,d=>(d.Xd.Yn,d.Xd.Yp,d.Xd.Xe.Yk,d.Xd.Xe.Xz,d.Xd.Xu,d.Yd.Yr,d.Yd.Xh,d.Xt,()) | 9,d=>(d.S_,d.At_,d.Zj,()) | 10,d=>(d.Xc,d.Yj,d.Yu,()) | 11,d=>(d.Zv.Yn,d.Zv.Yp,d.Zv.Xe.Yk,d.Zv.Xe.Xz,d.Zv.Xu,d.Zy,d.Yh,()) | 12,d=>(d.Zx.Yr,d.Zx.Xh,d.Zd,()) | 13,d=>(d.a0_,d.a1_,d.a2_,d.a3_,d.a4_,d.a5_,d.a6_,d.a7_,()) | 14,d=>(d.a0_,d.a1_,d.a2_,d.a3_,d.a4_,d.a5_,d.a6_,d.a7_,d.a8_,d.a9_,d.Zs,d.Za,d.Ze,d.Zi,d.Zo,d.Zu,d.Wz,d.Wq,d.Wx,d.Wj,d.Wy,d.Wh,d.Wg,d.Wf,d.Wm,d.Wn,d.Wp,d.Wb,d.Wc,d.Wd,d.Wr,d.Wt,d.Wl,d.Ws,d.Wa,d.We,d.Wi,d.Wo,d.Wu,d.Vz,d.Vq,d.Vx,d.Vj,d.Vk,d.Vv,d.Vw,d.Vy,d.Vh,d.Vg,d.Vf,d.Vm,d.Vn,d.Vp,d.Vb,d.Vc,d.Vd,d.Vr,d.Vt,d.Vl,d.Vs,d.Va,d.Ve,d.Vi,d.Vo,()) | 15,d=>(d.s_,d.at_,d.Zz,()) | 16,d=>(d.Yh.Id_,d.Yh.Xw,d.Yh.Yz,d.Yh.Xv,d.Yh.Xp,d.Yh.Yf,d.Yh.Ym,d.Yh.Yy,d.Yh.Xo,d.Yh.Yx,d.Yh.Xl,d.Zn.Xc,d.Zn.Yj,d.Zn.Yu,()) | 17,d=>(d.Zg,d.Zh,()) | 18,d=>(d.Wv,d.Zt,d.lo_,d.hi_,()) | 19,d=>(d.Zr,d.Zp,()) | 20,d=>(d.Yo,d.Yz,d.Zk,()) | 21,d=>(d.Yo,d.Zb,d.Zq.Yo,d.Zq.Yz,d.Zq.Zk,d.Xp,d.Xo,d.Yx,d.Yj,d.Xv,d.Yf,d.Ym,d.Yy,()) | 22,d=>(d.Ya,d.Ye,d.Id_,d.Xv,d.Uz,d.Xp,d.Ww,d.Xl,d.Zw.Yo,d.Zw.Zb,d.Zw.Zq.Yo,d.Zw.Zq.Yz,d.Zw.Zq.Zk,d.Zw.Xp,d.Zw.Xo,d.Zw.Yx,d.Zw.Yj,d.Zw.Xv,d.Zw.Yf,d.Zw.Ym,d.Zw.Yy,d.Uq,()) | 23,d=>(d.n_,d.Vu,d.Zh,()) | 24,d=>(d.a0_,d.a1_,d.a2_,d.a3_,d.a4_,d.a5_,d.a6_,d.a7_,d.a8_,d.a9_,d.Zs,d.Za,d.Ze,d.Zi,d.Zo,d.Zu,d.Wz,d.Wq,d.Wx,d.Wj,())|_+25,d=>(d,())
def teBd:(n:Nat)->HL teS (teCs n)->teS n
 | 0,h=>⟨h.1,h.2.1,h.2.2.1⟩
 | 1,h=>⟨h.1,h.2.1,h.2.2.1⟩
 | 2,h=>⟨h.1,h.2.1,h.2.2.1,h.2.2.2.1,h.2.2.2.2.1,h.2.2.2.2.2.1,h.2.2.2.2.2.2.1,h.2.2.2.2.2.2.2.1,h.2.2.2.2.2.2.2.2.1,h.2.2.2.2.2.2.2.2.2.1,h.2.2.2.2.2.2.2.2.2.2.1⟩
 | 3,h=>⟨h.1,h.2.1⟩
 | 4,h=>⟨h.1,h.2.1,⟨h.2.2.1,h.2.2.2.1⟩,h.2.2.2.2.1⟩
 | 5,h=>⟨h.1,h.2.1,h.2.2.1⟩
 | 6,h=>⟨h.1,h.2.1⟩
 | 7,h=>⟨h.1,h.2.1⟩
 | 8,h=>⟨⟨h.1,h.2.1,⟨h.2.2.1,h.2.2.2.1⟩,h.2.2.2.2.1⟩,⟨h.2.2.2.2.2.1,h.2.2.2.2.2.2.1⟩,h.2.2.2.2.2.2.2.1⟩
 | 9,h=>⟨h.1,h.2.1,h.2.2.1⟩
 | 10,h=>⟨h.1,h.2.1,h.2.2.1⟩
 | 11,h=>⟨⟨h.1,h.2.1,⟨h.2.2.1,h.2.2.2.1⟩,h.2.2.2.2.1⟩,h.2.2.2.2.2.1,h.2.2.2.2.2.2.1⟩
 | 12,h=>⟨⟨h.1,h.2.1⟩,h.2.2.1⟩
 | 13,h=>⟨h.1,h.2.1,h.2.2.1,h.2.2.2.1,h.2.2.2.2.1,h.2.2.2.2.2.1,h.2.2.2.2.2.2.1,h.2.2.2.2.2.2.2.1⟩
 | 14,h=>match h with|(a0,a1,a2,a3,a4,a5,a6,a7,a8,a9,a10,a11,a12,a13,a14,a15,a16,a17,a18,a19,a20,a21,a22,a23,a24,a25,a26,a27,a28,a29,a30,a31,a32,a33,a34,a35,a36,a37,a38,a39,a40,a41,a42,a43,a44,a45,a46,a47,a48,a49,a50,a51,a52,a53,a54,a55,a56,a57,a58,a59,a60,a61,a62,a63,_)=>⟨a0,a1,a2,a3,a4,a5,a6,a7,a8,a9,a10,a11,a12,a13,a14,a15,a16,a17,a18,a19,a20,a21,a22,a23,a24,a25,a26,a27,a28,a29,a30,a31,a32,a33,a34,a35,a36,a37,a38,a39,a40,a41,a42,a43,a44,a45,a46,a47,a48,a49,a50,a51,a52,a53,a54,a55,a56,a57,a58,a59,a60,a61,a62,a63⟩
 | 15,h=>⟨h.1,h.2.1,h.2.2.1⟩
 | 16,h=>⟨⟨h.1,h.2.1,h.2.2.1,h.2.2.2.1,h.2.2.2.2.1,h.2.2.2.2.2.1,h.2.2.2.2.2.2.1,h.2.2.2.2.2.2.2.1,h.2.2.2.2.2.2.2.2.1,h.2.2.2.2.2.2.2.2.2.1,h.2.2.2.2.2.2.2.2.2.2.1⟩,⟨h.2.2.2.2.2.2.2.2.2.2.2.1,h.2.2.2.2.2.2.2.2.2.2.2.2.1,h.2.2.2.2.2.2.2.2.2.2.2.2.2.1⟩⟩
 | 17,h=>⟨h.1,h.2.1⟩
 | 18,h=>⟨h.1,h.2.1,h.2.2.1,h.2.2.2.1⟩
 | 19,h=>⟨h.1,h.2.1⟩
 | 20,h=>⟨h.1,h.2.1,h.2.2.1⟩
 | 21,h=>⟨h.1,h.2.1,⟨h.2.2.1,h.2.2.2.1,h.2.2.2.2.1⟩,h.2.2.2.2.2.1,h.2.2.2.2.2.2.1,h.2.2.2.2.2.2.2.1,h.2.2.2.2.2.2.2.2.1,h.2.2.2.2.2.2.2.2.2.1,h.2.2.2.2.2.2.2.2.2.2.1,h.2.2.2.2.2.2.2.2.2.2.2.1,h.2.2.2.2.2.2.2.2.2.2.2.2.1⟩
 | 22,h=>⟨h.1,h.2.1,h.2.2.1,h.2.2.2.1,h.2.2.2.2.1,h.2.2.2.2.2.1,h.2.2.2.2.2.2.1,h.2.2.2.2.2.2.2.1,⟨h.2.2.2.2.2.2.2.2.1,h.2.2.2.2.2.2.2.2.2.1,⟨h.2.2.2.2.2.2.2.2.2.2.1,h.2.2.2.2.2.2.2.2.2.2.2.1,h.2.2.2.2.2.2.2.2.2.2.2.2.1⟩,h.2.2.2.2.2.2.2.2.2.2.2.2.2.1,h.2.2.2.2.2.2.2.2.2.2.2.2.2.2.1,h.2.2.2.2.2.2.2.2.2.2.2.2.2.2.2.1,h.2.2.2.2.2.2.2.2.2.2.2.2.2.2.2.2.1,h.2.2.2.2.2.2.2.2.2.2.2.2.2.2.2.2.2.1,h.2.2.2.2.2.2.2.2.2.2.2.2.2.2.2.2.2.2.1,h.2.2.2.2.2.2.2.2.2.2.2.2.2.2.2.2.2.2.2.1,h.2.2.2.2.2.2.2.2.2.2.2.2.2.2.2.2.2.2.2.2.1⟩,h.2.2.2.2.2.2.2.2.2.2.2.2.2.2.2.2.2.2.2.2.2.1⟩
 | 23,h=>⟨h.1,h.2.1,h.2.2.1⟩
 | 24,h=>⟨h.1,h.2.1,h.2.2.1,h.2.2.2.1,h.2.2.2.2.1,h.2.2.2.2.2.1,h.2.2.2.2.2.2.1,h.2.2.2.2.2.2.2.1,h.2.2.2.2.2.2.2.2.1,h.2.2.2.2.2.2.2.2.2.1,h.2.2.2.2.2.2.2.2.2.2.1,h.2.2.2.2.2.2.2.2.2.2.2.1,h.2.2.2.2.2.2.2.2.2.2.2.2.1,h.2.2.2.2.2.2.2.2.2.2.2.2.2.1,h.2.2.2.2.2.2.2.2.2.2.2.2.2.2.1,h.2.2.2.2.2.2.2.2.2.2.2.2.2.2.2.1,h.2.2.2.2.2.2.2.2.2.2.2.2.2.2.2.2.1,h.2.2.2.2.2.2.2.2.2.2.2.2.2.2.2.2.2.1,h.2.2.2.2.2.2.2.2.2.2.2.2.2.2.2.2.2.2.1,h.2.2.2.2.2.2.2.2.2.2.2.2.2.2.2.2.2.2.2.1⟩
 | _+25,h=>h.1
def teDeq:(n:Nat)->Option (DecidableEq (teS n)) | 1=>some (inferInstanceAs (DecidableEq Yq)) | 2=>some (inferInstanceAs (DecidableEq Xq)) | 5=>some (inferInstanceAs (DecidableEq Xi)) | 7=>some (inferInstanceAs (DecidableEq Yi)) | 19=>some (inferInstanceAs (DecidableEq Xk)) | 21=>some (inferInstanceAs (DecidableEq Zm)) | 20=>some (inferInstanceAs (DecidableEq Zf))|_=>none
def teTy(n:Nat):Option Ty:=aA_ n [(2,.int .i64),(3,.int .i64),(4,.bool),(5,.int .u8),(6,.int .u8),(9,.str),(10,.str),(11,.str),(12,.int .u64),(21,.int .i32),(22,.sl (.st 0)),(23,.sl (.st 1)),(24,.sl (.st 2)),(26,.st 3),(27,.sl (.int .i64)),(29,.st 4),(30,.sl (.st 5)),(32,.st 6),(33,.sl (.st 7)),(35,.st 8),(39,.st 7),(42,.int .i64),(54,.st 20),(56,.st 21),(59,.sl (.st 21)),(64,.sl (.st 22)),(69,.st 22),(77,.sl .str),(79,.st 0),(81,.st 2),(83,.st 5),(96,.st 11),(120,.st 1),(135,.st 9),(137,.st 10),(158,.st 19),(184,.st 16),(193,.sl (.st 10)),(205,.st 12),(209,.st 15),(235,.sl (.int .u8)),(258,.sl (.st 16)),(265,.int .u64),(267,.int .u64),(296,.st 18),(299,.int .i64),(306,.int .u32),(308,.st 24),(310,.sl (.st 23)),(313,.st 23),(315,.sl (.int .u32)),(330,.int .u64),(337,.st 13),(353,.st 14),(365,.int .u8),(368,.int .i32)]
abbrev globPT:Ty := .st 24
abbrev glob0T:Ty := .st 14
def teGl:Nat->Option (Σ t:Ty,Den teS t) | 0=>some ⟨.st 24,globP⟩ | 3=>some ⟨.st 14,glob0⟩|_=>none
abbrev nodeN:Nat:=2
abbrev snapN:Nat:=8
def teSb(n:Nat):Bool:=Nat.beq n 323
def te:TE:=⟨teS,teCs,teUn,teBd,λn x=>by match n with | 0=>rfl | 1=>rfl | 2=>rfl | 3=>rfl | 4=>rfl | 5=>rfl | 6=>rfl | 7=>rfl | 8=>rfl | 9=>rfl | 10=>rfl | 11=>rfl | 12=>rfl | 13=>rfl | 14=>rfl | 15=>rfl | 16=>rfl | 17=>rfl | 18=>rfl | 19=>rfl | 20=>rfl | 21=>rfl | 22=>rfl | 23=>rfl | 24=>rfl|n+25=>rfl,λn x=>by match n with | 0=>rfl | 1=>rfl | 2=>rfl | 3=>rfl | 4=>rfl | 5=>rfl | 6=>rfl | 7=>rfl | 8=>rfl | 9=>rfl | 10=>rfl | 11=>rfl | 12=>rfl | 13=>rfl | 14=>rfl | 15=>rfl | 16=>rfl | 17=>rfl | 18=>rfl | 19=>rfl | 20=>rfl | 21=>rfl | 22=>rfl | 23=>rfl | 24=>rfl|n+25=>rfl,teDeq,teTy,λn=>by match n with | 0=>exact List.cons_ne_nil _ _ | 1=>exact List.cons_ne_nil _ _ | 2=>exact List.cons_ne_nil _ _ | 3=>exact List.cons_ne_nil _ _ | 4=>exact List.cons_ne_nil _ _ | 5=>exact List.cons_ne_nil _ _ | 6=>exact List.cons_ne_nil _ _ | 7=>exact List.cons_ne_nil _ _ | 8=>exact List.cons_ne_nil _ _ | 9=>exact List.cons_ne_nil _ _ | 10=>exact List.cons_ne_nil _ _ | 11=>exact List.cons_ne_nil _ _ | 12=>exact List.cons_ne_nil _ _ | 13=>exact List.cons_ne_nil _ _ | 14=>exact List.cons_ne_nil _ _ | 15=>exact List.cons_ne_nil _ _ | 16=>exact List.cons_ne_nil _ _ | 17=>exact List.cons_ne_nil _ _ | 18=>exact List.cons_ne_nil _ _ | 19=>exact List.cons_ne_nil _ _ | 20=>exact List.cons_ne_nil _ _ | 21=>exact List.cons_ne_nil _ _ | 22=>exact List.cons_ne_nil _ _ | 23=>exact List.cons_ne_nil _ _ | 24=>exact List.cons_ne_nil _ _|n+25=>exact List.cons_ne_nil _ _,teGl,teSb⟩
theorem api_Snap_ext(x y:Yi):(x=y)=(x.Yg=y.Yg/\x.Xc=y.Xc):=by cases x;cases y;simp
theorem eqd_api_Snap(x y:Yi):((x.Yg==y.Yg)&&(((⟨x.Xc.toArray⟩:ByteArray).toList==(⟨y.Xc.toArray⟩:ByteArray).toList)&&true))=true↔x=y:=by simp[api_Snap_ext]
theorem p3_:aF_ Tryz.prog te 39 7:=by
 intro d x y l m hl hm;obtain rfl:=qSj hl;obtain rfl:=qSj hm;refine gP_ 10 rfl (by kernel_rfl) (b:=((x.Yg==y.Yg)&&(((⟨x.Xc.toArray⟩:ByteArray).toList==(⟨y.Xc.toArray⟩:ByteArray).toList)&&true))) (by kernel_rfl) ?_;rw[Bool.eq_iff_iff];exact(eqd_api_Snap x y).trans (@decide_eq_true_iff _ (d x y)).symm
theorem nt_(x y:Zf):(x=y)=(x.Yo=y.Yo/\x.Yz=y.Yz/\x.Zk=y.Zk):=by cases x;cases y;simp
theorem eqd_api_Qid(x y:Zf):((x.Yo==y.Yo)&&((x.Yz==y.Yz)&&((x.Zk==y.Zk)&&true)))=true↔x=y:=by simp[nt_]
theorem ra_:aF_ Tryz.prog te 54 20:=by
 intro d x y l m hl hm;obtain rfl:=qSj hl;obtain rfl:=qSj hm;refine gP_ 10 rfl (by kernel_rfl) (b:=((x.Yo==y.Yo)&&((x.Yz==y.Yz)&&((x.Zk==y.Zk)&&true)))) (by kernel_rfl) ?_;rw[Bool.eq_iff_iff];exact(eqd_api_Qid x y).trans (@decide_eq_true_iff _ (d x y)).symm
theorem api_Dir_ext(x y:Zm):(x=y)=(x.Yo=y.Yo/\x.Zb=y.Zb/\x.Zq=y.Zq/\x.Xp=y.Xp/\x.Xo=y.Xo/\x.Yx=y.Yx/\x.Yj=y.Yj/\x.Xv=y.Xv/\x.Yf=y.Yf/\x.Ym=y.Ym/\x.Yy=y.Yy):=by cases x;cases y;simp
theorem eqd_api_Dir(x y:Zm):((x.Yo==y.Yo)&&((x.Zb==y.Zb)&&(((x.Zq.Yo==y.Zq.Yo)&&((x.Zq.Yz==y.Zq.Yz)&&((x.Zq.Zk==y.Zq.Zk)&&true)))&&((x.Xp==y.Xp)&&((x.Xo==y.Xo)&&((x.Yx==y.Yx)&&((x.Yj==y.Yj)&&(((⟨x.Xv.toArray⟩:ByteArray).toList==(⟨y.Xv.toArray⟩:ByteArray).toList)&&(((⟨x.Yf.toArray⟩:ByteArray).toList==(⟨y.Yf.toArray⟩:ByteArray).toList)&&(((⟨x.Ym.toArray⟩:ByteArray).toList==(⟨y.Ym.toArray⟩:ByteArray).toList)&&(((⟨x.Yy.toArray⟩:ByteArray).toList==(⟨y.Yy.toArray⟩:ByteArray).toList)&&true)))))))))))=true↔x=y:=by simp[api_Dir_ext,nt_]
theorem rb_:aF_ Tryz.prog te 56 21:=by
 intro d x y l m hl hm;obtain rfl:=qSj hl;obtain rfl:=qSj hm;refine gP_ 10 rfl (by kernel_rfl) (b:=((x.Yo==y.Yo)&&((x.Zb==y.Zb)&&(((x.Zq.Yo==y.Zq.Yo)&&((x.Zq.Yz==y.Zq.Yz)&&((x.Zq.Zk==y.Zq.Zk)&&true)))&&((x.Xp==y.Xp)&&((x.Xo==y.Xo)&&((x.Yx==y.Yx)&&((x.Yj==y.Yj)&&(((⟨x.Xv.toArray⟩:ByteArray).toList==(⟨y.Xv.toArray⟩:ByteArray).toList)&&(((⟨x.Yf.toArray⟩:ByteArray).toList==(⟨y.Yf.toArray⟩:ByteArray).toList)&&(((⟨x.Ym.toArray⟩:ByteArray).toList==(⟨y.Ym.toArray⟩:ByteArray).toList)&&(((⟨x.Yy.toArray⟩:ByteArray).toList==(⟨y.Yy.toArray⟩:ByteArray).toList)&&true)))))))))))) (by kernel_rfl) ?_;rw[Bool.eq_iff_iff]
 exact(eqd_api_Dir x y).trans (@decide_eq_true_iff _ (d x y)).symm
theorem api_Node_ext(x y:Xq):(x=y)=(x.Id_=y.Id_/\x.Xw=y.Xw/\x.Yz=y.Yz/\x.Xv=y.Xv/\x.Xp=y.Xp/\x.Yf=y.Yf/\x.Ym=y.Ym/\x.Yy=y.Yy/\x.Xo=y.Xo/\x.Yx=y.Yx/\x.Xl=y.Xl):=by cases x;cases y;simp
theorem eqd_api_Node(x y:Xq):((x.Id_==y.Id_)&&((x.Xw==y.Xw)&&((x.Yz==y.Yz)&&(((⟨x.Xv.toArray⟩:ByteArray).toList==(⟨y.Xv.toArray⟩:ByteArray).toList)&&((x.Xp==y.Xp)&&(((⟨x.Yf.toArray⟩:ByteArray).toList==(⟨y.Yf.toArray⟩:ByteArray).toList)&&(((⟨x.Ym.toArray⟩:ByteArray).toList==(⟨y.Ym.toArray⟩:ByteArray).toList)&&(((⟨x.Yy.toArray⟩:ByteArray).toList==(⟨y.Yy.toArray⟩:ByteArray).toList)&&((x.Xo==y.Xo)&&((x.Yx==y.Yx)&&(((⟨x.Xl.toArray⟩:ByteArray).toList==(⟨y.Xl.toArray⟩:ByteArray).toList)&&true)))))))))))=true↔x=y:=by simp[api_Node_ext]
theorem p4_:aF_ Tryz.prog te 81 2:=by
 intro d x y l m hl hm;obtain rfl:=qSj hl;obtain rfl:=qSj hm;refine gP_ 10 rfl (by kernel_rfl) (b:=((x.Id_==y.Id_)&&((x.Xw==y.Xw)&&((x.Yz==y.Yz)&&(((⟨x.Xv.toArray⟩:ByteArray).toList==(⟨y.Xv.toArray⟩:ByteArray).toList)&&((x.Xp==y.Xp)&&(((⟨x.Yf.toArray⟩:ByteArray).toList==(⟨y.Yf.toArray⟩:ByteArray).toList)&&(((⟨x.Ym.toArray⟩:ByteArray).toList==(⟨y.Ym.toArray⟩:ByteArray).toList)&&(((⟨x.Yy.toArray⟩:ByteArray).toList==(⟨y.Yy.toArray⟩:ByteArray).toList)&&((x.Xo==y.Xo)&&((x.Yx==y.Yx)&&(((⟨x.Xl.toArray⟩:ByteArray).toList==(⟨y.Xl.toArray⟩:ByteArray).toList)&&true)))))))))))) (by kernel_rfl) ?_;rw[Bool.eq_iff_iff]
 exact(eqd_api_Node x y).trans (@decide_eq_true_iff _ (d x y)).symm
theorem rc_(x y:Xi):(x=y)=(x.Xc=y.Xc/\x.Ya=y.Ya/\x.Xl=y.Xl):=by cases x;cases y;simp
theorem rd_(x y:Xi):(((⟨x.Xc.toArray⟩:ByteArray).toList==(⟨y.Xc.toArray⟩:ByteArray).toList)&&((x.Ya==y.Ya)&&(((⟨x.Xl.toArray⟩:ByteArray).toList==(⟨y.Xl.toArray⟩:ByteArray).toList)&&true)))=true↔x=y:=by simp[rc_]
theorem oY_:aF_ Tryz.prog te 83 5:=by
 intro d x y l m hl hm;obtain rfl:=qSj hl;obtain rfl:=qSj hm;refine gP_ 10 rfl (by kernel_rfl) (b:=(((⟨x.Xc.toArray⟩:ByteArray).toList==(⟨y.Xc.toArray⟩:ByteArray).toList)&&((x.Ya==y.Ya)&&(((⟨x.Xl.toArray⟩:ByteArray).toList==(⟨y.Xl.toArray⟩:ByteArray).toList)&&true)))) (by kernel_rfl) ?_;rw[Bool.eq_iff_iff];exact(rd_ x y).trans (@decide_eq_true_iff _ (d x y)).symm
theorem re_(x y:Yq):(x=y)=(x.Ye=y.Ye/\x.Xd=y.Xd/\x.Ys=y.Ys):=by cases x;cases y;simp
theorem rf_(x y:Yq):(((⟨x.Ye.toArray⟩:ByteArray).toList==(⟨y.Ye.toArray⟩:ByteArray).toList)&&((x.Xd==y.Xd)&&((x.Ys==y.Ys)&&true)))=true↔x=y:=by simp[re_]
theorem nV_:aF_ Tryz.prog te 120 1:=by
 intro d x y l m hl hm;obtain rfl:=qSj hl;obtain rfl:=qSj hm;refine gP_ 10 rfl (by kernel_rfl) (b:=(((⟨x.Ye.toArray⟩:ByteArray).toList==(⟨y.Ye.toArray⟩:ByteArray).toList)&&((x.Xd==y.Xd)&&((x.Ys==y.Ys)&&true)))) (by kernel_rfl) ?_;rw[Bool.eq_iff_iff];exact(rf_ x y).trans (@decide_eq_true_iff _ (d x y)).symm
theorem p5_(x y:Xk):(x=y)=(x.Zr=y.Zr/\x.Zp=y.Zp):=by cases x;cases y;simp
theorem p6_(x y:Xk):((x.Zr==y.Zr)&&(((⟨x.Zp.toArray⟩:ByteArray).toList==(⟨y.Zp.toArray⟩:ByteArray).toList)&&true))=true↔x=y:=by simp[p5_]
theorem nb_:aF_ Tryz.prog te 158 19:=by
 intro d x y l m hl hm;obtain rfl:=qSj hl;obtain rfl:=qSj hm;refine gP_ 10 rfl (by kernel_rfl) (b:=((x.Zr==y.Zr)&&(((⟨x.Zp.toArray⟩:ByteArray).toList==(⟨y.Zp.toArray⟩:ByteArray).toList)&&true))) (by kernel_rfl) ?_;rw[Bool.eq_iff_iff];exact(p6_ x y).trans (@decide_eq_true_iff _ (d x y)).symm
def eqL:List (Nat×Nat):=[(39,7),(54,20),(56,21),(81,2),(83,5),(120,1),(158,19)]
theorem af_:∀p∈eqL,aF_ Tryz.prog te p.1 p.2:=by
 intro p hp;simp only[eqL,List.mem_cons,List.not_mem_nil,or_false]at hp;rcases hp with rfl|rfl|rfl|rfl|rfl|rfl|rfl
 .exact p3_
 .exact ra_
 .exact rb_
 .exact p4_
 .exact oY_
 .exact nV_
 .exact nb_
abbrev OKF(f:FuncId)(C:Con te):Prop:=Con.OK Tryz.prog te f C/\cI_ Tryz.prog f=true
end
open Go.ChangeShapes Go.WideShapes Go.ChangeAt Go.ChangeMaps
abbrev laidAll : List (String × DataW Unit) := [("math/bits.deBruijn32tab", Rows.laid_math_bits_deBruijn32tab), ("math/bits.deBruijn64tab", Rows.laid_math_bits_deBruijn64tab), ("internal/strconv.uint64pow10", Rows.laid_internal_strconv_uint64pow10), ("filespace/hash.rounds", Rows.laid_filespace_hash_rounds)]
def powL:List Int:=[1,10,100,1000,10000,100000,1000000,10000000,100000000,1000000000,10000000000,100000000000,1000000000000,10000000000000,100000000000000,1000000000000000,10000000000000000,100000000000000000,1000000000000000000,10000000000000000000]
theorem tab_block{W:World}{name:String}{k:IntKind}{zs:List Int}{n:Nat}(h:Lib.TabIs Tryz.prog W name k zs)(hn:(Tryz.prog).globalNamed name=some n):∃e c,W.heap[n]? = some (.cells (zs.map λz=>Value.int k z).toArray e c):=by
 unfold Lib.TabIs World.var? at h;rw[hn]at h;simp only[qBs]at h;split at h
 .rename_i cs e c hh;obtain rfl:=qSj h;exact⟨e,c,hh⟩
 .cases h
theorem tab_glo{W:World}{name:String}{k:IntKind}{zs:List Int}{n:Nat}(h:Lib.TabIs Tryz.prog W name k zs)(hn:(Tryz.prog).globalNamed name=some n){t:Ty}{x:Den te.S t}(hr:RD te (dw_ W) (te.flat t) (te.fl t x) (zs.map (Value.int k))) :
  (dw_ W).F n/\∃r,RD te (dw_ W) (te.flat t) (te.fl t x) r/\(∀j u,r[j]? = some u->(dw_ W).w.cell? ⟨n,j,none⟩=some u)/\∃e c,(dw_ W).w.heap[n]? = some (.cells r.toArray e c):=by
 obtain⟨e,c,hh⟩:=tab_block h hn;refine⟨?_,zs.map (Value.int k),hr,λj u hu => ?_,e,c,hh⟩
 .show n<W.heap.size;rcases Nat.lt_or_ge n W.heap.size with h'|h'
  .exact h'
  .rw[Array.getElem?_eq_none h']at hh;cases hh
 .show W.cell? ⟨n,j,none⟩=some u;rw[cell_of_row W n j _ e c hh,List.getElem?_toArray];exact hu
theorem seat_glob{W:World}(h:laidMetH Tryz.prog laidAll W):Glo te (dw_ W):=by
 have hm:=(laidMetH_iff.1 h).1
 have h1 : laidMet Tryz.prog (("filespace/hash.rounds", Lib.tabData .u32 glob0.l) :: []) W := by
  have := hm.filter (fun x => x.1 == "filespace/hash.rounds")
  have e : ((laidAll.filter fun x => x.2.handleName?.isNone).filter fun x => x.1 == "filespace/hash.rounds") = [("filespace/hash.rounds", Lib.tabData .u32 glob0.l)] := by kernel_rfl
  rw[e]at this;exact this
 have h2 : laidMet Tryz.prog (("internal/strconv.uint64pow10", Lib.tabData .u64 powL) :: []) W := by
  have := hm.filter (fun x => x.1 == "internal/strconv.uint64pow10")
  have e : ((laidAll.filter fun x => x.2.handleName?.isNone).filter fun x => x.1 == "internal/strconv.uint64pow10") = [("internal/strconv.uint64pow10", Lib.tabData .u64 powL)] := by kernel_rfl
  rw[e]at this;exact this
 have hT:=Lib.tabIs_of_head (P:=Tryz.prog) (g:=3) (t:=353) (e:=306) (n:=64) (by kernel_rfl) (by kernel_rfl) (by kernel_rfl) (by kernel_rfl) (by kernel_rfl) (by kernel_rfl) h1;have hP:=Lib.tabIs_of_head (P:=Tryz.prog) (g:=0) (t:=308) (e:=267) (n:=20) (by kernel_rfl) (by kernel_rfl) (by kernel_rfl) (by kernel_rfl) (by kernel_rfl) (by kernel_rfl) h2;intro n t x e;rcases n with _|_|_|_|n
 .have e2:(⟨globPT,globP⟩:Sigma λt:Ty=>Den te.S t)=⟨t,x⟩:=qSj e;cases e2
  exact tab_glo hP (by kernel_rfl) (.int (.int (.int (.int (.int (.int (.int (.int (.int (.int (.int (.int (.int (.int (.int (.int (.int (.int (.int (.int .nil))))))))))))))))))))
 .cases e
 .cases e
 .have e2:(⟨glob0T,glob0⟩:Sigma λt:Ty=>Den te.S t)=⟨t,x⟩:=qSj e;cases e2
  exact tab_glo hT (by kernel_rfl) (.int (.int (.int (.int (.int (.int (.int (.int (.int (.int (.int (.int (.int (.int (.int (.int (.int (.int (.int (.int (.int (.int (.int (.int (.int (.int (.int (.int (.int (.int (.int (.int (.int (.int (.int (.int (.int (.int (.int (.int (.int (.int (.int (.int (.int (.int (.int (.int (.int (.int (.int (.int (.int (.int (.int (.int (.int (.int (.int (.int (.int (.int (.int (.int .nil))))))))))))))))))))))))))))))))))))))))))))))))))))))))))))))))
 .cases e
theorem door_met(os:Os)(args:Array Value):laidMetH Tryz.prog laidAll ((World.doorLaid Tryz.prog 29 os).forCall (λ_ _=>0) ⟨#[],args,[]⟩).memory :=
 laidMetH_of_parts3 (fuel:=8) (laidMet_of_run' 8 (by kernel_rfl) (by kernel_rfl)) (by kernel_rfl) (by kernel_rfl)
end Go.Proofs.YtebokaoegomboaaGreatDoor
namespace Go
namespace Rt
open Go.RowKit Go.Shelf Go.Sort Go.Proofs Go.Lib
section
variable{P:Program}{E:TE}{z:Fz}{g:Ga}{w w' w0:World}{Bs:List Nat}{F0:Nat->Prop}
theorem splice_nil(cs:List Value)(o:Nat):splice cs o []=cs:=by
 simp[splice]
theorem splice_cons(cs:List Value)(o:Nat)(v:Value)(vs:List Value)(h:o<cs.length):splice (cs.set o v) (o+1) vs=splice cs o (v::vs):=by
 unfold splice;rw[List.take_set,List.take_succ_eq_append_getElem h,List.drop_set_of_lt (by omega),List.set_append_right _ _ (by rw[List.length_take];omega),List.length_take,Nat.min_eq_left (by omega)];simp;rw[show o+1+vs.length=o+(vs.length+1)by omega]
theorem setCell_heap{b o:Nat}{e:TypeId}{cs:List Value}{v:Value}(h:w.heap[b]? = some (.cells cs.toArray e (0,0))):(w.setCell ⟨b,o,none⟩ v).heap[b]? = some (.cells (cs.set o v).toArray e (0,0)):=by
 unfold World.setCell;simp only[Array.getElem?_modify,if_true,h,Option.map_some,Option.isSome_none,Bool.false_eq_true,if_false];simp
theorem setCell_else{b o k:Nat}{v:Value}(h:k≠b):(w.setCell ⟨b,o,none⟩ v).heap[k]? = w.heap[k]? := by
 unfold World.setCell;simp only[Array.getElem?_modify];rw[if_neg λe=>h e.symm]
theorem setCell_grow{b o:Nat}{v:Value}:Grow w (w.setCell ⟨b,o,none⟩ v):=⟨rfl,rfl,rfl,by simp[World.setCell]⟩
theorem dM_{b:Nat}{e:TypeId}:∀(vs:List Value) (o:Nat) (cs:List Value) (w:World),w.heap[b]? = some (.cells cs.toArray e (0,0))->o+vs.length<=cs.length->(w.setCells b o vs).heap[b]? = some (.cells (splice cs o vs).toArray e (0,0))/\Grow w (w.setCells b o vs)/\∀k,k≠b->(w.setCells b o vs).heap[k]? = w.heap[k]?
 | [],o,cs,w,h,hl=>⟨by rw[splice_nil];exact h,Grow.refl w,λ_ _=>rfl⟩
 | v::vs,o,cs,w,h,hl=>by
  simp only[qLc]at hl;obtain⟨h1,h2,h3⟩:=dM_ vs (o+1) (cs.set o v) (w.setCell ⟨b,o,none⟩ v) (setCell_heap h) (by simp;omega);rw[splice_cons _ _ _ _ (by omega)]at h1;exact⟨h1,setCell_grow.trans h2,λk hk=>(h3 k hk).trans (setCell_else hk)⟩
def IV(xs:List Int):List Value:=xs.map (Value.int .i64)
theorem aY_(xs:List Int):(IV xs).length=xs.length:=by simp[IV]
theorem i2_{xs:List Int}:∀v∈IV xs,v.oneCell'=true:=λv hv=>by
 obtain⟨x,_,rfl⟩:=List.mem_map.1 hv;rfl
def RowI(w:World)(e:TypeId)(xs:List Int)(A:Option Addr)(cap:Nat):Prop:=(A=none/\cap=0/\xs=[])\/∃b cs,A=some ⟨b,0,none⟩/\w.heap[b]? = some (.cells (cs:List Value).toArray e (0,0))/\xs.length<=cap/\cap<=maxLen/\cs.length=cap/\cs.take xs.length=IV xs
theorem rows_IV{xs:List Int}{rows:List (List Value)}(h:Rows E z (.int .i64) xs rows)(hl:rows.length=xs.length):rows.flatten=IV xs:=by
 have:rows=xs.map λx=>[Value.int .i64 x]:=by
  apply List.ext_getElem?;intro i;rw[List.getElem?_map];rcases Nat.lt_or_ge i xs.length with hi|hi
  .have hx:=List.getElem?_eq_getElem hi;have hr:=List.getElem?_eq_getElem (show i<rows.length by omega);obtain⟨vs,h1,h2⟩:=RD.int_inv (show RD E z [.int .i64] (xs[i],()) rows[i]from h i _ _ hx hr);rw[hr,hx,h1,h2.nil_inv];rfl
  .rw[List.getElem?_eq_none (by omega),List.getElem?_eq_none hi];rfl
 rw[this];clear this h hl
 induction xs with
 | nil=>rfl
 | cons x xs ih=>simp only[List.map_cons,List.flatten_cons,ih];rfl
theorem rowI_of{id:Nat}{e:TypeId}{xs:List Int}(h:ObjR P E z g w id (.row e (.int .i64) xs [])):∃l,g id=some l/\l.n=xs.length/\RowI w e xs l.A l.cap:=by
 obtain⟨l,rows,h1,hn,hc,hown,hlen,hrl,hrows,_⟩:=h;have hc1:l.c=1:=hc;rw[hc1,rows_IV hrows (by omega)]at hown;refine⟨l,h1,hn,?_⟩;obtain⟨_,h2⟩:=hown;rcases h2 with⟨h2,h3⟩|⟨b,cap,cur,hv,_,hh,hnc,hcm,hcs,htk⟩
 .injection h2 with e1 e2 e3;exact .inl ⟨e1,e3,List.length_eq_zero_iff.1 (by omega)⟩
 .injection hv with e1 _ e3;subst e3;exact .inr ⟨b,cur.toList,e1,by simpa using hh,by omega,hcm,by simpa using hcs,by rw[Nat.mul_one,hn]at htk;exact htk⟩
theorem rowI_mk{id:Nat}{e:TypeId}{xs:List Int}{A:Option Addr}{cap:Nat}(h:RowI w e xs A cap)(hg:g id=some ⟨A,xs.length,cap,1,0,0⟩):ObjR P E z g w id (.row e (.int .i64) xs []):=by
 have hfl:(xs.map λx=>[Value.int .i64 x]).flatten=IV xs:=by
  clear h hg
  induction xs with
  | nil=>rfl
  | cons x xs ih=>simp only[List.map_cons,List.flatten_cons,ih];rfl
 refine⟨_,xs.map λx=>[Value.int .i64 x],hg,rfl,rfl,?_,by simp,λr hr => ?_,λi x r hx hr => ?_,λp hp=>nomatch hp⟩
 .rw[hfl];refine⟨by simp[aY_],?_⟩;rcases h with⟨rfl,rfl,rfl⟩|⟨b,cs,rfl,hh,h1,h2,h3,h4⟩
  .exact .inl ⟨rfl,rfl⟩
  .exact .inr ⟨b,cap,cs.toArray,rfl,Nat.zero_le _,hh,h1,h2,by simpa using h3,by rw[Nat.mul_one];exact h4⟩
 .obtain⟨x,_,rfl⟩:=List.mem_map.1 hr;rfl
 .rw[List.getElem?_map]at hr;rw[hx]at hr;obtain rfl:=qSj hr;exact RD.int .nil
theorem RowI.cell{e:TypeId}{xs:List Int}{b cap:Nat}(h:RowI w e xs (some ⟨b,0,none⟩) cap){j:Nat}{v:Value}(hj:(IV xs)[j]? = some v):w.cell? ⟨b,0+j,none⟩=some v:=by
 rcases h with⟨h,_⟩|⟨b',cs,h0,hh,h1,h2,h3,h4⟩
 .cases h
 .injection h0 with h0;injection h0 with h0;subst h0;rw[Nat.zero_add,cell_of_row w b j _ e (0,0) hh];rw[←h4,List.getElem?_take]at hj;split at hj
  .simpa using hj
  .cases hj
theorem HR.rowI{e:TypeId}{xs zs:List Int}{i i':Nat}{H H':Nat->Option (Obj E)}{A A':Option Addr}{cap':Nat}{l:Loc}(h:HR P E Bs F0 w0 w z g H)(hi:H i=some (.row e (.int .i64) xs []))(hl:g i=some l)(hA:l.A=A)(hn:g i'=none)
  (hb:Grow w w') (hk:∀k,k<w.heap.size->¬cb_ A k->w'.heap[k]? = w.heap[k]?) (hr:RowI w' e zs A' cap') (hf:∀k,cb_ A' k->cb_ A k\/w.heap.size<=k)
  (hH:∀j o,H' j=some o->j=i'/\o = .row e (.int .i64) zs []):HR P E Bs F0 w0 w' z (g.put i' ⟨A',zs.length,cap',1,0,0⟩) H':=by
 refine h.turn (Ga.le_put hn) (i:=i) (i':=i') (C:=cb_ A) (λq ⟨a,ha,hq⟩=>⟨_,hi,l,a,hl,hA.trans ha,hq⟩) hb hk (o' := .row e (.int .i64) zs []) (rowI_mk hr (Ga.put_self _ _ _)) (λq hq => ?_) λj p hj => .inl (hH j p hj)
 obtain⟨l2,a2,h5,h6,rfl⟩:=hq;rw[Ga.put_self]at h5;obtain rfl:=qSj h5;exact hf _ ⟨a2,h6,rfl⟩
theorem oZ_(k:Nat):(Builtin.zeroCells (Value.int .i64 0).cells k).size=k:=by simp[Builtin.zeroCells,Value.cells]
theorem o0_{e:TypeId}{xs:List Int}{Z:Array Value}{G:Nat}(h1:xs.length+Z.size=G)(h2:G<=maxLen):RowI (w.drew.alloc (.cells ((IV xs).toArray++Z) e)) e xs (some ⟨w.heap.size,0,none⟩) G :=
 .inr ⟨w.heap.size,IV xs++Z.toList,rfl,by refine(MapKept.heap_alloc w.drew _).1.trans ?_;congr 3;apply Array.ext';simp,by omega,h2,by simp[aY_];exact h1,by rw[List.take_append_of_le_length (by rw[aY_];exact Nat.le_refl _),List.take_of_length_le (by rw[aY_];exact Nat.le_refl _)]⟩
theorem o1_(o:Go.Obj):Grow w (w.drew.alloc o):=(show Grow w w.drew from⟨rfl,rfl,rfl,Nat.le_refl _⟩).trans (Grow.of_below (Ext.one w.drew _).below)
theorem insert_run{ρ:Ren}(L:Lays2.n21 P ρ){xs ys:List Int}{A:Option Addr}{cap vb vc:Nat}{i:Nat}(hx:RowI w (ρ.t 3) xs A cap)(hy:RowI w (ρ.t 3) ys (some ⟨vb,0,none⟩) vc)(hm:0<ys.length)(hi:i<=xs.length)(hbig:(xs.length+ys.length)*8<=140737488355328)(hap:¬cb_ A vb) :
  Ret P (ρ.f 21) #[.slice A xs.length cap,.int .i64 (i:Int),.slice (some ⟨vb,0,none⟩) ys.length vc] w λv w'=>∃A' cap',v = .slice A' (xs.take i++(ys++xs.drop i)).length cap'/\RowI w' (ρ.t 3) (xs.take i++(ys++xs.drop i)) A' cap'/\Grow w w'/\(∀k,k<w.heap.size->¬cb_ A k->w'.heap[k]? = w.heap[k]?)/\∀k,cb_ A' k->cb_ A k\/w.heap.size<=k:=by
 have hlen:(xs.take i++(ys++xs.drop i)).length=xs.length+ys.length:=by simp;omega
 have hyc:=λj v (h:(IV ys)[j]? = some v)=>hy.cell h
 have hml:xs.length+ys.length<=maxLen:=by unfold maxLen;omega
 rcases hx with⟨rfl,rfl,rfl⟩|⟨b,cs,rfl,hh,h1,h2,h3,h4⟩
 .obtain rfl:i=0:=by simpa using hi
  have:=Any2.slices_Insert_int_end_grow L none 0 0 vb 0 ys.length vc [] (IV ys) w hm (Nat.le_refl _) (by omega) (by simpa using hbig) rfl (aY_ _) (λ_=>rfl) (λ_ h=>nomatch h) hyc i2_;refine Calls.mono this λe w' ⟨he,hw⟩=>⟨_,he,some ⟨w.heap.size,0,none⟩,grownCap w (0+ys.length) 0 (ρ.t 3),by rw[hlen];rfl,?_,?_,λk hk _ => ?_,λk ⟨a,ha,hk⟩ => ?_⟩
  .subst hw;have:=grownCap_ge w (0+ys.length) 0 (ρ.t 3);rw[show([]:List Int).take 0++(ys++([]:List Int).drop 0)=ys by simp];refine o0_ (xs:=ys) ?_ (grownCap_le_maxLen _ _ _ _ (show 0+ys.length<=maxLen by rw[Nat.zero_add];simpa using hml));rw[oZ_]
   revert this;generalize grownCap w (0+ys.length) 0 (ρ.t 3)=G;omega
  .subst hw;exact o1_ _
  .subst hw;exact(MapKept.heap_alloc w.drew _).2 k hk
  .obtain rfl:=qSj ha;exact .inr (by subst hk;exact Nat.le_refl _)
 .have hbw:b<w.heap.size:=by
   rcases Nat.lt_or_ge b w.heap.size with h'|h'
   .exact h'
   .rw[Array.getElem?_eq_none h']at hh;cases hh
  have hxc:∀j v,(IV xs)[j]? = some v->w.cell? ⟨b,0+j,none⟩=some v:=λj v h=>RowI.cell (.inr ⟨b,cs,rfl,hh,h1,h2,h3,h4⟩) h
  have hvb:vb≠b:=λh=>hap ⟨_,rfl,h⟩
  have hsome:∀j,j<cap->(w.cell? ⟨b,0+j,none⟩).isSome=true:=λj hj=>by
   rw[Nat.zero_add,cell_of_row w b j _ _ (0,0) hh];simp;omega
  have hfz:∀j,w.frozen? ⟨b,j,none⟩=false:=λj=>by unfold World.frozen?;simp only[hh];simp
  have hkk:∀{w':World},(∀k,k≠b->w'.heap[k]? = w.heap[k]?)->∀k,k<w.heap.size->¬cb_ (some ⟨b,0,none⟩) k->w'.heap[k]? = w.heap[k]? := λh k _ hk=>h k λe=>hk ⟨_,rfl,e⟩
  have hcap63:cap<=9223372036854775807:=by unfold maxLen at h2;omega
  have hcs:cs=IV xs++cs.drop xs.length:=by rw[←h4,List.take_append_drop]
  rcases Nat.lt_or_ge i xs.length with hlt|hge
  .rcases Nat.lt_or_ge cap (xs.length+ys.length)with hroom|hroom
   .have:=Any2.slices_Insert_int_grow L b 0 xs.length cap i vb 0 ys.length vc (IV xs) (IV ys) w hlt hm h1 hroom hbig (aY_ _) (aY_ _) hxc hyc i2_ i2_;obtain⟨G,hG⟩:∃G,G=grownCap w (xs.length+ys.length) cap (ρ.t 3):=⟨_,rfl⟩;have hGn:xs.length+ys.length<=G:=by rw[hG];exact grownCap_ge w _ _ _
    have hGm:G<=maxLen:=by rw[hG];exact grownCap_le_maxLen _ _ _ _ hml
    rw[←hG]at this;obtain⟨row,hrow⟩:∃row:List Value,row.toArray=((IV xs).take i).toArray++Builtin.zeroCells (Value.int .i64 0).cells (xs.length+ys.length-i)++Builtin.zeroCells (Value.int .i64 0).cells (G-(xs.length+ys.length)):=⟨_,Array.toArray_toList⟩;have hrl:row.length=G:=by
     have:=congrArg Array.size hrow;simp[Builtin.zeroCells,Value.cells,aY_]at this;omega
    have hrt:row.take i=(IV xs).take i:=by
     have:=congrArg Array.toList hrow;simp only[Array.toList_append,List.append_assoc]at this;rw[this,List.take_append_of_le_length (by simp[aY_];omega),List.take_of_length_le (by rw[List.length_take];omega)]
    rw[←hrow]at this;refine Calls.mono this λe w' ⟨he,hw⟩ => ?_
    have a1:=MapKept.heap_alloc w (.cells row.toArray (ρ.t 3));obtain⟨a2,a3,a4⟩:=dM_ (b:=w.heap.size) (e:=ρ.t 3) (IV ys) i row ((w.alloc (.cells row.toArray (ρ.t 3))).drew) a1.1 (by rw[aY_,hrl];omega);obtain⟨a5,a6,a7⟩:=dM_ (b:=w.heap.size) (e:=ρ.t 3) ((IV xs).drop i) (i+ys.length) _ (((w.alloc (.cells row.toArray (ρ.t 3))).drew.setCells w.heap.size i (IV ys)).drew) a2 (by simp[splice,aY_,hrl];omega);rw[←hw]at a5 a6 a7;refine⟨_,he,some ⟨w.heap.size,0,none⟩,G,by rw[hlen],.inr ⟨w.heap.size,_,rfl,a5,by rw[hlen];exact hGn,hGm,?_,?_⟩,?_,λk hk _ => ?_,λk ⟨a,ha,hk⟩ => ?_⟩
    .simp[splice,aY_,hrl];omega
    .rw[hlen];simp only[splice,hrt,aY_,List.length_drop];have e1:((IV xs).take i++IV ys++row.drop (i+ys.length)).take (i+ys.length)=(IV xs).take i++IV ys:=by
      rw[List.take_append_of_le_length (by simp[aY_];omega),List.take_of_length_le (by simp[aY_];omega)]
     rw[e1,List.take_append_of_le_length (by simp[aY_];omega),List.take_of_length_le (by simp[aY_];omega)];simp[IV]
    .exact(Grow.of_below (Ext.one w _).below).trans ((show Grow (w.alloc _) (w.alloc _).drew from⟨rfl,rfl,rfl,Nat.le_refl _⟩).trans (a3.trans ((show Grow (World.setCells _ _ _ _) (World.setCells _ _ _ _).drew from⟨rfl,rfl,rfl,Nat.le_refl _⟩).trans a6)))
    .have hne:k≠w.heap.size:=by omega
     exact(a7 k hne).trans ((a4 k hne).trans (a1.2 k hk))
    .obtain rfl:=qSj ha;exact .inr (by subst hk;exact Nat.le_refl _)
   .have hy':=hy;rcases hy' with⟨h,_⟩|⟨vb',vs,e0,hvh,v1,v2,v3,v4⟩
    .cases h
    .injection e0 with e0;injection e0 with e0;subst e0;have hsh:∀{q:Nat} {l:List Value},w.heap[q]? = some (.cells l.toArray (ρ.t 3) (0,0))->w.shape? q=some (ρ.t 3,l.length):=λh=>by unfold World.shape?;simp[h]
     have hfz2:∀j,w.frozen? ⟨vb,j,none⟩=false:=λj=>by unfold World.frozen?;simp only[hvh];simp
     have:=Any2.slices_Insert_int_shift L b 0 xs.length cap i vb 0 ys.length vc (IV xs) (IV ys) w hlt hm hroom hcap63 hvb (aY_ _) (aY_ _) hxc (λj hj=>hsome j (by omega)) (λj _=>hfz _) hyc i2_ i2_ _ _ _ _ (hsh hvh) (hsh hh) (by omega) (hfz2 _) (hfz2 _);refine Calls.mono this λe w' ⟨he,hw⟩ => ?_
     obtain⟨a2,a3,a4⟩:=dM_ (b:=b) (e:=ρ.t 3) ((IV xs).drop i) (0+(i+ys.length)) cs w.drew hh (by simp[aY_];omega);obtain⟨a5,a6,a7⟩:=dM_ (b:=b) (e:=ρ.t 3) (IV ys) (0+i) _ _ a2 (by simp[splice,aY_];omega);rw[←hw]at a5 a6 a7;refine⟨_,he,some ⟨b,0,none⟩,cap,by rw[hlen],.inr ⟨b,_,rfl,a5,by rw[hlen];exact hroom,h2,?_,?_⟩,?_,hkk λk hk => ?_,λk hk => .inl hk⟩
     .simp[splice,aY_];omega
     .rw[hlen];simp only[splice,aY_,Nat.zero_add,List.length_drop];have e0:∀(l:List Value),((cs.take (i+ys.length))++l).take i=(IV xs).take i:=λl=>by
       rw[List.take_append_of_le_length (by simp;omega),List.take_take,Nat.min_eq_left (by omega),←h4,List.take_take,Nat.min_eq_left (by omega)]
      have e2:((cs.take (i+ys.length))++(IV xs).drop i++cs.drop (i+ys.length+(xs.length-i))).drop (i+ys.length)=(IV xs).drop i++cs.drop (i+ys.length+(xs.length-i)):=by
       rw[List.append_assoc];exact List.drop_left' (by simp;omega)
      rw[e2,List.append_assoc (cs.take _),e0,List.append_assoc,←List.append_assoc (IV ys),←List.append_assoc,List.take_append_of_le_length (by simp[aY_];omega),List.take_of_length_le (by simp[aY_];omega)];simp[IV]
     .exact(show Grow w w.drew from⟨rfl,rfl,rfl,Nat.le_refl _⟩).trans (a3.trans a6)
     .exact(a7 k hk).trans (a4 k hk)
  .obtain rfl:i=xs.length:=by omega
   rcases Nat.lt_or_ge cap (xs.length+ys.length)with hroom|hroom
   .have:=Any2.slices_Insert_int_end_grow L (some ⟨b,0,none⟩) xs.length cap vb 0 ys.length vc (IV xs) (IV ys) w hm h1 hroom hbig (aY_ _) (aY_ _) (λh=>nomatch h) (λa ha j v hj=>by obtain rfl:=qSj ha;rw[Addr.add_lit];exact hxc j v hj) hyc i2_;obtain⟨G,hG⟩:∃G,G=grownCap w (xs.length+ys.length) cap (ρ.t 3):=⟨_,rfl⟩;have hGn:xs.length+ys.length<=G:=by rw[hG];exact grownCap_ge w _ _ _
    have hGm:G<=maxLen:=by rw[hG];exact grownCap_le_maxLen _ _ _ _ hml
    rw[←hG]at this;have e0:IV xs++IV ys=IV (xs++ys):=by simp[IV]
    have e1:xs.take xs.length++(ys++xs.drop xs.length)=xs++ys:=by simp
    rw[e0]at this;rw[e1];refine Calls.mono this λe w' ⟨he,hw⟩=>⟨_,he,some ⟨w.heap.size,0,none⟩,G,by rw[qLa],?_,?_,λk hk _ => ?_,λk ⟨a,ha,hk⟩ => ?_⟩
    .subst hw;exact o0_ (by rw[oZ_,qLa];omega) hGm
    .subst hw;exact o1_ _
    .subst hw;exact(MapKept.heap_alloc w.drew _).2 k hk
    .obtain rfl:=qSj ha;exact .inr (by subst hk;exact Nat.le_refl _)
   .have:=Any2.slices_Insert_int_end_room L b 0 xs.length cap vb 0 ys.length vc (IV ys) w hm hroom hcap63 (aY_ _) (λj hj=>by rw[Nat.add_assoc];exact hsome _ (by omega)) (λj _=>hfz _) hyc i2_;refine Calls.mono this λe w' ⟨he,hw⟩ => ?_
    obtain⟨a2,a3,a4⟩:=dM_ (b:=b) (e:=ρ.t 3) (IV ys) (0+xs.length) cs w hh (by simp[aY_];omega);rw[←hw]at a2 a3 a4;refine⟨_,he,some ⟨b,0,none⟩,cap,by rw[hlen],.inr ⟨b,_,rfl,a2,by rw[hlen];exact hroom,h2,?_,?_⟩,a3,hkk a4,λk hk => .inl hk⟩
    .simp[splice,aY_];omega
    .rw[hlen];simp only[splice,Nat.zero_add];rw[List.take_append_of_le_length (by simp[aY_];omega),List.take_of_length_le (by simp only[qLa,List.length_take,aY_];omega),h4];simp[IV]
theorem insN_some{α:Type}{by_:Nat}{xs ys zs:List α}{i:Int}(h:insN by_ xs i ys=some zs):0<ys.length/\0<=i/\i<=(xs.length:Int)/\(xs.length+ys.length)*by_<=140737488355328/\zs=xs.take i.toNat++(ys++xs.drop i.toNat):=by
 cases ys with
 | nil=>cases h
 | cons y l =>
  simp only[insN]at h;split at h
  .rename_i hc;obtain rfl:=qSj h;exact⟨Nat.succ_pos _,hc.1,hc.2.1,hc.2.2,rfl⟩
  .cases h
def conIns(E:TE)(e:TypeId):Con E:=ag_ E [.g (.sl (.int .i64)) [some e],.d (.int .i64),.g (.sl (.int .i64)) [some e]] [(.sl (.int .i64),[some e])] false λa=>insN (α:=Int) 8 a.1 a.2.1 a.2.2.1
theorem conIns_ok{ρ:Ren}(L:Lays2.n21 P ρ):Con.OK P E (ρ.f 21) (conIns E (ρ.t 3)):=by
 intro R a k r hr;obtain⟨y,h1,h2⟩:=bind_some hr;refine⟨_,_,h2,?_⟩;obtain⟨xs,i,ys,u⟩:=a;obtain⟨hm,hi0,hi1,hbig,rfl⟩:=insN_some (show insN 8 xs i ys=some y from h1);intro w z g Bs svs vs hav hH hfr hv;obtain rfl:=qSj (show some [V1.one (.own 0),.one (.dt (.int .i64) i),.one (.own 1)]=some svs from hav);cases hv with
 | cons v1 hv=>cases hv with
  | cons v2 hv=>cases hv with
   | cons v3 hv =>
    cases hv
    have hx:=hH.hold 0 (.row (ρ.t 3) (.int .i64) xs []) rfl;have hy:=hH.hold 1 (.row (ρ.t 3) (.int .i64) ys []) rfl;obtain⟨l0,g0,n0,r0⟩:=rowI_of hx;obtain⟨l1,g1,n1,r1⟩:=rowI_of hy;obtain⟨l0',e0,rfl⟩:=v1;rw[g0]at e0;obtain rfl:=qSj e0;obtain⟨l1',e1,rfl⟩:=v3;rw[g1]at e1;obtain rfl:=qSj e1;obtain⟨vs2,e2,_⟩:=RD.int_inv (show RD E z [.int .i64] (i,()) _ from v2);obtain⟨rfl,_⟩:=List.cons.inj e2;rcases r1 with⟨_,_,rfl⟩|r1'
    .cases hm
    .have r1'':=r1';obtain⟨vb,cs,hA1,_⟩:=r1'';have hap:¬cb_ l0.A vb:=λ⟨a0,ha0,hb0⟩=>hH.apart 0 1 _ _ vb (by decide) rfl rfl ⟨l0,a0,g0,ha0,hb0⟩ ⟨l1,_,g1,hA1,rfl⟩
     have hrun:=insert_run L r0 (by rw[←hA1];exact .inr r1') hm (i:=i.toNat) (by omega) hbig hap;rw[n0,n1,hA1];rw[Int.toNat_of_nonneg hi0]at hrun;refine hrun.mono λv w' ⟨A',cap',hv',hr',hg',hk',hf'⟩ => ?_
     subst hv';refine⟨z,g.put 2 ⟨A',_,cap',1,0,0⟩,[.one (.own 2)],Fz.Le.refl z,λ_=>rfl,Ga.le_put (hfr 2 (Nat.le_refl _)),rfl,⟨_,Ga.put_self _ _ _,rfl⟩,?_⟩;refine hH.rowI (i:=0) (xs:=xs) rfl g0 rfl (hfr 2 (Nat.le_refl _)) hg' hk' hr' hf' λj o hj => ?_
     rcases bA_ (H:=λ_=>none) (i:=2) (p := .row (ρ.t 3) (.int .i64) (xs.take i.toNat++(ys++xs.drop i.toNat)) []) hj with h|⟨_,h⟩
     .exact h
     .cases h
end
end Rt
end Go
namespace Go.Proofs
open Go.Shelf
end Go.Proofs
namespace Go.Proofs.YtebokaoegomboaaGreatDoor
open Go.Shelf Go.RowKit Go.Rt
end Go.Proofs.YtebokaoegomboaaGreatDoor
namespace Go.Proofs
open Go.Shelf
def Tryz.laysFormatInt_ren:Go.Shelf.Ren:=⟨λ | 173=>133 | 246=>196 | 283=>265 | 284=>266 | 285=>267 | 286=>268 | 129=>320 | 317=>321 | 318=>322 | 319=>323 | 320=>324 | 337=>352 | 338=>353|n=>n,λ | 2=>2 | 3=>3 | 9=>9 | 4=>4 | 171=>266 | 0=>0 | 53=>267 | 37=>235 | 5=>5 | 173=>270 | 212=>308 | 51=>306 | 20=>20 | 213=>309 | 46=>265 | 232=>350 | 233=>351|n=>n,λ | 17=>0 | 18=>1 | 19=>2|n=>n⟩
theorem Tryz.laysFormatInt:Go.Proofs.LaysM.n173 Tryz.prog Tryz.laysFormatInt_ren:={
 mixed:=by kernel_rfl
 f129:=Tryz.func320.trans (congrArg some (by kernel_rfl))
 f173:=Tryz.func133.trans (congrArg some (by kernel_rfl))
 f246:=Tryz.func196.trans (congrArg some (by kernel_rfl))
 f283:=Tryz.func265.trans (congrArg some (by kernel_rfl))
 f284:=Tryz.func266.trans (congrArg some (by kernel_rfl))
 f285:=Tryz.func267.trans (congrArg some (by kernel_rfl))
 f286:=Tryz.func268.trans (congrArg some (by kernel_rfl))
 f317:=Tryz.func321.trans (congrArg some (by kernel_rfl))
 f318:=Tryz.func322.trans (congrArg some (by kernel_rfl))
 f319:=Tryz.func323.trans (congrArg some (by kernel_rfl))
 f320:=Tryz.func324.trans (congrArg some (by kernel_rfl))
 f337:=Tryz.func352.trans (congrArg some (by kernel_rfl))
 f338:=Tryz.func353.trans (congrArg some (by kernel_rfl))
 t0:=Tryz.underlying0
 a0:=Tryz.isAgg0
 z0:=Tryz.sizeOf0
 v0:=Tryz.zeroValue0
 t2:=Tryz.underlying2
 a2:=Tryz.isAgg2
 z2:=Tryz.sizeOf2
 v2:=Tryz.zeroValue2
 t3:=Tryz.underlying3
 a3:=Tryz.isAgg3
 z3:=Tryz.sizeOf3
 v3:=Tryz.zeroValue3
 t4:=Tryz.underlying4
 a4:=Tryz.isAgg4
 z4:=Tryz.sizeOf4
 v4:=Tryz.zeroValue4
 t5:=Tryz.underlying5
 a5:=Tryz.isAgg5
 z5:=Tryz.sizeOf5
 v5:=Tryz.zeroValue5
 t9:=Tryz.underlying9
 a9:=Tryz.isAgg9
 z9:=Tryz.sizeOf9
 v9:=Tryz.zeroValue9
 t20:=Tryz.underlying20
 a20:=Tryz.isAgg20
 z20:=Tryz.sizeOf20
 v20:=Tryz.zeroValue20
 t37:=Tryz.underlying235
 a37:=Tryz.isAgg235
 z37:=Tryz.sizeOf235
 v37:=Tryz.zeroValue235
 t46:=Tryz.underlying265
 a46:=Tryz.isAgg265
 z46:=Tryz.sizeOf265
 v46:=Tryz.zeroValue265
 t51:=Tryz.underlying306
 a51:=Tryz.isAgg306
 z51:=Tryz.sizeOf306
 v51:=Tryz.zeroValue306
 t53:=Tryz.underlying267
 a53:=Tryz.isAgg267
 z53:=Tryz.sizeOf267
 v53:=Tryz.zeroValue267
 t171:=Tryz.underlying266
 a171:=Tryz.isAgg266
 z171:=Tryz.sizeOf266
 v171:=Tryz.zeroValue266
 t173:=Tryz.underlying270
 a173:=Tryz.isAgg270
 z173:=Tryz.sizeOf270
 v173:=Tryz.zeroValue270
 t212:=Tryz.underlying308
 a212:=Tryz.isAgg308
 z212:=Tryz.sizeOf308
 v212:=Tryz.zeroValue308
 t213:=Tryz.underlying309
 a213:=Tryz.isAgg309
 z213:=Tryz.sizeOf309
 t232:=Tryz.underlying350
 a232:=Tryz.isAgg350
 z232:=Tryz.sizeOf350
 v232:=Tryz.zeroValue350
 t233:=Tryz.underlying351
 a233:=Tryz.isAgg351
 z233:=Tryz.sizeOf351
 v233:=Tryz.zeroValue351
 g17:=by kernel_rfl
 g18:=by kernel_rfl
 g19:=by kernel_rfl
 i0:=by kernel_rfl
 i2:=by kernel_rfl
 i3:=by kernel_rfl
 i4:=by kernel_rfl
 i5:=by kernel_rfl
 i9:=by kernel_rfl
 i20:=by kernel_rfl
 i37:=by kernel_rfl
 i46:=by kernel_rfl
 i51:=by kernel_rfl
 i53:=by kernel_rfl
 i171:=by kernel_rfl
 i173:=by kernel_rfl
 i212:=by kernel_rfl
 i232:=by kernel_rfl
 i233:=by kernel_rfl
 m17:=by kernel_rfl
 m18:=by kernel_rfl
 m19:=by kernel_rfl }
end Go.Proofs
namespace Go.Proofs.YtebokaoegomboaaGreatDoor
open Go.Shelf Go.RowKit Go.Rt
theorem fFormatInt:Tryz.laysFormatInt_ren.f 173=133:=by kernel_rfl
theorem digF_eq:∀(f u:Nat),u<10^(f+1)->digF (f+1) u=Lib.decDigits u
 | 0,u,h=>by
  have h1:u<10:=by simpa using h
  rw[Lib.decDigits,dif_pos h1];unfold digF;rw[if_pos h1]
 | f+1,u,h=>by
  rw[Lib.decDigits,digF];by_cases h1:u<10
  .rw[if_pos h1,dif_pos h1]
  .rw[if_neg h1,dif_neg h1,digF_eq f (u/10) (by rw[Nat.pow_succ]at h;omega)]
theorem pow10_in {w : World} {z : Fz} (hz : z.In w) (hg : Glo te z) : Lib.TabIs Tryz.prog w "internal/strconv.uint64pow10" .u64 Lib.pow10Tab := by
 obtain⟨hF,r,hr,_,e,c,hh⟩:=hg 0 globPT globP rfl;obtain⟨v1,e1,hr⟩:=RD.int_inv hr;obtain⟨v2,e2,hr⟩:=RD.int_inv hr;obtain⟨v3,e3,hr⟩:=RD.int_inv hr;obtain⟨v4,e4,hr⟩:=RD.int_inv hr;obtain⟨v5,e5,hr⟩:=RD.int_inv hr;obtain⟨v6,e6,hr⟩:=RD.int_inv hr;obtain⟨v7,e7,hr⟩:=RD.int_inv hr;obtain⟨v8,e8,hr⟩:=RD.int_inv hr;obtain⟨v9,e9,hr⟩:=RD.int_inv hr;obtain⟨v10,e10,hr⟩:=RD.int_inv hr;obtain⟨v11,e11,hr⟩:=RD.int_inv hr;obtain⟨v12,e12,hr⟩:=RD.int_inv hr;obtain⟨v13,e13,hr⟩:=RD.int_inv hr;obtain⟨v14,e14,hr⟩:=RD.int_inv hr;obtain⟨v15,e15,hr⟩:=RD.int_inv hr;obtain⟨v16,e16,hr⟩:=RD.int_inv hr;obtain⟨v17,e17,hr⟩:=RD.int_inv hr
 obtain⟨v18,e18,hr⟩:=RD.int_inv hr;obtain⟨v19,e19,hr⟩:=RD.int_inv hr;obtain⟨v20,e20,hr⟩:=RD.int_inv hr;have e21:=hr.nil_inv;subst e21 e20 e19 e18 e17 e16 e15 e14 e13 e12 e11 e10 e9 e8 e7 e6 e5 e4 e3 e2 e1;have hw:=(hz _ hF).2.trans hh;unfold Lib.TabIs World.var?
 have hn : (Tryz.prog).globalNamed "internal/strconv.uint64pow10" = some 0 := by kernel_rfl
 rw[hn];simp only[qBs,hw];have ht:Lib.pow10Tab=[1,10,100,1000,10000,100000,1000000,10000000,100000000,1000000000,10000000000,100000000000,1000000000000,10000000000000,100000000000000,1000000000000000,10000000000000000,100000000000000000,1000000000000000000,10000000000000000000]:=by decide +kernel
 rw[ht];rfl
theorem lN_(x0 x1:Int)(r:Str)(hF:dz_ x0 x1=some r)(w0:World)(z:Fz)(hz:z.In w0)(hg:Glo te z):Ret Tryz.prog 133 #[.int .i64 x0,.int .i64 x1] w0 λv w=>v=S r/\Ext w0 w:=by
 unfold dz_ at hF;split at hF
 .rename_i h;obtain⟨rfl,h1,h2⟩:=h;obtain rfl:=qSj hF;have hh:=Any.strconv_FormatInt_10 Tryz.laysFormatInt x0 (by omega) h2 w0 (pow10_in hz hg);rw[fFormatInt]at hh;refine Calls.mono hh λe w ⟨he,k,os,hb⟩=>⟨_,he,?_,⟨os,(w0.drewN k).drawn,hb⟩⟩
  rw[digF_eq 19 _ (by omega)];unfold Lib.itoa;rw[if_neg (by omega)];rfl
 .cases hF
def kn_:Con te:=ag_ te [.d (.int .i64),.d (.int .i64)] [(.str,[])] false λa=>dz_ a.1 a.2.1
theorem i3_:Con.OK Tryz.prog te 133 kn_/\cI_ Tryz.prog 133=true:=by
 refine⟨λR a k r hr => ?_,by kernel_rfl⟩;obtain⟨y,h1,h2⟩:=bind_some hr;exact⟨_,_,h2,mg_ (y:=y) rfl rfl rfl rfl rfl λw z hz hg=>lN_ a.1 a.2.1 y h1 w z hz hg⟩
end Go.Proofs.YtebokaoegomboaaGreatDoor
namespace Go.Proofs
open Go.Shelf
def Tryz.laysInsert_ren:Go.Shelf.Ren:=⟨λ | 21=>245 | 27=>302 | 28=>303 | 35=>338 | 39=>361|n=>n,λ | 22=>27 | 3=>3 | 4=>4 | 0=>0|n=>n,λ|n=>n⟩
theorem Tryz.laysInsert:Go.Proofs.Lays2.n21 Tryz.prog Tryz.laysInsert_ren:={
 mixed:=by kernel_rfl
 f21:=Tryz.func245.trans (congrArg some (by kernel_rfl))
 f27:=Tryz.func302.trans (congrArg some (by kernel_rfl))
 f28:=Tryz.func303.trans (congrArg some (by kernel_rfl))
 f35:=Tryz.func338.trans (congrArg some (by kernel_rfl))
 f39:=Tryz.func361.trans (congrArg some (by kernel_rfl))
 t0:=Tryz.underlying0
 a0:=Tryz.isAgg0
 z0:=Tryz.sizeOf0
 v0:=Tryz.zeroValue0
 t3:=Tryz.underlying3
 a3:=Tryz.isAgg3
 z3:=Tryz.sizeOf3
 v3:=Tryz.zeroValue3
 t4:=Tryz.underlying4
 a4:=Tryz.isAgg4
 z4:=Tryz.sizeOf4
 v4:=Tryz.zeroValue4
 t22:=Tryz.underlying27
 a22:=Tryz.isAgg27
 z22:=Tryz.sizeOf27
 v22:=Tryz.zeroValue27
 i3:=by kernel_rfl }
end Go.Proofs
namespace Go.Proofs.YtebokaoegomboaaGreatDoor
open Go.Shelf Go.RowKit Go.Rt
theorem fInsert:Tryz.laysInsert_ren.f 21=245:=by kernel_rfl
theorem tInsert:Tryz.laysInsert_ren.t 3=3:=by kernel_rfl
def nc_:Con te:=conIns te 3
theorem lf_:Con.OK Tryz.prog te 245 nc_/\cI_ Tryz.prog 245=true:=by
 refine⟨?_,by kernel_rfl⟩;have h:=conIns_ok (E:=te) Tryz.laysInsert;rw[fInsert,tInsert]at h;exact h
end Go.Proofs.YtebokaoegomboaaGreatDoor
namespace Go.Proofs
open Go.Shelf
def Tryz.laysRepeat_ren:Go.Shelf.Ren:=⟨λ | 105=>304 | 212=>339 | 99=>340 | 165=>341 | 166=>342 | 170=>343 | 169=>344 | 263=>362 | 264=>363 | 206=>364 | 240=>365 | 241=>366 | 276=>371 | 277=>372|n=>n,λ | 9=>9 | 3=>3 | 4=>4 | 20=>20 | 0=>0 | 46=>265 | 109=>318 | 5=>5 | 72=>323 | 76=>327 | 51=>306 | 146=>343 | 53=>267 | 148=>345 | 70=>321 | 37=>235 | 75=>326 | 127=>347 | 164=>355 | 80=>256|n=>n,λ|n=>n⟩
theorem Tryz.laysRepeat:Go.Proofs.Lays.n105 Tryz.prog Tryz.laysRepeat_ren:={
 mixed:=by kernel_rfl
 f99:=Tryz.func340.trans (congrArg some (by kernel_rfl))
 f105:=Tryz.func304.trans (congrArg some (by kernel_rfl))
 f165:=Tryz.func341.trans (congrArg some (by kernel_rfl))
 f166:=Tryz.func342.trans (congrArg some (by kernel_rfl))
 f169:=Tryz.func344.trans (congrArg some (by kernel_rfl))
 f170:=Tryz.func343.trans (congrArg some (by kernel_rfl))
 f206:=Tryz.func364.trans (congrArg some (by kernel_rfl))
 f212:=Tryz.func339.trans (congrArg some (by kernel_rfl))
 f240:=Tryz.func365.trans (congrArg some (by kernel_rfl))
 f241:=Tryz.func366.trans (congrArg some (by kernel_rfl))
 f263:=Tryz.func362.trans (congrArg some (by kernel_rfl))
 f264:=Tryz.func363.trans (congrArg some (by kernel_rfl))
 f276:=Tryz.func371.trans (congrArg some (by kernel_rfl))
 f277:=Tryz.func372.trans (congrArg some (by kernel_rfl))
 t0:=Tryz.underlying0
 a0:=Tryz.isAgg0
 z0:=Tryz.sizeOf0
 v0:=Tryz.zeroValue0
 t3:=Tryz.underlying3
 a3:=Tryz.isAgg3
 z3:=Tryz.sizeOf3
 v3:=Tryz.zeroValue3
 t4:=Tryz.underlying4
 a4:=Tryz.isAgg4
 z4:=Tryz.sizeOf4
 v4:=Tryz.zeroValue4
 t5:=Tryz.underlying5
 a5:=Tryz.isAgg5
 z5:=Tryz.sizeOf5
 v5:=Tryz.zeroValue5
 t9:=Tryz.underlying9
 a9:=Tryz.isAgg9
 z9:=Tryz.sizeOf9
 v9:=Tryz.zeroValue9
 t20:=Tryz.underlying20
 a20:=Tryz.isAgg20
 z20:=Tryz.sizeOf20
 v20:=Tryz.zeroValue20
 t37:=Tryz.underlying235
 a37:=Tryz.isAgg235
 z37:=Tryz.sizeOf235
 v37:=Tryz.zeroValue235
 t46:=Tryz.underlying265
 a46:=Tryz.isAgg265
 z46:=Tryz.sizeOf265
 v46:=Tryz.zeroValue265
 t51:=Tryz.underlying306
 a51:=Tryz.isAgg306
 z51:=Tryz.sizeOf306
 v51:=Tryz.zeroValue306
 t53:=Tryz.underlying267
 a53:=Tryz.isAgg267
 z53:=Tryz.sizeOf267
 v53:=Tryz.zeroValue267
 t70:=Tryz.underlying321
 a70:=Tryz.isAgg321
 z70:=Tryz.sizeOf321
 v70:=Tryz.zeroValue321
 t72:=Tryz.underlying323
 a72:=Tryz.isAgg323
 z72:=Tryz.sizeOf323
 v72:=Tryz.zeroValue323
 t75:=Tryz.underlying326
 a75:=Tryz.isAgg326
 z75:=Tryz.sizeOf326
 v75:=Tryz.zeroValue326
 t76:=Tryz.underlying327
 a76:=Tryz.isAgg327
 z76:=Tryz.sizeOf327
 v76:=Tryz.zeroValue327
 t109:=Tryz.underlying318
 a109:=Tryz.isAgg318
 z109:=Tryz.sizeOf318
 v109:=Tryz.zeroValue318
 t127:=Tryz.underlying347
 a127:=Tryz.isAgg347
 z127:=Tryz.sizeOf347
 v127:=Tryz.zeroValue347
 t146:=Tryz.underlying343
 a146:=Tryz.isAgg343
 z146:=Tryz.sizeOf343
 v146:=Tryz.zeroValue343
 t148:=Tryz.underlying345
 a148:=Tryz.isAgg345
 z148:=Tryz.sizeOf345
 v148:=Tryz.zeroValue345
 t164:=Tryz.underlying355
 a164:=Tryz.isAgg355
 z164:=Tryz.sizeOf355
 v164:=Tryz.zeroValue355 }
end Go.Proofs
namespace Go.Proofs.YtebokaoegomboaaGreatDoor
open Go.Shelf Go.RowKit Go.Rt
theorem Tryz.extraRepeat:Builder.Extra Tryz.prog Tryz.laysRepeat_ren where
 sizeBuilder:=by kernel_rfl
 liesBuilder:=by kernel_rfl
 t5:=Tryz.laysRepeat.t5
 a5:=Tryz.laysRepeat.a5
 z5:=Tryz.laysRepeat.z5
 v5:=Tryz.laysRepeat.v5
 infoByte:=by kernel_rfl
 cellsByte:=by kernel_rfl
 sizeByte:=by kernel_rfl
 neB5:=by decide
theorem fRepeat:Tryz.laysRepeat_ren.f 105=304:=by kernel_rfl
theorem o2_(l:List UInt8):∀c,Lib.repeatL l c=(List.replicate c l).flatten
 | 0=>rfl
 | c+1=>by rw[Lib.repeatL,o2_ l c,List.replicate_succ,List.flatten_cons]
theorem nW_(x0:Str)(x1:Int)(r:Str)(hF:strings_Repeat x0 x1=some r)(w0:World):Ret Tryz.prog 304 #[S x0,.int .i64 x1] w0 λv w=>v=S r/\Ext w0 w:=by
 unfold strings_Repeat at hF;split at hF
 .rename_i h;obtain⟨h0,h1,h2⟩:=h;simp only[qOi]at hF;subst hF;obtain⟨c,rfl⟩:∃c:Nat,x1=(c:Int):=⟨x1.toNat,by omega⟩;have hh:=Any.strings_Repeat Tryz.laysRepeat Tryz.extraRepeat ⟨x0.toArray⟩ c w0 (by omega) (by rw[size_mk];simpa using h2);rw[fRepeat]at hh;refine Calls.mono hh λe w ⟨he,hb⟩=>⟨_,he,?_,Ext.of_below hb⟩
  simp[S,o2_]
 .cases hF
def mv_:Con te:=ag_ te [.d .str,.d (.int .i64)] [(.str,[])] false λa=>strings_Repeat a.1 a.2.1
theorem ko_:Con.OK Tryz.prog te 304 mv_/\cI_ Tryz.prog 304=true:=by
 refine⟨λR a k r hr => ?_,by kernel_rfl⟩;obtain⟨y,h1,h2⟩:=bind_some hr;exact⟨_,_,h2,callOK_flat (y:=y) rfl rfl rfl rfl rfl λw=>nW_ a.1 a.2.1 y h1 w⟩
end Go.Proofs.YtebokaoegomboaaGreatDoor
namespace Go.Proofs
open Go.Shelf
def Tryz.laysBString_ren:Go.Shelf.Ren:=⟨λ | 169=>344|n=>n,λ | 70=>321 | 9=>9 | 0=>0 | 72=>323 | 37=>235 | 127=>347 | 3=>3 | 5=>5|n=>n,λ|n=>n⟩
theorem Tryz.laysBString:Go.Proofs.Lays.n169 Tryz.prog Tryz.laysBString_ren:={
 mixed:=by kernel_rfl
 f169:=Tryz.func344.trans (congrArg some (by kernel_rfl))
 t0:=Tryz.underlying0
 a0:=Tryz.isAgg0
 z0:=Tryz.sizeOf0
 v0:=Tryz.zeroValue0
 t3:=Tryz.underlying3
 a3:=Tryz.isAgg3
 z3:=Tryz.sizeOf3
 v3:=Tryz.zeroValue3
 t9:=Tryz.underlying9
 a9:=Tryz.isAgg9
 z9:=Tryz.sizeOf9
 v9:=Tryz.zeroValue9
 t37:=Tryz.underlying235
 a37:=Tryz.isAgg235
 z37:=Tryz.sizeOf235
 v37:=Tryz.zeroValue235
 t70:=Tryz.underlying321
 a70:=Tryz.isAgg321
 z70:=Tryz.sizeOf321
 v70:=Tryz.zeroValue321
 t72:=Tryz.underlying323
 a72:=Tryz.isAgg323
 z72:=Tryz.sizeOf323
 v72:=Tryz.zeroValue323
 t127:=Tryz.underlying347
 a127:=Tryz.isAgg347
 z127:=Tryz.sizeOf347
 v127:=Tryz.zeroValue347 }
end Go.Proofs
namespace Go
namespace Rt
open Go.RowKit Go.Proofs
section
variable{P:Program}{E:TE}{z:Fz}{g:Ga}{w w' w0:World}{Bs:List Nat}{F0:Nat->Prop}{H H':Nat->Option (Obj E)}
theorem HR.gone(h:HR P E Bs F0 w0 w z g H){C:Nat->Prop}(hC:∀k,C k->∃i o,H i=some o/\fpO g i o k/\H' i=none)
  (hb:Grow w w') (hk:∀k,k<w.heap.size->¬C k->w'.heap[k]? = w.heap[k]?) (hH:∀j o,H' j=some o->H j=some o):HR P E Bs F0 w0 w' z g H':=by
 have bj_:∀k,C k->w0.heap.size<=k\/k∈Bs:=λk hc=>by obtain⟨i,o,h1,h2,_⟩:=hC k hc;exact h.own i o k h1 h2
 have far:∀j o k,H' j=some o->fpO g j o k->¬C k:=λj o k e hf hc=>by
  obtain⟨i,p,h1,h2,h3⟩:=hC k hc;exact h.apart j i o p k (λej=>by rw[ej,h3]at e;cases e) (hH j o e) h1 hf h2
 have fzC:∀k,z.F k->¬C k:=λk hz hc=>by obtain⟨i,o,h1,h2,_⟩:=hC k hc;exact h.fza i o k h1 h2 hz
 refine⟨⟨h.chg.grow.trans hb,λk hk1 hn=>(hk k (Nat.lt_of_lt_of_le hk1 h.size) λhc => ?_).trans (h.chg.block k hk1 hn)⟩,λj o e => ?_,λj o k e=>h.own j o k (hH j o e),λj j' o p k hn e e'=>h.apart j j' o p k hn (hH j o e) (hH j' p e'),λk hz => ?_,h.fz0,λj o k e=>h.fza j o k (hH j o e),h.gl⟩
 .rcases bj_ k hc with h1|h1
  .omega
  .exact hn h1
 .exact(h.hold j o (hH j o e)).keep (Fz.Le.refl z) (Ga.Le.refl g) λk hfk=>hk k ((h.hold j o (hH j o e)).lt hfk) (far j o k e hfk)
 .have:=h.fz k hz;exact⟨Nat.lt_of_lt_of_le this.1 hb.size,(hk k this.1 (fzC k hz)).trans this.2⟩
end
end Rt
end Go
namespace Go.Proofs
open Go.Shelf
def Tryz.laysCC_ren:Go.Shelf.Ren:=⟨λ | 240=>365 | 276=>371|n=>n,λ | 0=>0 | 4=>4 | 9=>9 | 20=>20 | 37=>235 | 70=>321 | 72=>323 | 164=>355|n=>n,λ|n=>n⟩
theorem Tryz.laysCC:Go.Proofs.Lays.n240 Tryz.prog Tryz.laysCC_ren:={
 mixed:=by kernel_rfl
 f240:=Tryz.func365.trans (congrArg some (by kernel_rfl))
 f276:=Tryz.func371.trans (congrArg some (by kernel_rfl))
 t0:=Tryz.underlying0
 a0:=Tryz.isAgg0
 z0:=Tryz.sizeOf0
 v0:=Tryz.zeroValue0
 t4:=Tryz.underlying4
 a4:=Tryz.isAgg4
 z4:=Tryz.sizeOf4
 v4:=Tryz.zeroValue4
 t9:=Tryz.underlying9
 a9:=Tryz.isAgg9
 z9:=Tryz.sizeOf9
 v9:=Tryz.zeroValue9
 t20:=Tryz.underlying20
 a20:=Tryz.isAgg20
 z20:=Tryz.sizeOf20
 v20:=Tryz.zeroValue20
 t70:=Tryz.underlying321
 a70:=Tryz.isAgg321
 z70:=Tryz.sizeOf321
 v70:=Tryz.zeroValue321
 t72:=Tryz.underlying323
 a72:=Tryz.isAgg323
 z72:=Tryz.sizeOf323
 v72:=Tryz.zeroValue323
 t164:=Tryz.underlying355
 a164:=Tryz.isAgg355
 z164:=Tryz.sizeOf355
 v164:=Tryz.zeroValue355 }
theorem Tryz.x72CC:Builder.X72 Tryz.prog Tryz.laysCC_ren where
 sizeBuilder:=by kernel_rfl
 liesBuilder:=by kernel_rfl
theorem Tryz.extraBS:Builder.Extra Tryz.prog Tryz.laysBString_ren where
 sizeBuilder:=by kernel_rfl
 liesBuilder:=by kernel_rfl
 t5:=Tryz.underlying5
 a5:=Tryz.isAgg5
 z5:=Tryz.sizeOf5
 v5:=Tryz.zeroValue5
 infoByte:=by kernel_rfl
 cellsByte:=by kernel_rfl
 sizeByte:=by kernel_rfl
 neB5:=by decide
open Go.RowKit
theorem kp_{P:Program}{w:World}:∀(l:List Int) (a:Addr) (acc:ByteArray),(∀j x,l[j]? = some x->w.cell? (a.add j)=some (.int .u8 x)) ->
  (loadBytes a acc l.length).run P w = .ok ⟨acc.data++(Rt.bytesS l).toArray⟩ w
 | [],a,acc,_=>by simp[loadBytes,Rt.bytesS]
 | x::l,a,acc,h=>by
  have h0:w.cell? a=some (.int .u8 x):=by
   have:=h 0 x rfl;simpa[Addr.add]using this
  have ih:=kp_ (P:=P) l (a.add 1) (acc.push x.toNat.toUInt8) (λj y hy=>by
   have:=h (j+1) y (by simpa using hy);have e:(a.add 1).add j=a.add (j+1):=by
    unfold Addr.add;by_cases hj:j=0
    .subst hj;simp
    .simp[hj];omega
   rw[e];exact this)
  simp only[qLc,loadBytes,Sem.run_bind,run_load,h0,Result.andThen];rw[ih]
  congr 1
  apply ByteArray.ext;simp[ByteArray.push,Rt.bytesS]
theorem kq_{P:Program}{w:World}(pt it ty e:TypeId)(hp:P.underlying pt=some (.pointer e))(hc:P.cellsOf e=1)(g cells:Nat)(hsh:w.shape? g=some (e,cells))(l:List Int)(h0:l≠[])(hn:l.length<=cells)(h63:l.length<=9223372036854775807)
  (hcell:∀j x,l[j]? = some x->w.cell? ((⟨g,0,none⟩:Addr).add j)=some (.int .u8 x)) :
  (Builtin.unsafeString_ #[pt,it] ty #[.pointer (some ⟨g,0,none⟩),.int .i64 l.length]).run P w = .ok (.string ⟨(Rt.bytesS l).toArray⟩) (w.freeze ⟨g,0,none⟩ l.length):=by
 have hl:l.length≠0:=by simpa using h0
 have hlb:=kp_ (P:=P) l ⟨g,0,none⟩ .empty hcell;have hlies:=Lib.liesAt_bytes (P:=P) hc (cells/P.cellsOf e) l.length (by rw[hc];simpa using hn);have h63':¬(9223372036854775807:Int)<(l.length:Int):=by omega
 have hdef:Builtin.unsafeString_ #[pt,it] ty #[.pointer (some ⟨g,0,none⟩),.int .i64 l.length] =
   (do
    let n ←asInt (.int .i64 l.length)
    if n < 0 then runtimePanic (.error "unsafe.String: len out of range")
    if n > IntKind.i64.max then unsupported (.unsafePointer "String: a length above the largest int")
    if n=0 then pure (.string .empty)
    else if ←variablesAt ⟨g,0,none⟩ (←elemOf pt) n.toNat then do
     let s ←loadBytes ⟨g,0,none⟩ .empty n.toNat
     freeze ⟨g,0,none⟩ n.toNat
     pure (.string s)
    else unsupported (.unsafePointer "String: not so many bytes at ptr")) := rfl
 rw[hdef];have hmax:IntKind.i64.max=9223372036854775807:=rfl;have hneg:¬(l.length:Int)<0:=by omega
 simp[asInt,asIntOf,hmax,h63',hneg,hl,variablesAt,hsh,elemOf,run_underlying hp,hlies,hlb]
set_option maxHeartbeats 1000000 in
set_option maxRecDepth 100000 in
theorem Any.Builder_String_w{P:Program}{ρ:Ren}(L:Lays.n169 P ρ)(X:Builder.Extra P ρ)(b g cap:Nat)(p:Value)(cur:Array Value)(l:List Int)(w:World)(hbk:w.heap[b]? = some (.cells #[p,.slice (some ⟨g,0,none⟩) l.length cap] (ρ.t 72) (0,0)))(h0:l≠[])
  (hg:w.heap[g]? = some (.cells cur (ρ.t 5) (0,0))) (hnc:l.length<=cap) (hcm:cap<=maxLen) (hcs:cur.size=cap) (hown:∀j x,l[j]? = some x->w.cell? ((⟨g,0,none⟩:Addr).add j)=some (.int .u8 x)) :
  Calls P (ρ.f 169) #[.pointer (some ⟨b,0,none⟩)] w λe w'=>e = .returned (.string ⟨(Rt.bytesS l).toArray⟩)/\w'=w.drew.freeze ⟨g,0,none⟩ l.length:=by
 have hl0:l.length≠0:=by simpa using h0
 have c1:w.drew.cell? ⟨b,1,none⟩=some (.slice (some ⟨g,0,none⟩) l.length cap):=by
  have:w.drew.heap[b]? = some (.cells #[p,.slice (some ⟨g,0,none⟩) l.length cap] (ρ.t 72) (0,0)):=hbk;rw[Lib.cell_of_heap this];rfl
 have hSD:(Builtin.unsafeSliceData_ #[(ρ.t 37)] (ρ.t 127) #[.slice (some ⟨g,0,none⟩) l.length cap]).run P w.drew = .ok (.pointer (some ⟨g,0,none⟩)) w.drew :=
  Lib.run_unsafeSliceData_row _ _ _ _ _ _ (by omega)
 have hUS:(Builtin.unsafeString_ #[(ρ.t 127),(ρ.t 3)] (ρ.t 9) #[.pointer (some ⟨g,0,none⟩),.int .i64 l.length]).run P w.drew = .ok (.string ⟨(Rt.bytesS l).toArray⟩) (w.drew.freeze ⟨g,0,none⟩ l.length):=by
  refine kq_ (w:=w.drew) (ρ.t 127) (ρ.t 3) (ρ.t 9) (ρ.t 5) L.t127 X.cellsByte g cur.size (by have hg':w.drew.heap[g]? = some (.cells cur (ρ.t 5) (0,0)):=hg;simp[World.shape?,hg']) l h0 (by omega) (by unfold maxLen at hcm;omega) ?_;intro j x hx;exact hown j x hx
 have mixed:=L.mixed;have t72:=L.t72;have a72:=L.a72;have z72:=L.z72;have v72:=L.v72;have u72:=run_underlying L.t72;have t70:=L.t70;have a70:=L.a70;have z70:=L.z70;have v70:=L.v70;have u70:=run_underlying L.t70;have t37:=L.t37;have a37:=L.a37;have z37:=L.z37;have v37:=L.v37;have u37:=run_underlying L.t37;have t127:=L.t127;have a127:=L.a127;have z127:=L.z127;have v127:=L.v127;have u127:=run_underlying L.t127;have t3:=L.t3;have a3:=L.a3;have z3:=L.z3;have v3:=L.v3;have u3:=run_underlying L.t3;have t9:=L.t9;have a9:=L.a9;have z9:=L.z9;have v9:=L.v9;have u9:=run_underlying L.t9;have t5:=X.t5;have a5:=X.a5;have z5:=X.z5;have v5:=X.v5;have u5:=run_underlying X.t5
 go_enter L.f169,Body.n169_ntmps ρ
 go_wp2
 go_region_o
 all_goals (go_wp2;go_ret;exact⟨rfl,rfl⟩)
end Go.Proofs
namespace Go.Proofs.YtebokaoegomboaaGreatDoor
open Go.RowKit Go.Rt
def fI_:InlF te:=λH _ xs _ k=>match xs with
 | [.one (.ptr id 0)]=>match H id with
  | some (.box T [.sbp id',_])=>match Nat.beq id id'&&te.sb T with
   | true=>k (some (.tup [])) []
   | false=>none
  | _=>none
 | _=>none
def lg_:InlF te:=λH _ xs _ k=>match xs with
 | [.one (.ptr id 0)]=>match H id with
  | some (.box T [.sbp id',c])=>match Nat.beq id id'&&te.sb T,c with
   | true,.nils=>k (some (.v (.one (.dt .str (bytesS []))))) [(id,none)]
   | true,.own r=>match H r with
    | some (.row e (.int .u8) xs _)=>match Nat.beq e 5 with
     | true=>k (some (.v (.one (.dt .str (bytesS xs))))) [(id,none),(r,none)]
     | false=>none
    | _=>none
   | _,_=>none
  | _=>none
 | _=>none
theorem i4_:InlOK Tryz.prog te 365 fI_/\cI_ Tryz.prog 365=true:=by
 refine⟨?_,by kernel_rfl⟩;intro z g nx H xs vs R k r Bs F0 w0 w hnx hH hv h;unfold fI_ at h;split at h
 .rename_i id;split at h
  .rename_i T id' c hi;split at h
   .rename_i hb;simp only[qAn]at hb;obtain rfl:=qNb hb.1;have hT:T=323:=qNb hb.2;subst hT;cases hv with
    | cons v1 hv =>
     cases hv
     obtain⟨l,h1,rfl⟩:=v1;obtain⟨l',us,h2,h3,h4⟩:=hH.hold _ _ hi;rw[h1]at h2;obtain rfl:=qSj h2;cases h4 with
     | cons c1 h4=>cases h4 with
      | cons c2 h4 =>
       cases h4
       obtain⟨l2,h5,h6⟩:=c1;rw[h1]at h5;obtain rfl:=qSj h5;rename_i u1 u2;have hc0:w.cell? ⟨l.b,0,none⟩=some u1:=by rw[cell_of_row w l.b 0 _ _ _ h3];rfl
       rcases h6 with rfl|rfl
       .refine Calls.mono (Any.Builder_copyCheck_fresh Tryz.laysCC Tryz.x72CC l.b w hc0 (by simp[World.shape?,h3];rfl) (by unfold World.frozen?;simp only[h3];simp)) λe w' ⟨he,hw⟩=>⟨_,he,.tup [],[],z,g,h,Fz.Le.refl z,Ga.Le.refl g,hnx.succ,⟨[],rfl,.nil⟩,?_⟩
        subst hw;have hat:(w.setCell ⟨l.b,0,none⟩ (.pointer (some ⟨l.b,0,none⟩))).heap[l.b]? = some (.cells [.pointer (some ⟨l.b,0,none⟩),u2].toArray 323 (0,0)):=by
         unfold World.setCell;simp[Array.getElem?_modify,h3]
        refine hH.turn (Ga.Le.refl g) (i:=id) (i':=id) (C:=λk=>k=l.b) (λk hk=>⟨_,hi,l,h1,hk⟩) ⟨rfl,rfl,rfl,by simp[World.setCell]⟩ (λk _ hk => ?_) (o' := .box 323 [.sbp id,c]) ?_ (λk hk => ?_) λj p hj => ?_
        .unfold World.setCell;simp only[Array.getElem?_modify];rw[if_neg λe=>hk e.symm]
        .exact⟨l,_,h1,hat,.cons ⟨l,h1,.inr rfl⟩ (.cons c2 .nil)⟩
        .obtain⟨l2,h5,rfl⟩:=hk;rw[h1]at h5;obtain rfl:=qSj h5;exact .inl rfl
        .by_cases hji:j=id
         .subst hji;have hj':H j=some p:=hj;rw[hi]at hj';exact .inl ⟨rfl,(qSj hj').symm⟩
         .exact .inr ⟨hji,.inl hji,hj⟩
       .refine Calls.mono (Any.Builder_copyCheck_used Tryz.laysCC Tryz.x72CC l.b w hc0) λe w' ⟨he,hw⟩=>⟨_,he,.tup [],[],z,g,h,Fz.Le.refl z,Ga.Le.refl g,hnx.succ,⟨[],rfl,.nil⟩,?_⟩
        subst hw;exact hH
   .cases h
  .cases h
 .cases h
theorem up1{H:Nat->Option (Rt.Obj te)}{id:Nat}{j:Nat}{o:Rt.Obj te}(h:upH H [(id,none)] j=some o):j≠id/\H j=some o:=by
 simp only[upH]at h;split at h
 .cases h
 .rename_i hb;refine⟨λe => ?_,h⟩;rw[e,Nat.beq_refl]at hb;cases hb
theorem up2{H:Nat->Option (Rt.Obj te)}{id r:Nat}{j:Nat}{o:Rt.Obj te}(h:upH H [(id,none),(r,none)] j=some o):j≠id/\j≠r/\H j=some o:=by
 simp only[upH]at h;split at h
 .cases h
 .rename_i hb;split at h
  .cases h
  .rename_i hb2;refine⟨λe => ?_,λe => ?_,h⟩
   .rw[e,Nat.beq_refl]at hb;cases hb
   .rw[e,Nat.beq_refl]at hb2;cases hb2
theorem rg_ : InlOK Tryz.prog te 344 lg_/\cI_ Tryz.prog 344=true:=by
 refine⟨?_,by kernel_rfl⟩;intro z g nx H xs vs R k r Bs F0 w0 w hnx hH hv h;unfold lg_ at h;split at h
 .rename_i id;split at h
  .rename_i T id' c hi;have hv1:∃l,g id=some l/\vs=[.pointer (some ⟨l.b,0,none⟩)]:=by
    cases hv with
    | cons v1 hv =>
     cases hv
     obtain⟨l,h1,rfl⟩:=v1;exact⟨l,h1,rfl⟩
   obtain⟨l,h1,rfl⟩:=hv1;obtain⟨l',us,h2,h3,h4⟩:=hH.hold _ _ hi;rw[h1]at h2;obtain rfl:=qSj h2;split at h
   .rename_i hb;simp only[qAn]at hb;have hT:T=323:=qNb hb.2;subst hT;cases h4 with
    | cons c1 h4=>cases h4 with
     | cons c2 h4 =>
      cases h4
      rename_i u1 u2;obtain rfl:u2 = .slice none 0 0:=c2;refine Calls.mono (Any.Builder_String_nil Tryz.laysBString Tryz.extraBS w.heap.size l.b u1 w h3) λe w' ⟨he,hw⟩=>⟨_,he,_,_,z,g,h,Fz.Le.refl z,Ga.Le.refl g,(λi hi=>hnx i (Nat.le_trans (by omega) (Nat.le_trans (iH_ nx _) hi))),.str .nil,?_⟩
      exact hH.gone (C:=λ_=>False) (λ_ h=>h.elim) (Grow.of_below hw) (λk hk _=>hw.block k hk) λj o hj=>(up1 hj).2
   .rename_i r' hb;simp only[qAn]at hb;have hT:T=323:=qNb hb.2;subst hT;split at h
    .rename_i e xs foc hr;split at h
     .rename_i he5;obtain rfl:=qNb he5;cases h4 with
      | cons c1 h4=>cases h4 with
       | cons c2 h4 =>
        cases h4
        rename_i u1 u2;obtain⟨lr,h5,rfl⟩:=c2;obtain⟨lr',rows,h6,hn,hc,hown,hlen,hrl,hrows,_⟩:=hH.hold _ _ hr;rw[h5]at h6;obtain rfl:=qSj h6;have hrw:=kJ_ hrows (by omega);obtain⟨_,ho⟩:=hown;rcases ho with⟨ho,h0⟩|⟨b,cap,cur,hvv,_,hh,hnc,hcm,hcs,htk⟩
        .injection ho with e1 e2 e3;rw[e1,e2,e3]at h3;have hx0:xs=[]:=List.length_eq_zero_iff.1 (by omega);subst hx0;refine Calls.mono (Any.Builder_String_nil Tryz.laysBString Tryz.extraBS w.heap.size l.b u1 w h3) λe w' ⟨he,hw⟩=>⟨_,he,_,_,z,g,h,Fz.Le.refl z,Ga.Le.refl g,(λi hi=>hnx i (Nat.le_trans (by omega) (Nat.le_trans (iH_ nx _) hi))),.str .nil,?_⟩
         exact hH.gone (C:=λ_=>False) (λ_ h=>h.elim) (Grow.of_below hw) (λk hk _=>hw.block k hk) λj o hj=>(up2 hj).2.2
        .injection hvv with e1 _ e3;subst e3;rw[e1]at h3;have hb1:b<w.heap.size:=by
          rcases Nat.lt_or_ge b w.heap.size with h'|h'
          .exact h'
          .rw[Array.getElem?_eq_none h']at hh;cases hh
         cases xs with
         | nil =>
          have hn0:lr.n=0:=hn;rw[hn0]at h3;by_cases hc0:lr.cap=0
          .rw[hc0]at h3;exact Calls.mono (Any.Builder_String_noroom Tryz.laysBString Tryz.extraBS w.heap.size l.b b u1 cur w (Nat.le_refl _) h3 hh) λe w' ⟨he,hw⟩=>⟨_,he,_,_,z,g,h,Fz.Le.refl z,Ga.Le.refl g,(λi hi=>hnx i (Nat.le_trans (by omega) (Nat.le_trans (iH_ nx _) hi))),.str .nil,hH.gone (C:=λ_=>False) (λ_ h=>h.elim) (Grow.of_below hw) (λk hk _=>hw.block k hk) λj o hj=>(up2 hj).2.2⟩
          .exact Calls.mono (Any.Builder_String_room Tryz.laysBString Tryz.extraBS w.heap.size l.b b lr.cap u1 w hc0 h3) λe w' ⟨he,hw⟩=>⟨_,he,_,_,z,g,h,Fz.Le.refl z,Ga.Le.refl g,(λi hi=>hnx i (Nat.le_trans (by omega) (Nat.le_trans (iH_ nx _) hi))),.str .nil,hH.gone (C:=λ_=>False) (λ_ h=>h.elim) (Grow.of_below hw) (λk hk _=>hw.block k hk) λj o hj=>(up2 hj).2.2⟩
         | cons x xs =>
          have hc1:lr.c=1:=hc;rw[hn]at h3 htk hnc;rw[hc1]at htk hcs;have hcur:∀j y,(x::xs)[j]? = some y->w.cell? ((⟨b,0,none⟩:Addr).add j)=some (.int .u8 y):=λj y hy=>by
           have hj:j<(x::xs).length:=by
            rcases Nat.lt_or_ge j (x::xs).length with h'|h'
            .exact h'
            .rw[List.getElem?_eq_none h']at hy;cases hy
           have e2:(⟨b,0,none⟩:Addr).add j=⟨b,j,none⟩:=by
            unfold Addr.add;by_cases h0:j=0
            .subst h0;simp
            .simp[h0]
           rw[e2,cell_of_row w b j _ _ _ hh];have e3:(cur.toList.take ((x::xs).length*1))[j]? = cur.toList[j]? := by rw[List.getElem?_take,if_pos (by omega)]
           rw[←Array.getElem?_toList,←e3,htk,hrw];have e4:∀(l:List Int),(l.map λb=>[Value.int .u8 b]).flatten=l.map λb=>Value.int .u8 b:=λl=>by
            induction l with
            | nil=>rfl
            | cons a l ih=>rw[List.map_cons,List.flatten_cons,ih];rfl
           rw[e4,List.getElem?_map,hy];rfl
          refine Calls.mono (Any.Builder_String_w Tryz.laysBString Tryz.extraBS l.b b lr.cap u1 cur (x::xs) w h3 (by simp) hh hnc hcm (by omega) hcur) λe w' ⟨he,hw⟩=>⟨_,he,_,_,z,g,h,Fz.Le.refl z,Ga.Le.refl g,(λi hi=>hnx i (Nat.le_trans (by omega) (Nat.le_trans (iH_ nx _) hi))),.str .nil,?_⟩
          subst hw;refine hH.gone (C:=λk=>k=b) (λk hk=>⟨r',_,hr,⟨lr,_,h5,e1,hk⟩,?_⟩) ⟨?_,?_,?_,?_⟩ (λk hk hne => ?_) λj o hj=>(up2 hj).2.2
          .cases hq:upH H [(id,none),(r',none)] r' with
           | none=>rfl
           | some o=>exact absurd rfl (up2 hq).2.1
          .unfold World.freeze;split<;>rfl
          .unfold World.freeze;split<;>rfl
          .unfold World.freeze;split<;>rfl
          .unfold World.freeze;split
           .exact Nat.le_refl _
           .simp only[Array.size_modify];exact Nat.le_refl _
          .unfold World.freeze;split
           .rfl
           .simp only[Array.getElem?_modify];rw[if_neg λe=>hne e.symm];rfl
     .cases h
    .cases h
   .cases h
  .cases h
 .cases h
end Go.Proofs.YtebokaoegomboaaGreatDoor
namespace Go
namespace Rt
open Go.RowKit Go.Sort Go.Proofs
section
variable{P:Program}{E:TE}{z:Fz}{g:Ga}{w w' w0:World}{Bs:List Nat}{F0:Nat->Prop}{t:Ty}{enc:Den E.S t->List Value}
structure EncOK(E:TE)(t:Ty)(enc:Den E.S t->List Value):Prop where
 out:∀(z:Fz) (x:Den E.S t) (r:List Value),RD E z (E.flat t) (E.fl t x) r->r=enc x
 into:∀(z:Fz) (x:Den E.S t),RD E z (E.flat t) (E.fl t x) (enc x)
theorem EncOK.len(he:EncOK E t enc)(x:Den E.S t):(enc x).length=E.size t:=(he.into ⟨λ_=>False,default⟩ x).len
theorem rows_enc(he:EncOK E t enc){xs:List (Den E.S t)}{rows:List (List Value)}(h:Rows E z t xs rows)(hl:rows.length=xs.length):rows=xs.map enc:=by
 apply List.ext_getElem?;intro i;rw[List.getElem?_map];rcases Nat.lt_or_ge i xs.length with hi|hi
 .have hx:=List.getElem?_eq_getElem hi;have hr:=List.getElem?_eq_getElem (show i<rows.length by omega);rw[hr,hx,he.out z _ _ (h i _ _ hx hr)];rfl
 .rw[List.getElem?_eq_none (by omega),List.getElem?_eq_none hi];rfl
theorem dN_(he:EncOK E t enc):∀(xs:List (Den E.S t)),(xs.map enc).flatten.length=xs.length*E.size t
 | []=>by simp
 | x::xs=>by rw[List.map_cons,List.flatten_cons,qLa,he.len,dN_ he xs,qLc,Nat.succ_mul,Nat.add_comm]
def RowQ(E:TE)(t:Ty)(enc:Den E.S t->List Value)(w:World)(e:TypeId)(xs:List (Den E.S t))(A:Option Addr)(cap:Nat):Prop:=(A=none/\cap=0/\xs=[])\/∃b cs,A=some ⟨b,0,none⟩/\w.heap[b]? = some (.cells (cs:List Value).toArray e (0,0))/\xs.length<=cap/\cap<=maxLen/\cs.length=cap*E.size t/\cs.take (xs.length*E.size t)=(xs.map enc).flatten
theorem rowQ_of(he:EncOK E t enc){id:Nat}{e:TypeId}{xs:List (Den E.S t)}{foc:List (Nat×Int×Den E.S t)}(h:ObjR P E z g w id (.row e t xs foc)):∃l,g id=some l/\l.n=xs.length/\l.c=E.size t/\RowQ E t enc w e xs l.A l.cap:=by
 obtain⟨l,rows,h1,hn,hc,hown,hlen,hrl,hrows,_⟩:=h;rw[hc,rows_enc he hrows (by omega)]at hown;refine⟨l,h1,hn,hc,?_⟩;obtain⟨_,h2⟩:=hown;rcases h2 with⟨h2,h3⟩|⟨b,cap,cur,hv,_,hh,hnc,hcm,hcs,htk⟩
 .injection h2 with e1 e2 e3;exact .inl ⟨e1,e3,List.length_eq_zero_iff.1 (by omega)⟩
 .injection hv with e1 _ e3;subst e3;exact .inr ⟨b,cur.toList,e1,by simpa using hh,by omega,hcm,by simpa using hcs,by rw[hn]at htk;exact htk⟩
theorem rowQ_mk(he:EncOK E t enc){id:Nat}{e:TypeId}{xs:List (Den E.S t)}{l:Loc}(h:RowQ E t enc w e xs l.A l.cap)(hg:g id=some l)(hn:l.n=xs.length)(hc:l.c=E.size t):ObjR P E z g w id (.row e t xs []):=by
 refine⟨l,xs.map enc,hg,hn,hc,?_,by simp[hn],λr hr => ?_,λi x r hx hr => ?_,λp hp=>nomatch hp⟩
 .rw[hc,hn];refine⟨dN_ he xs,?_⟩;rcases h with⟨hA,hcap,rfl⟩|⟨b,cs,hA,hh,h1,h2,h3,h4⟩
  .exact .inl ⟨by rw[hA,hcap];rfl,rfl⟩
  .exact .inr ⟨b,l.cap,cs.toArray,by rw[hA],Nat.zero_le _,hh,h1,h2,by simpa using h3,h4⟩
 .obtain⟨x,_,rfl⟩:=List.mem_map.1 hr;rw[he.len,hc]
 .rw[List.getElem?_map,hx]at hr;obtain rfl:=qSj hr;exact he.into z x
theorem rh_{β:Type}[Inhabited β](f:β->Value)(D:Array β)(cs:List Value)(h:D.size<=cs.length):(putCells f 0 D cs.toArray).toList=D.toList.map f++cs.drop D.size:=by
 apply List.ext_getElem?;intro i;simp only[putCells,Array.toList_mapIdx,List.getElem?_mapIdx];by_cases hi:i<D.size
 .have hc:i<cs.length:=by omega
  rw[List.getElem?_append_left (by simpa using hi),List.getElem?_map,List.getElem?_eq_getElem hc,Option.map_some,if_pos ⟨Nat.zero_le _,by omega⟩,Nat.sub_zero,getElem!_pos D i hi];simp[hi]
 .rw[List.getElem?_append_right (by simpa using Nat.le_of_not_lt hi),List.getElem?_drop];have e1:D.size+(i-(D.toList.map f).length)=i:=by simp;omega
  rw[e1];cases hx:cs[i]? with
  | none=>rfl
  | some v=>rw[Option.map_some,if_neg (by omega)]
theorem RowQ.put{β:Type}[Inhabited β]{e:TypeId}{xs zs:List (Den E.S t)}{b cap:Nat}(h:RowQ E t enc w e xs (some ⟨b,0,none⟩) cap)(hl:zs.length<=xs.length)(f:β->Value)(D:Array β)(hD:D.size=xs.length*E.size t)(hf:(D.toList.map f).take (zs.length*E.size t)=(zs.map enc).flatten)(q:Nat)(os:Array Go.Obj)
  (hw:w'=grow (putRow f (Go.Sort.ahead w q) b 0 D) os):RowQ E t enc w' e zs (some ⟨b,0,none⟩) cap/\Grow w w'/\(∀k,k<w.heap.size->k≠b->w'.heap[k]? = w.heap[k]?):=by
 rcases h with⟨h,_⟩|⟨b',cs,hA,hh,h1,h2,h3,h4⟩
 .cases h
 .injection hA with hA;injection hA with hA;subst hA;have hb:b<w.heap.size:=by
   rcases Nat.lt_or_ge b w.heap.size with h'|h'
   .exact h'
   .rw[Array.getElem?_eq_none h']at hh;cases hh
  have hDl:D.size<=cs.length:=by rw[hD,h3];exact Nat.mul_le_mul_right _ h1
  have hgk:∀(W:World) k,k<W.heap.size->(grow W os).heap[k]? = W.heap[k]? := λW k hk=>by
   show(W.heap++os)[k]? = _;rw[Array.getElem?_append_left hk]
  have hms:(putRow f (Go.Sort.ahead w q) b 0 D).heap.size=w.heap.size:=by simp[putRow,mapBlock,Go.Sort.ahead]
  have hmb:(putRow f (Go.Sort.ahead w q) b 0 D).heap[b]? = some (.cells (putCells f 0 D cs.toArray) e (0,0)):=by
   show(mapBlock (Go.Sort.ahead w q) b (putCells f 0 D)).heap[b]? = _;unfold mapBlock;have hh':(Go.Sort.ahead w q).heap[b]? = some (.cells cs.toArray e (0,0)):=hh;simp only[Array.getElem?_modify,if_true,hh',Option.map_some,onCells]
  subst hw;refine⟨.inr ⟨b,D.toList.map f++cs.drop D.size,rfl,?_,by omega,h2,?_,?_⟩,⟨rfl,rfl,rfl,?_⟩,λk hk hne => ?_⟩
  .rw[hgk _ _ (by omega),hmb,←rh_ f D cs hDl,Array.toArray_toList]
  .rw[qLa,List.length_map,List.length_drop,Array.length_toList];omega
  .have hle:zs.length*E.size t<=(D.toList.map f).length:=by
    have h9:D.toList.length=xs.length*E.size t:=hD;rw[List.length_map,h9];exact Nat.mul_le_mul_right _ hl
   rw[List.take_append_of_le_length hle];exact hf
  .have h9:(grow (putRow f (Go.Sort.ahead w q) b 0 D) os).heap.size=(putRow f (Go.Sort.ahead w q) b 0 D).heap.size+os.size:=by simp[grow]
   omega
  .rw[hgk _ _ (by omega)];show(mapBlock (Go.Sort.ahead w q) b (putCells f 0 D)).heap[k]? = _;unfold mapBlock;simp only[Array.getElem?_modify];rw[if_neg λe=>hne e.symm];rfl
theorem HR.rowQ{e:TypeId}{xs zs:List (Den E.S t)}{foc:List (Nat×Int×Den E.S t)}{i:Nat}{H H':Nat->Option (Obj E)}(he:EncOK E t enc){l l':Loc}{i':Nat}{g':Ga}(h:HR P E Bs F0 w0 w z g H)(hi:H i=some (.row e t xs foc))(hg:g i=some l)(hle:g.Le g')(hg':g' i'=some l')(hA:l'.A=l.A)(hn:l'.n=zs.length)(hc:l'.c=E.size t)
  (hb:Grow w w') (hk:∀k,k<w.heap.size->¬cb_ l.A k->w'.heap[k]? = w.heap[k]?) (hr:RowQ E t enc w' e zs l'.A l'.cap)
  (hH:∀j o,H' j=some o->(j=i'/\o = .row e t zs [])\/(j≠i'/\j≠i/\H j=some o)):HR P E Bs F0 w0 w' z g' H':=by
 refine h.turn hle (i:=i) (i':=i') (C:=cb_ l.A) (λq ⟨a,ha,hq⟩=>⟨_,hi,l,a,hg,ha,hq⟩) hb hk (o' := .row e t zs []) (rowQ_mk he hr hg' hn hc) (λq hq => ?_) λj p hj => ?_
 .obtain⟨l2,a2,h5,h6,rfl⟩:=hq;rw[hg']at h5;obtain rfl:=qSj h5;exact .inl ⟨a2,by rw[←hA];exact h6,rfl⟩
 .rcases hH j p hj with h1|⟨h1,h2,h3⟩
  .exact .inl h1
  .exact .inr ⟨h1,.inl h2,h3⟩
end
end Rt
end Go
namespace Go.Proofs
open Go.Shelf
def Tryz.laysSortF_ren:Go.Shelf.Ren:=⟨λ | 6=>190 | 15=>262 | 14=>261 | 28=>319 | 29=>320 | 20=>311 | 21=>312 | 22=>313 | 23=>314 | 24=>315 | 25=>316 | 26=>317 | 27=>318 | 46=>347 | 47=>348 | 48=>349 | 49=>350 | 50=>351 | 57=>367|n=>n,λ | 22=>24 | 24=>81 | 25=>216 | 3=>3 | 39=>265 | 0=>0 | 53=>306 | 55=>267 | 4=>4 | 46=>300 | 45=>299 | 50=>245 | 5=>5 | 9=>9 | 66=>330 | 70=>334 | 76=>348 | 77=>287|n=>n,λ|n=>n⟩
theorem Tryz.laysSortF:Go.Proofs.SlLaysF0.n6 Tryz.prog Tryz.laysSortF_ren:={
 mixed:=by kernel_rfl
 f6:=⟨Tryz.f190.name,by decide,Tryz.func190.trans (congrArg some (by kernel_rfl))⟩
 f14:=⟨Tryz.f261.name,by decide,Tryz.func261.trans (congrArg some (by kernel_rfl))⟩
 f15:=Tryz.func262.trans (congrArg some (by kernel_rfl))
 f20:=⟨Tryz.f311.name,by decide,Tryz.func311.trans (congrArg some (by kernel_rfl))⟩
 f21:=⟨Tryz.f312.name,by decide,Tryz.func312.trans (congrArg some (by kernel_rfl))⟩
 f22:=⟨Tryz.f313.name,by decide,Tryz.func313.trans (congrArg some (by kernel_rfl))⟩
 f23:=⟨Tryz.f314.name,by decide,Tryz.func314.trans (congrArg some (by kernel_rfl))⟩
 f24:=⟨Tryz.f315.name,by decide,Tryz.func315.trans (congrArg some (by kernel_rfl))⟩
 f25:=⟨Tryz.f316.name,by decide,Tryz.func316.trans (congrArg some (by kernel_rfl))⟩
 f26:=⟨Tryz.f317.name,by decide,Tryz.func317.trans (congrArg some (by kernel_rfl))⟩
 f27:=⟨Tryz.f318.name,by decide,Tryz.func318.trans (congrArg some (by kernel_rfl))⟩
 f28:=Tryz.func319.trans (congrArg some (by kernel_rfl))
 f29:=Tryz.func320.trans (congrArg some (by kernel_rfl))
 f46:=⟨Tryz.f347.name,by decide,Tryz.func347.trans (congrArg some (by kernel_rfl))⟩
 f47:=Tryz.func348.trans (congrArg some (by kernel_rfl))
 f48:=Tryz.func349.trans (congrArg some (by kernel_rfl))
 f49:=⟨Tryz.f350.name,by decide,Tryz.func350.trans (congrArg some (by kernel_rfl))⟩
 f50:=⟨Tryz.f351.name,by decide,Tryz.func351.trans (congrArg some (by kernel_rfl))⟩
 f57:=⟨Tryz.f367.name,by decide,Tryz.func367.trans (congrArg some (by kernel_rfl))⟩
 t0:=Tryz.underlying0
 a0:=Tryz.isAgg0
 z0:=Tryz.sizeOf0
 v0:=Tryz.zeroValue0
 t3:=Tryz.underlying3
 a3:=Tryz.isAgg3
 z3:=Tryz.sizeOf3
 v3:=Tryz.zeroValue3
 t4:=Tryz.underlying4
 a4:=Tryz.isAgg4
 z4:=Tryz.sizeOf4
 v4:=Tryz.zeroValue4
 t5:=Tryz.underlying5
 a5:=Tryz.isAgg5
 z5:=Tryz.sizeOf5
 v5:=Tryz.zeroValue5
 t9:=Tryz.underlying9
 a9:=Tryz.isAgg9
 z9:=Tryz.sizeOf9
 v9:=Tryz.zeroValue9
 t22:=Tryz.underlying24
 a22:=Tryz.isAgg24
 z22:=Tryz.sizeOf24
 v22:=Tryz.zeroValue24
 t25:=Tryz.underlying216
 a25:=Tryz.isAgg216
 z25:=Tryz.sizeOf216
 v25:=Tryz.zeroValue216
 t39:=Tryz.underlying265
 a39:=Tryz.isAgg265
 z39:=Tryz.sizeOf265
 v39:=Tryz.zeroValue265
 t45:=Tryz.underlying299
 a45:=Tryz.isAgg299
 z45:=Tryz.sizeOf299
 v45:=Tryz.zeroValue299
 t46:=Tryz.underlying300
 a46:=Tryz.isAgg300
 z46:=Tryz.sizeOf300
 v46:=Tryz.zeroValue300
 t50:=Tryz.underlying245
 a50:=Tryz.isAgg245
 z50:=Tryz.sizeOf245
 v50:=Tryz.zeroValue245
 t53:=Tryz.underlying306
 a53:=Tryz.isAgg306
 z53:=Tryz.sizeOf306
 v53:=Tryz.zeroValue306
 t55:=Tryz.underlying267
 a55:=Tryz.isAgg267
 z55:=Tryz.sizeOf267
 v55:=Tryz.zeroValue267
 t66:=Tryz.underlying330
 a66:=Tryz.isAgg330
 z66:=Tryz.sizeOf330
 v66:=Tryz.zeroValue330
 t70:=Tryz.underlying334
 a70:=Tryz.isAgg334
 z70:=Tryz.sizeOf334
 v70:=Tryz.zeroValue334
 t76:=Tryz.underlying348
 a76:=Tryz.isAgg348
 z76:=Tryz.sizeOf348
 v76:=Tryz.zeroValue348
 t77:=Tryz.underlying287
 a77:=Tryz.isAgg287
 z77:=Tryz.sizeOf287
 v77:=Tryz.zeroValue287 }
end Go.Proofs
