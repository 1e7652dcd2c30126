/-
 What the statements of this seat hang on,part 5: Fns Te Ch Lw ShDl LDl ShFi LFi ShIn LIn ShRp LRp ShSb.
-/
import Derived.Test.YtebokaoegomboaaGreatDoorZD4
import Derived.Test.YtebokaoegomboaaGreatDoorProg
import Derived.KernelRfl
import Derived.Test.YtebokaoegomboaaGreatDoorRows
import Derived.LaidMore
import Derived.LaidSub
import Derived.Lib.LaidTab
import Derived.Stop.Joined
import Derived.Shelf.Slices.Delete
import Derived.Shelf.Spec.SlicesInsertGrow
import Derived.Ground.Names2Prog
import Derived.Lib.Agree
import Derived.Shelf.Strconv.Itoa4
import Derived.Ground.NamesProg
import Derived.Shelf.Strings.Repeat
import Derived.Shelf.Strings.Builder1
namespace Go.Proofs.YtebokaoegomboaaGreatDoor
open Go.Rt Go.RowKit
noncomputable section
structure Xf where (Xy Yt:Str) (Yp:List Str)
deriving DecidableEq,Inhabited
structure Yz where (Ys:Str) (Xb Zq:Int)
deriving DecidableEq,Inhabited
structure Xq where (Id_ Xw Xo:Int) (Xy:Str) (Xv:Int) (Yw Yv Yg:Str) (Xu Xa:Int) (Xl:Str)
deriving DecidableEq,Inhabited
structure Xk where (Xt:Int) (Xz:List Xq)
deriving DecidableEq,Inhabited
structure Xx where (Yx:List Xf) (Yj:List Yz) (Xm:Xk) (Xs:List Int)
deriving DecidableEq,Inhabited
structure Yk where (Yq:Str) (Yu:Int) (Xl:Str)
deriving DecidableEq,Inhabited
structure Xj where (Ya:Int) (Xd:List Yk)
deriving DecidableEq,Inhabited
structure Yd where (Yb:Int) (Yq:Str)
deriving DecidableEq,Inhabited
structure Xh where (Xb:Xx) (Yf:Xj) (Xc:List Yd)
deriving DecidableEq,Inhabited
structure Yc where (S_:Str) (At_:Int) (Zg:Bool)
deriving DecidableEq,Inhabited
structure Xp where (Yq:Str) (Xi Yi:Int)
deriving DecidableEq,Inhabited
structure Yn where (Zj:Xx) (Zk Ym:Int)
deriving DecidableEq,Inhabited
structure Xg where (Zh:Xj) (Zl:List Str)
deriving DecidableEq,Inhabited
structure Yh where (a0_ a1_ a2_ a3_ a4_ a5_ a6_ a7_:Int)
deriving DecidableEq,Inhabited
def Yh.l(x:Yh):List Int:=[x.a0_,x.a1_,x.a2_,x.a3_,x.a4_,x.a5_,x.a6_,x.a7_]
def Yh.of(l:List Int):Yh:=⟨az_ l 0,az_ l 1,az_ l 2,az_ l 3,az_ l 4,az_ l 5,az_ l 6,az_ l 7⟩
structure Ye where (a0_ a1_ a2_ a3_ a4_ a5_ a6_ a7_ a8_ a9_ Zo Zu Wz Wq Wx Wj Wk Wv Ww Wy Wg Wf Wm Wn Wp Wb Wc Wd Wr Wt Wl Ws Wa We Wi Wo Wu Vz Vq Vx Vj Vk Vv Vw Vy Vh Vg Vf Vm Vn Vp Vb Vc Vd Vr Vt Vl Vs Va Ve Vi Vo Vu Uz:Int)
deriving DecidableEq,Inhabited
def Ye.l(x:Ye):List Int:=[x.a0_,x.a1_,x.a2_,x.a3_,x.a4_,x.a5_,x.a6_,x.a7_,x.a8_,x.a9_,x.Zo,x.Zu,x.Wz,x.Wq,x.Wx,x.Wj,x.Wk,x.Wv,x.Ww,x.Wy,x.Wg,x.Wf,x.Wm,x.Wn,x.Wp,x.Wb,x.Wc,x.Wd,x.Wr,x.Wt,x.Wl,x.Ws,x.Wa,x.We,x.Wi,x.Wo,x.Wu,x.Vz,x.Vq,x.Vx,x.Vj,x.Vk,x.Vv,x.Vw,x.Vy,x.Vh,x.Vg,x.Vf,x.Vm,x.Vn,x.Vp,x.Vb,x.Vc,x.Vd,x.Vr,x.Vt,x.Vl,x.Vs,x.Va,x.Ve,x.Vi,x.Vo,x.Vu,x.Uz]
def Ye.of(l:List Int):Ye:=⟨az_ l 0,az_ l 1,az_ l 2,az_ l 3,az_ l 4,az_ l 5,az_ l 6,az_ l 7,az_ l 8,az_ l 9,az_ l 10,az_ l 11,az_ l 12,az_ l 13,az_ l 14,az_ l 15,az_ l 16,az_ l 17,az_ l 18,az_ l 19,az_ l 20,az_ l 21,az_ l 22,az_ l 23,az_ l 24,az_ l 25,az_ l 26,az_ l 27,az_ l 28,az_ l 29,az_ l 30,az_ l 31,az_ l 32,az_ l 33,az_ l 34,az_ l 35,az_ l 36,az_ l 37,az_ l 38,az_ l 39,az_ l 40,az_ l 41,az_ l 42,az_ l 43,az_ l 44,az_ l 45,az_ l 46,az_ l 47,az_ l 48,az_ l 49,az_ l 50,az_ l 51,az_ l 52,az_ l 53,az_ l 54,az_ l 55,az_ l 56,az_ l 57,az_ l 58,az_ l 59,az_ l 60,az_ l 61,az_ l 62,az_ l 63⟩
structure Yy where (s_:Str) (at_:Int) (Zv:Bool)
deriving DecidableEq,Inhabited
structure Xr where (Ym:Xq) (Zd:Xp)
deriving DecidableEq,Inhabited
structure Xe where (Zc:List Xq) (Zn:Int)
deriving DecidableEq,Inhabited
structure Zz where (Wh Za lo_ hi_:Int)
deriving DecidableEq,Inhabited
structure Xn where (Zs:Int) (Zr:Str)
deriving DecidableEq,Inhabited
structure Zb where (Yo Xo Zw:Int)
deriving DecidableEq,Inhabited
structure Yl where (Yo Zp:Int) (Zx:Zb) (Xv Xu Xa Xi:Int) (Xy Yw Yv Yg:Str)
deriving DecidableEq,Inhabited
structure Zy where (Yu:Int) (Ys:Str) (Id_:Int) (Xy:Str) (Zi Xv Ze:Int) (Xl:Str) (Zm:Yl) (Zf:Int)
deriving DecidableEq,Inhabited
structure Yr where (n_ Uq Zn:Int)
deriving DecidableEq,Inhabited
structure Zt where (a0_ a1_ a2_ a3_ a4_ a5_ a6_ a7_ a8_ a9_ Zo Zu Wz Wq Wx Wj Wk Wv Ww Wy:Int)
deriving DecidableEq,Inhabited
def globP:Zt:=Zt.mk 1 10 100 1000 10000 100000 1000000 10000000 100000000 1000000000 10000000000 100000000000 1000000000000 10000000000000 100000000000000 1000000000000000 10000000000000000 100000000000000000 1000000000000000000 10000000000000000000
def glob0:Ye:=Ye.mk 1116352408 1899447441 3049323471 3921009573 961987163 1508970993 2453635748 2870763221 3624381080 310598401 607225278 1426881987 1925078388 2162078206 2614888103 3248222580 3835390401 4022224774 264347078 604807628 770255983 1249150122 1555081692 1996064986 2554220882 2821834349 2952996808 3210313671 3336571891 3584528711 113926993 338241895 666307205 773529912 1294757372 1396182291 1695183700 1986661051 2177026350 2456956037 2730485921 2820302411 3259730800 3345764771 3516065817 3600352804 4094571909 275423344 430227734 506948616 659060556 883997877 958139571 1322822218 1537002063 1747873779 1955562222 2024104815 2227730452 2361852424 2428436474 2756734187 3204031479 3329325298
def g4_(x0:Xh)(s2:Int):Option (Step Int (Out Unit Bool)):=(bif(decide (s2<(x0.Xb.Yx.length:Int)))then(al_ x0.Xb.Yx s2).bind λ y2=>(bif(decide ((y2.Yp.length:Int)>10))then some (.done (.ret (false)))else some (.next (w64 (s2+1))))else some (.done (.fall ())))
def g5_(x0:Xh)(s4:Int):Option (Step Int (Out Unit Bool)):=(bif(decide (s4<(x0.Xb.Xm.Xz.length:Int)))then(al_ x0.Xb.Xm.Xz s4).bind λ y6=>Option.bind (bif(decide ((y6.Xl.length:Int)>3000))then some true else(al_ x0.Xb.Xm.Xz s4).bind λ y7=>some (decide ((y7.Xy.length:Int)>200)) ) fun(y8:Bool)=>(bif y8 then some (.done (.ret (false)))else some (.next (w64 (s4+1))))else some (.done (.fall ())))
def g6_(x0:Xh)(s6:Int):Option (Step Int (Out Unit Bool)):=(bif(decide (s6<(x0.Yf.Xd.length:Int)))then(al_ x0.Yf.Xd s6).bind λ y12=>Option.bind (bif(decide ((y12.Xl.length:Int)>2000))then some true else(al_ x0.Yf.Xd s6).bind λ y13=>some (decide ((y13.Yq.length:Int)>100)) ) fun(y14:Bool)=>(bif y14 then some (.done (.ret (false)))else some (.next (w64 (s6+1))))else some (.done (.fall ())))
def g7_(x0:Xh)(s8:Int):Option (Step Int (Out Unit Bool)):=(bif(decide (s8<(x0.Xc.length:Int)))then(al_ x0.Xc s8).bind λ y16=>(bif(decide ((y16.Yq.length:Int)>100))then some (.done (.ret (false)))else some (.next (w64 (s8+1))))else some (.done (.fall ())))
def hX_(x0:Xh):Option Bool:=(bif((((((decide ((x0.Xb.Yx.length:Int)>10))||(decide ((x0.Xb.Yj.length:Int)>10)))||(decide ((x0.Xb.Xm.Xz.length:Int)>12)))||(decide ((x0.Xb.Xs.length:Int)>20)))||(decide ((x0.Yf.Xd.length:Int)>120)))||(decide ((x0.Xc.length:Int)>6)))then some (false)else(ak_ (g4_ x0) BIG 0).bind λ wo1=>match wo1 with | .ret r1=>some r1 | .fall _=>(ak_ (g5_ x0) BIG 0).bind λ wo2=>match wo2 with | .ret r2=>some r2 | .fall _=>(ak_ (g6_ x0) BIG 0).bind λ wo3=>match wo3 with | .ret r3=>some r3 | .fall _=>(ak_ (g7_ x0) BIG 0).bind λ wo4=>match wo4 with | .ret r4=>some r4 | .fall _=>some (true))
def g8_(x0:Str)(s2:Int):Option (Step Int (Out Unit Bool)):=(bif(decide (s2<(x0.length:Int)))then(cg_ x0 s2).bind λ y2=>(bif((!((decide (y2>=97))&&(decide (y2<=122))))&&((s2==0)||(((!((decide (y2>=48))&&(decide (y2<=57))))&&(y2 != 45))&&(y2 != 95))))then some (.done (.ret (false)))else some (.next (w64 (s2+1))))else some (.done (.fall ())))
def hY_(x0:Str):Option Bool:=(bif((decide ((x0.length:Int)<1))||(decide ((x0.length:Int)>32)))then some (false)else(ak_ (g8_ x0) BIG 0).bind λ wo1=>match wo1 with | .ret r1=>some r1 | .fall _=>some (true))
def nF_(x0:List Xf)(x1:Str)(s2:Int):Option (Step Int (Out Unit Int)):=(bif(decide (s2<(x0.length:Int)))then(al_ x0 s2).bind λ y2=>(bif(y2.Xy==x1)then some (.done (.ret (s2)))else some (.next (w64 (s2+1))))else some (.done (.fall ())))
def iB_(x0:List Xf)(x1:Str):Option Int:=(ak_ (nF_ x0 x1) BIG 0).bind λ wo1=>match wo1 with | .ret r1=>some r1 | .fall _=>some ((-1))
def fh_(y1:Xf)(x0:List Xf)(s2:Int):Option (Step Int (Out Unit Int)):=(bif(decide (s2<(y1.Yp.length:Int)))then(al_ y1.Yp s2).bind λ y12=>(iB_ x0 y12).bind λ y13=>Option.bind (bif(decide (y13<0))then some true else Option.bind (bif(decide (s2>0))then(al_ y1.Yp (w64 (s2-1))).bind λ y14=>(al_ y1.Yp s2).bind λ y15=>some (!(Op.bytesLess y14 y15))else some false) fun(y16:Bool)=>some y16 ) fun(y17:Bool)=>(bif y17 then some (.done (.ret (26)))else some (.next (w64 (s2+1))))else some (.done (.fall ())))
def g9_(x0:List Xf)(x1:Int):Option Int:=(al_ x0 x1).bind λ y1=>(hY_ y1.Xy).bind λ y2=>(bif(!y2)then some (25)else(iB_ x0 y1.Xy).bind λ y3=>(bif(decide (y3<x1))then some (7)else Option.bind (bif(!(y1.Yt==[]))then(iB_ x0 y1.Yt).bind λ y4=>some (decide (y4<0))else some false) fun(y5:Bool)=>(bif y5 then some (26)else(ak_ (fh_ y1 x0) BIG 0).bind λ wo1=>match wo1 with | .ret r1=>some r1 | .fall _=>some (0))))
def j8_(x0:List Xf)(s2:Int):Option (Step Int (Out Unit Int)):=(bif(decide (s2<(x0.length:Int)))then(g9_ x0 s2).bind λ y2=>(bif(y2 != 0)then some (.done (.ret (y2)))else some (.next (w64 (s2+1))))else some (.done (.fall ())))
def kB_(x0:List Xf):Option Int:=(bif(decide ((x0.length:Int)>64))then some (22)else(ak_ (j8_ x0) BIG 0).bind λ wo1=>match wo1 with | .ret r1=>some r1 | .fall _=>some (0))
def j9_(x0:List Yz)(s2:Int):Option (Step Int (Out Unit Int)):=(bif(decide (s2<(x0.length:Int)))then(al_ x0 s2).bind λ y5=>(hY_ y5.Ys).bind λ y6=>(bif(!y6)then some (.done (.ret (25)))else Option.bind (bif(decide (s2>0))then(al_ x0 (w64 (s2-1))).bind λ y7=>some (!(Op.bytesLess y7.Ys y5.Ys))else some false) fun(y8:Bool)=>(bif y8 then some (.done (.ret (2)))else(bif((((decide (y5.Xb<0))||(decide (y5.Xb>9007199254740991)))||(decide (y5.Zq<0)))||(decide (y5.Zq>9007199254740991)))then some (.done (.ret (5)))else some (.next (w64 (s2+1))))))else some (.done (.fall ())))
def kC_(x0:List Yz):Option Int:=(bif(decide ((x0.length:Int)>64))then some (22)else(ak_ (j9_ x0) BIG 0).bind λ wo1=>match wo1 with | .ret r1=>some r1 | .fall _=>some (0))
def lV_(x0:Int):Option Bool:=(bif((decide (x0<0))||(decide (x0>=4294967296)))then some (false)else some (((((((w64 (x0-(x0.tmod 512)))==0)||((w64 (x0-(x0.tmod 512)))==2147483648))||((w64 (x0-(x0.tmod 512)))==1073741824))||((w64 (x0-(x0.tmod 512)))==536870912))||((w64 (x0-(x0.tmod 512)))==1610612736))))
def ce_(x0:Int):Option Bool:=some ((decide (x0>=2147483648)))
def gN_(x0:Xq):Option Bool:=(lV_ x0.Xv).bind λ y1=>(bif(((((((!y1)||(decide (x0.Xo<0)))||(decide (x0.Xo>2147483647)))||(decide (x0.Xu<0)))||(decide (x0.Xu>1099511627776)))||(decide (x0.Xa<0)))||(decide (x0.Xa>1099511627776)))then some (false)else(bif((((decide ((x0.Yw.length:Int)>64))||(decide ((x0.Yv.length:Int)>64)))||(decide ((x0.Yg.length:Int)>64)))||(decide ((x0.Xl.length:Int)>65536)))then some (false)else(ce_ x0.Xv).bind λ y2=>some (((!y2)||(x0.Xl==[])))))
def oa_(x0:Str)(s2:Int):Option (Step Int (Out Unit Bool)):=(bif(decide (s2<(x0.length:Int)))then(cg_ x0 s2).bind λ y6=>Option.bind (bif(decide (y6<33))then some true else(cg_ x0 s2).bind λ y7=>some (decide (y7>126)) ) fun(y8:Bool)=>Option.bind (bif y8 then some true else(cg_ x0 s2).bind λ y9=>some (y9==47) ) fun(y10:Bool)=>(bif y10 then some (.done (.ret (false)))else some (.next (w64 (s2+1))))else some (.done (.fall ())))
def hZ_(x0:Str):Option Bool:=(ak_ (oa_ x0) BIG 0).bind λ wo1=>match wo1 with | .ret r1=>some r1 | .fall _=>some (((((decide ((x0.length:Int)>=1))&&(decide ((x0.length:Int)<=64)))&&(!(x0==[46])))&&(!(x0==[46,46]))))
def em_(s4:Int)(x0:Xk)(s6:Bool×Int):Option (Step (Bool×Int) (Out Bool Bool)):=(bif(decide (s6.2<s4))then Option.bind (bif s6.1 then some true else(al_ x0.Xz s6.2).bind λ y71=>(al_ x0.Xz s4).bind λ y72=>Option.bind (bif(y71.Id_==y72.Xw)then(al_ x0.Xz s6.2).bind λ y73=>(ce_ y73.Xv).bind λ y74=>some y74 else some false) fun(y75:Bool)=>some y75 ) fun(y76:Bool)=>Option.bind (bif(decide (s6.2>0))then(al_ x0.Xz s6.2).bind λ y77=>(al_ x0.Xz s4).bind λ y78=>some (y77.Xw==y78.Xw)else some false) fun(y79:Bool)=>Option.bind (bif y79 then(al_ x0.Xz s6.2).bind λ y80=>(al_ x0.Xz s4).bind λ y81=>some (y80.Xy==y81.Xy)else some false) fun(y82:Bool)=>(bif y82 then some (.done (.ret (false)))else some (.next (y76,(w64 (s6.2+1)))))else some (.done (.fall s6.1)))
def ft_(x0:Xk)(s4:Int):Option (Step Int (Out Unit Bool)):=(bif(decide (s4<(x0.Xz.length:Int)))then(al_ x0.Xz s4).bind λ y48=>(al_ x0.Xz (w64 (s4-1))).bind λ y49=>Option.bind (bif(decide (y48.Id_<=y49.Id_))then some true else(al_ x0.Xz s4).bind λ y50=>(al_ x0.Xz s4).bind λ y51=>some (decide (y50.Xw>=y51.Id_)) ) fun(y52:Bool)=>Option.bind (bif y52 then some true else(al_ x0.Xz s4).bind λ y53=>(hZ_ y53.Xy).bind λ y54=>some (!y54) ) fun(y55:Bool)=>Option.bind (bif y55 then some true else(al_ x0.Xz s4).bind λ y56=>(gN_ y56).bind λ y57=>some (!y57) ) fun(y58:Bool)=>(bif y58 then some (.done (.ret (false)))else(ak_ (em_ s4 x0) BIG (false,0)).bind λ wo2=>match wo2 with | .ret r2=>some (.done (.ret r2)) | .fall o2=>(bif(!o2)then some (.done (.ret (false)))else some (.next (w64 (s4+1)))))else some (.done (.fall ())))
def eg_(x0:Xk):Option Bool:=Option.bind (bif((decide ((x0.Xz.length:Int)<1))||(decide ((x0.Xz.length:Int)>1024)))then some true else(al_ x0.Xz 0).bind λ y1=>some (y1.Id_ != 1) ) fun(y2:Bool)=>Option.bind (bif y2 then some true else(al_ x0.Xz 0).bind λ y3=>some (y3.Xw != 1) ) fun(y4:Bool)=>Option.bind (bif y4 then some true else(al_ x0.Xz 0).bind λ y5=>some (!(y5.Xy==[47])) ) fun(y6:Bool)=>Option.bind (bif y6 then some true else(al_ x0.Xz 0).bind λ y7=>some (decide (y7.Xv<2147483648)) ) fun(y8:Bool)=>Option.bind (bif y8 then some true else(al_ x0.Xz 0).bind λ y9=>(gN_ y9).bind λ y10=>some (!y10) ) fun(y11:Bool)=>(bif y11 then some (false)else(al_ x0.Xz (w64 ((x0.Xz.length:Int)-1))).bind λ y12=>(bif((decide (x0.Xt<=y12.Id_))||(decide (x0.Xt>1048576)))then some (false)else(ak_ (ft_ x0) BIG 1).bind λ wo3=>match wo3 with | .ret r3=>some r3 | .fall _=>some (true)))
def ka_(x0:Xk)(x1:Int)(s2:Int):Option (Step Int (Out Unit Int)):=(bif(decide (s2<(x0.Xz.length:Int)))then(al_ x0.Xz s2).bind λ y2=>(bif(y2.Id_==x1)then some (.done (.ret (s2)))else some (.next (w64 (s2+1))))else some (.done (.fall ())))
def nG_(x0:Xk)(x1:Int):Option Int:=(ak_ (ka_ x0 x1) BIG 0).bind λ wo1=>match wo1 with | .ret r1=>some r1 | .fall _=>some ((-1))
def ha_(x0:Xk)(x1:Int):Option (Xq×Bool):=(nG_ x0 x1).bind λ y1=>(bif(decide (y1<0))then some (((Xq.mk 0 0 0 [] 0 [] [] [] 0 0 []),false))else(al_ x0.Xz y1).bind λ y2=>some ((y2,true)))
def eW_(x0:Int)(x1:Int):Option Bool:=Option.bind (bif(decide (x0>=0))then(quoI .i64 x0 x1).bind λ y1=>some ((y1.tmod 2)==1)else some false) fun(y2:Bool)=>some (y2)
def hb_(x0:Xx)(s2:Int):Option (Step Int (Out Unit Bool)):=(bif(decide (s2<(x0.Xs.length:Int)))then(al_ x0.Xs s2).bind λ y14=>(ha_ x0.Xm y14).bind λ y15=>Option.bind (bif(!y15.2)then some true else(eW_ y15.1.Xv 536870912).bind λ y16=>some (!y16) ) fun(y17:Bool)=>Option.bind (bif y17 then some true else Option.bind (bif(decide (s2>0))then(al_ x0.Xs (w64 (s2-1))).bind λ y18=>(al_ x0.Xs s2).bind λ y19=>some (decide (y18>=y19))else some false) fun(y20:Bool)=>some y20 ) fun(y21:Bool)=>(bif y21 then some (.done (.ret (false)))else some (.next (w64 (s2+1))))else some (.done (.fall ())))
def kD_(x0:Xx):Option Bool:=(kB_ x0.Yx).bind λ y1=>Option.bind (bif(y1 != 0)then some true else(kC_ x0.Yj).bind λ y2=>some (y2 != 0) ) fun(y3:Bool)=>Option.bind (bif y3 then some true else(eg_ x0.Xm).bind λ y4=>some (!y4) ) fun(y5:Bool)=>(bif y5 then some (false)else(ak_ (hb_ x0) BIG 0).bind λ wo1=>match wo1 with | .ret r1=>some r1 | .fall _=>some (true))
def tr_(x0:Int):Option Bool:=some (((decide (x0>=1))&&(decide (x0<=4))))
def kE_(x0:List Yk)(x1:Str)(s2:Int):Option (Step Int (Out Unit Int)):=(bif(decide (s2<(x0.length:Int)))then(al_ x0 s2).bind λ y2=>(bif(y2.Yq==x1)then some (.done (.ret (s2)))else some (.next (w64 (s2+1))))else some (.done (.fall ())))
def mx_(x0:List Yk)(x1:Str):Option Int:=(ak_ (kE_ x0 x1) BIG 0).bind λ wo1=>match wo1 with | .ret r1=>some r1 | .fall _=>some ((-1))
def hc_(x0:Xj)(s2:Int):Option (Step Int (Out Unit Bool)):=(bif(decide (s2<(x0.Xd.length:Int)))then(al_ x0.Xd s2).bind λ y6=>(tr_ y6.Yu).bind λ y7=>Option.bind (bif(((!y7)||(decide ((y6.Xl.length:Int)>1024)))||((y6.Yq.length:Int) != 32))then some true else(bz_ x0.Xd 0 s2).bind λ y8=>(mx_ y8 y6.Yq).bind λ y9=>some (decide (y9>=0)) ) fun(y10:Bool)=>(bif y10 then some (.done (.ret (false)))else some (.next (w64 (s2+1))))else some (.done (.fall ())))
def h0_(x0:Xj):Option Bool:=(bif(((decide (x0.Ya<1))||(decide (x0.Ya>4096)))||(decide ((x0.Xd.length:Int)>x0.Ya)))then some (false)else(ak_ (hc_ x0) BIG 0).bind λ wo1=>match wo1 with | .ret r1=>some r1 | .fall _=>some (true))
def ref14_big_L1(x1:Int)(s2:Int×Str×Int):Option (Step (Int×Str×Int) Str):=(bif(decide (s2.2.2<x1))then(cat (bytesS [(IntKind.u8.wrap (s2.1.tmod 256))]) s2.2.1).bind λ y2=>some (.next ((IntKind.u64.wrap (s2.1.tdiv 256)),y2,(w64 (s2.2.2+1))))else some (.done s2.2.1))
def gO_(x0:Int)(x1:Int):Option Str:=Option.bind (ak_ (ref14_big_L1 x1) BIG (x0,[],0)) fun(o1:Str)=>some (o1)
def eX_(s2:Str):Option (Step Str Str):=(bif(((s2.length:Int).tmod 64) != 56)then(cat s2 [0]).bind λ y3=>some (.next y3)else some (.done s2))
def ji_(x0:Str):Option Str:=(cat x0 [128]).bind λ y1=>(ak_ eX_ BIG y1).bind λ o1=>(gO_ (IntKind.u64.wrap ((IntKind.u64.wrap (x0.length:Int))*8)) 8).bind λ y4=>(cat o1 y4).bind λ y5=>some (y5)
def nf_:Option (List Int):=some ([1116352408,1899447441,3049323471,3921009573,961987163,1508970993,2453635748,2870763221,3624381080,310598401,607225278,1426881987,1925078388,2162078206,2614888103,3248222580,3835390401,4022224774,264347078,604807628,770255983,1249150122,1555081692,1996064986,2554220882,2821834349,2952996808,3210313671,3336571891,3584528711,113926993,338241895,666307205,773529912,1294757372,1396182291,1695183700,1986661051,2177026350,2456956037,2730485921,2820302411,3259730800,3345764771,3516065817,3600352804,4094571909,275423344,430227734,506948616,659060556,883997877,958139571,1322822218,1537002063,1747873779,1955562222,2024104815,2227730452,2361852424,2428436474,2756734187,3204031479,3329325298])
def aT_(x0:Int)(x1:Int):Option Int:=(shrI .u32 x0 x1).bind λ y1=>(shlI .u32 x0 (w64 (32-x1))).bind λ y2=>some ((orI .u32 y1 y2))
def hD_(x0:Str)(s2:Int×(List Int)):Option (Step (Int×(List Int)) (List Int)):=(bif(decide (s2.1<16))then(cg_ x0 (w64 (4*s2.1))).bind λ y6=>(cg_ x0 (w64 ((w64 (4*s2.1))+1))).bind λ y7=>(cg_ x0 (w64 ((w64 (4*s2.1))+2))).bind λ y8=>(cg_ x0 (w64 ((w64 (4*s2.1))+3))).bind λ y9=>(room 4 s2.2 [(orI .u32 (orI .u32 (orI .u32 (IntKind.u32.wrap ((IntKind.u32.wrap y6)*2^24)) (IntKind.u32.wrap ((IntKind.u32.wrap y7)*2^16))) (IntKind.u32.wrap ((IntKind.u32.wrap y8)*2^8))) (IntKind.u32.wrap y9))]).bind λ y10=>some (.next ((w64 (s2.1+1)),y10))else some (.done s2.2))
def hE_(s4:Int×(List Int)):Option (Step (Int×(List Int)) (List Int)):=(bif(decide (s4.1<64))then(al_ s4.2 (w64 (s4.1-15))).bind λ y20=>(al_ s4.2 (w64 (s4.1-2))).bind λ y21=>(aT_ y20 7).bind λ y22=>(aT_ y20 18).bind λ y23=>(aT_ y21 17).bind λ y24=>(aT_ y21 19).bind λ y25=>(al_ s4.2 (w64 (s4.1-16))).bind λ y26=>(al_ s4.2 (w64 (s4.1-7))).bind λ y27=>(room 4 s4.2 [(IntKind.u32.wrap ((IntKind.u32.wrap ((IntKind.u32.wrap (y26+(bH_ .u32 (bH_ .u32 y22 y23) (y20.fdiv (2^3)))))+y27))+(bH_ .u32 (bH_ .u32 y24 y25) (y21.fdiv (2^10)))))]).bind λ y28=>some (.next ((w64 (s4.1+1)),y28))else some (.done s4.2))
def hd_(x0:Str):Option (List Int):=(ak_ (hD_ x0) BIG (0,[])).bind λ o1=>(ak_ hE_ BIG (16,o1)).bind λ o2=>some (o2)
def kb_(s2:Int×Int×Int×Int×Int×Int×Int×Int×Int×(List Int)×(List Int)):Option (Step (Int×Int×Int×Int×Int×Int×Int×Int×Int×(List Int)×(List Int)) (Int×Int×Int×Int×Int×Int×Int×Int)):=(bif(decide (s2.2.2.2.2.2.2.2.2.1<64))then(aT_ s2.2.2.2.2.1 6).bind λ y19=>(aT_ s2.2.2.2.2.1 11).bind λ y20=>(aT_ s2.2.2.2.2.1 25).bind λ y21=>(al_ s2.2.2.2.2.2.2.2.2.2.1 s2.2.2.2.2.2.2.2.2.1).bind λ y22=>(al_ s2.2.2.2.2.2.2.2.2.2.2 s2.2.2.2.2.2.2.2.2.1).bind λ y23=>(aT_ s2.1 2).bind λ y24=>(aT_ s2.1 13).bind λ y25=>(aT_ s2.1 22).bind λ y26=>some (.next ((IntKind.u32.wrap ((IntKind.u32.wrap ((IntKind.u32.wrap ((IntKind.u32.wrap ((IntKind.u32.wrap (s2.2.2.2.2.2.2.2.1+(bH_ .u32 (bH_ .u32 y19 y20) y21)))+(bH_ .u32 (bR_ .u32 s2.2.2.2.2.1 s2.2.2.2.2.2.1) (bR_ .u32 (bH_ .u32 4294967295 s2.2.2.2.2.1) s2.2.2.2.2.2.2.1))))+y22))+y23))+(IntKind.u32.wrap ((bH_ .u32 (bH_ .u32 y24 y25) y26)+(bH_ .u32 (bH_ .u32 (bR_ .u32 s2.1 s2.2.1) (bR_ .u32 s2.1 s2.2.2.1)) (bR_ .u32 s2.2.1 s2.2.2.1)))))),s2.1,s2.2.1,s2.2.2.1,(IntKind.u32.wrap (s2.2.2.2.1+(IntKind.u32.wrap ((IntKind.u32.wrap ((IntKind.u32.wrap ((IntKind.u32.wrap (s2.2.2.2.2.2.2.2.1+(bH_ .u32 (bH_ .u32 y19 y20) y21)))+(bH_ .u32 (bR_ .u32 s2.2.2.2.2.1 s2.2.2.2.2.2.1) (bR_ .u32 (bH_ .u32 4294967295 s2.2.2.2.2.1) s2.2.2.2.2.2.2.1))))+y22))+y23)))),s2.2.2.2.2.1,s2.2.2.2.2.2.1,s2.2.2.2.2.2.2.1,(w64 (s2.2.2.2.2.2.2.2.2.1+1)),s2.2.2.2.2.2.2.2.2.2.1,s2.2.2.2.2.2.2.2.2.2.2))else some (.done (s2.1,s2.2.1,s2.2.2.1,s2.2.2.2.1,s2.2.2.2.2.1,s2.2.2.2.2.2.1,s2.2.2.2.2.2.2.1,s2.2.2.2.2.2.2.2.1)))
def kF_(x0:List Int)(x1:Str):Option (List Int):=(nf_).bind λ y1=>(hd_ x1).bind λ y2=>(al_ x0 0).bind λ y3=>(al_ x0 1).bind λ y4=>(al_ x0 2).bind λ y5=>(al_ x0 3).bind λ y6=>(al_ x0 4).bind λ y7=>(al_ x0 5).bind λ y8=>(al_ x0 6).bind λ y9=>(al_ x0 7).bind λ y10=>(ak_ kb_ BIG (y3,y4,y5,y6,y7,y8,y9,y10,0,y1,y2)).bind λ o1=>(al_ x0 0).bind λ y27=>(al_ x0 1).bind λ y28=>(al_ x0 2).bind λ y29=>(al_ x0 3).bind λ y30=>(al_ x0 4).bind λ y31=>(al_ x0 5).bind λ y32=>(al_ x0 6).bind λ y33=>(al_ x0 7).bind λ y34=>some ([(IntKind.u32.wrap (y27+o1.1)),(IntKind.u32.wrap (y28+o1.2.1)),(IntKind.u32.wrap (y29+o1.2.2.1)),(IntKind.u32.wrap (y30+o1.2.2.2.1)),(IntKind.u32.wrap (y31+o1.2.2.2.2.1)),(IntKind.u32.wrap (y32+o1.2.2.2.2.2.1)),(IntKind.u32.wrap (y33+o1.2.2.2.2.2.2.1)),(IntKind.u32.wrap (y34+o1.2.2.2.2.2.2.2))])
def my_(y1:Str)(s2:Int×(List Int)):Option (Step (Int×(List Int)) (List Int)):=(bif(decide (s2.1<(y1.length:Int)))then(bz_ y1 s2.1 (w64 (s2.1+64))).bind λ y4=>(kF_ s2.2 y4).bind λ y5=>some (.next ((w64 (s2.1+64)),y5))else some (.done s2.2))
def mz_(s4:Str×Int×(List Int)):Option (Step (Str×Int×(List Int)) Str):=(bif(decide (s4.2.1<8))then(al_ s4.2.2 s4.2.1).bind λ y9=>(gO_ (IntKind.u64.wrap y9) 4).bind λ y10=>(cat s4.1 y10).bind λ y11=>some (.next (y11,(w64 (s4.2.1+1)),s4.2.2))else some (.done s4.1))
def ng_(x0:Str):Option Str:=(ji_ x0).bind λ y1=>(ak_ (my_ y1) BIG (0,[1779033703,3144134277,1013904242,2773480762,1359893119,2600822924,528734635,1541459225])).bind λ o1=>Option.bind (ak_ mz_ BIG ([],0,o1)) fun(o2:Str)=>some (o2)
def kG_(x0:Int)(x1:Str):Option Str:=(cat (bytesS [(IntKind.u8.wrap ((w64 ((x0.tmod 256)+256)).tmod 256))]) x1).bind λ y1=>(ng_ y1).bind λ y2=>some (y2)
def nh_(x0:Xj)(x1:Str)(x2:Int):Option (Str×Int):=(mx_ x0.Xd x1).bind λ y1=>(bif(decide (y1<0))then some (([],35))else(al_ x0.Xd y1).bind λ y2=>(bif(y2.Yu != x2)then some (([],1))else(kG_ x2 y2.Xl).bind λ y3=>(bif(!(y3==x1))then some (([],34))else some ((y2.Xl,0)))))
def gc_(x0:Xj)(x1:Str)(x2:Int):Option (Str×Int):=(nh_ x0 x1 x2).bind λ y1=>(bif(y1.2==1)then some (([],2))else some ((y1.1,y1.2)))
def b5_(x0:Yc)(s2:Int×Int):Option (Step (Int×Int) (Out Int (Int×Yc))):=(bif(decide (s2.2>=0))then(bif(decide (s2.1>=36028797018963968))then some (.done (.ret ((0,(Yc.mk x0.S_ x0.At_ true)))))else(cg_ x0.S_ (w64 (x0.At_+s2.2))).bind λ y2=>some (.next ((w64 ((w64 (s2.1*256))+(w64 (y2)))),(w64 (s2.2-1)))))else some (.done (.fall s2.1)))
def aC_(x0:Yc)(x1:Int):Option (Int×Yc):=(bif(x0.Zg||(decide ((w64 ((x0.S_.length:Int)-x0.At_))<x1)))then some ((0,(Yc.mk x0.S_ x0.At_ true)))else(ak_ (b5_ x0) BIG (0,(w64 (x1-1)))).bind λ wo1=>match wo1 with | .ret r1=>some r1 | .fall o1=>some ((o1,(Yc.mk x0.S_ (w64 (x0.At_+x1)) x0.Zg))))
def bI_(x0:Yc)(x1:Int):Option (Str×Yc):=(bif(x0.Zg||(decide ((w64 ((x0.S_.length:Int)-x0.At_))<x1)))then some (([],(Yc.mk x0.S_ x0.At_ true)))else(bz_ x0.S_ (w64 ((w64 (x0.At_+x1))-x1)) (w64 (x0.At_+x1))).bind λ y1=>some ((y1,(Yc.mk x0.S_ (w64 (x0.At_+x1)) x0.Zg))))
def et_(x0:Yc):Option (Xq×Xp×Yc):=(aC_ x0 4).bind λ y1=>(aC_ y1.2 4).bind λ y2=>(aC_ y2.2 4).bind λ y3=>(aC_ y3.2 4).bind λ y4=>(aC_ y4.2 8).bind λ y5=>(aC_ y5.2 8).bind λ y6=>(aC_ y6.2 2).bind λ y7=>(bI_ y7.2 y7.1).bind λ y8=>(aC_ y8.2 2).bind λ y9=>(bI_ y9.2 y9.1).bind λ y10=>(aC_ y10.2 2).bind λ y11=>(bI_ y11.2 y11.1).bind λ y12=>(aC_ y12.2 2).bind λ y13=>(bI_ y13.2 y13.1).bind λ y14=>(aC_ y14.2 4).bind λ y15=>(aC_ y15.2 1).bind λ y16=>(bI_ y16.2 32).bind λ y17=>some (((Xq.mk y1.1 y2.1 y3.1 y8.1 y4.1 y10.1 y12.1 y14.1 y5.1 y6.1 []),(Xp.mk y17.1 y15.1 y16.1),y17.2))
def jj_(s2:Int×Int):Option (Step (Int×Int) Int):=(bif(decide (s2.1>1))then some (.next ((IntKind.i64.wrap ((w64 ((w64 (s2.1+32))-1)).tdiv 32)),(w64 (s2.2+1))))else some (.done s2.2))
def jk_(x0:Int):Option Int:=(ak_ jj_ BIG ((cv_ 1 (IntKind.i64.wrap ((w64 ((w64 (x0+1024))-1)).tdiv 1024))),0)).bind λ o1=>some (o1)
def h1_(x0:Xp):Option Bool:=Option.bind (bif((((x0.Yq.length:Int)==32)&&(decide (x0.Xi>=0)))&&(decide (x0.Xi<=1048576)))then(jk_ x0.Xi).bind λ y1=>some (x0.Yi==y1)else some false) fun(y2:Bool)=>some (y2)
def we_(x0:Int)(s2:Int×Int):Option (Step (Int×Int) Int):=(bif(decide (s2.2<x0))then some (.next ((w64 (s2.1*32)),(w64 (s2.2+1))))else some (.done s2.1))
def he_(x0:Int):Option Int:=(ak_ (we_ x0) BIG (1024,0)).bind λ o1=>some (o1)
def ie_(y5:Int)(x5:Int)(y4:Int)(x4:Int)(x6:Int)(x7:Bool)(y3:Str×Int)(rec0:Xj->Str->Int->Int->Int->Int->Int->Bool->Option (Str×Int))(x0:Xj)(x2:Int)(x3:Int)(s2:Str×Int):Option (Step (Str×Int) (Out Str (Str×Int))):=(bif(decide (s2.2<y5))then Option.bind ( (bif((decide ((ck_ (cv_ (w64 (x5-(w64 (s2.2*y4)))) 0) (ck_ y4 (w64 (x4-(w64 (s2.2*y4))))))>=(ck_ (cv_ (w64 (x6-(w64 (s2.2*y4)))) 0) (ck_ y4 (w64 (x4-(w64 (s2.2*y4))))))))&&(!x7))then some (.fall s2.1)else(bz_ y3.1 (w64 (32*s2.2)) (w64 ((w64 (32*s2.2))+32))).bind λ y9=>(rec0 x0 y9 x2 (w64 (x3-1)) (ck_ y4 (w64 (x4-(w64 (s2.2*y4))))) (ck_ (cv_ (w64 (x5-(w64 (s2.2*y4)))) 0) (ck_ y4 (w64 (x4-(w64 (s2.2*y4)))))) (ck_ (cv_ (w64 (x6-(w64 (s2.2*y4)))) 0) (ck_ y4 (w64 (x4-(w64 (s2.2*y4)))))) x7).bind λ y10=>(bif(y10.2 != 0)then some (.ret (([],y10.2)))else(cat s2.1 y10.1).bind λ y11=>some (.fall y11))) ) fun(wo2:Out Str (Str×Int))=>match wo2 with | .ret r2=>some (.done (.ret r2)) | .fall o2=>some (.next (o2,(w64 (s2.2+1))))else some (.done (.fall s2.1)))
def fu_(rec0:Xj->Str->Int->Int->Int->Int->Int->Bool->Option (Str×Int))(x0:Xj)(x1:Str)(x2:Int)(x3:Int)(x4:Int)(x5:Int)(x6:Int)(x7:Bool):Option (Str×Int):=(bif(x3==0)then(gc_ x0 x1 x2).bind λ y1=>(bif(y1.2 != 0)then some (([],y1.2))else(bif((y1.1.length:Int) != x4)then some (([],2))else(bz_ y1.1 x5 x6).bind λ y2=>some ((y2,0))))else(gc_ x0 x1 2).bind λ y3=>(bif(y3.2 != 0)then some (([],y3.2))else(he_ (w64 (x3-1))).bind λ y4=>(quoI .i64 (w64 ((w64 (x4+y4))-1)) y4).bind λ y5=>(bif((y3.1.length:Int) != (w64 (32*y5)))then some (([],2))else Option.bind (ak_ (ie_ y5 x5 y4 x4 x6 x7 y3 rec0 x0 x2 x3) BIG ([],0)) fun(wo3:Out Str (Str×Int))=>match wo3 with | .ret r3=>some r3 | .fall o3=>some ((o3,0)))))
def eY_:Nat->Xj->Str->Int->Int->Int->Int->Int->Bool->Option (Str×Int) | 0=>λ _ _ _ _ _ _ _ _=>none|n+1=>fu_ (eY_ n)
def do_(x0:Xj)(x1:Int)(x2:Xp):Option (Str×Int):=(h1_ x2).bind λ y1=>(bif(!y1)then some (([],2))else(eY_ BIG x0 x2.Yq x1 x2.Yi x2.Xi 0 x2.Xi true).bind λ y2=>some ((y2.1,y2.2)))
def cp_(y5:Str×Int)(x1:Xq)(s2:(List Xq)×(List Xp)×Yc):Option (Step ((List Xq)×(List Xp)×Yc) (Out ((List Xq)×(List Xp)) ((List Xq)×Int))):=(bif(decide (s2.2.2.At_<(y5.1.length:Int)))then(et_ s2.2.2).bind λ y9=>(bif(y9.2.2.Zg||(y9.1.Xw != x1.Id_))then some (.done (.ret (([],2))))else(room 128 s2.1 [y9.1]).bind λ y10=>(room 32 s2.2.1 [y9.2.1]).bind λ y11=>some (.next (y10,y11,y9.2.2)))else some (.done (.fall (s2.1,s2.2.1))))
def dp_(rec0:Xj->Xq->Xp->Int->Option ((List Xq)×Int))(x0:Xj)(x3:Int)(s4:Int×(List Xq)×(List Xp)×(List Xq)):Option (Step (Int×(List Xq)×(List Xp)×(List Xq)) (Out (List Xq) ((List Xq)×Int))):=(bif(decide (s4.1<(s4.2.1.length:Int)))then(al_ s4.2.1 s4.1).bind λ y16=>(al_ s4.2.2.1 s4.1).bind λ y17=>(rec0 x0 y16 y17 (w64 (x3-(s4.2.2.2.length:Int)))).bind λ y18=>(bif(y18.2 != 0)then some (.done (.ret (([],y18.2))))else(room 128 s4.2.2.2 y18.1).bind λ y19=>some (.next ((w64 (s4.1+1)),s4.2.1,s4.2.2.1,y19)))else some (.done (.fall s4.2.2.2)))
def c6_(rec0:Xj->Xq->Xp->Int->Option ((List Xq)×Int))(x0:Xj)(x1:Xq)(x2:Xp)(x3:Int):Option ((List Xq)×Int):=Option.bind (bif(decide (x3<1))then some true else(h1_ x2).bind λ y1=>some (!y1) ) fun(y2:Bool)=>(bif y2 then some (([],2))else(ce_ x1.Xv).bind λ y3=>(bif(!y3)then(do_ x0 1 x2).bind λ y4=>some (([(Xq.mk x1.Id_ x1.Xw x1.Xo x1.Xy x1.Xv x1.Yw x1.Yv x1.Yg x1.Xu x1.Xa y4.1)],y4.2))else(do_ x0 3 x2).bind λ y5=>(bif(y5.2 != 0)then some (([],y5.2))else Option.bind (ak_ (cp_ y5 x1) BIG ([],[],(Yc.mk y5.1 0 false))) fun(wo1:Out ((List Xq)×(List Xp)) ((List Xq)×Int))=>match wo1 with | .ret r1=>some r1 | .fall o1=>(ak_ (dp_ rec0 x0 x3) BIG (0,o1.1,o1.2,[x1])).bind λ wo2=>match wo2 with | .ret r2=>some r2 | .fall o2=>some ((o2,0)))))
def cH_:Nat->Xj->Xq->Xp->Int->Option ((List Xq)×Int) | 0=>λ _ _ _ _=>none|n+1=>c6_ (cH_ n)
def gt_(s4:(List Xq)×Int)(x0:List Xq)(s6:Int):Option (Step Int Int):=Option.bind (bif(decide (s6<(s4.1.length:Int)))then(al_ s4.1 s6).bind λ y10=>(al_ x0 s4.2).bind λ y11=>some (decide (y10.Id_<=y11.Id_))else some false) fun(y12:Bool)=>(bif y12 then some (.next (w64 (s6+1)))else some (.done s6))
def gu_(x0:List Xq)(s4:(List Xq)×Int):Option (Step ((List Xq)×Int) (List Xq)):=(bif(decide (s4.2<(x0.length:Int)))then(ak_ (gt_ s4 x0) BIG 0).bind λ o2=>(bz_ s4.1 0 o2).bind λ y13=>(room 128 ([]:List Xq) y13).bind λ y14=>(al_ x0 s4.2).bind λ y15=>(room 128 y14 [y15]).bind λ y16=>(bz_ s4.1 o2 (s4.1.length:Int)).bind λ y17=>(room 128 y16 y17).bind λ y18=>some (.next (y18,(w64 (s4.2+1))))else some (.done s4.1))
def jl_(x0:List Xq):Option (List Xq):=Option.bind (ak_ (gu_ x0) BIG ([],0)) fun(o3:(List Xq))=>some (o3)
def eG_(x0:Xj)(x1:Str):Option (Xk×Int):=(gc_ x0 x1 4).bind λ y1=>(bif(y1.2 != 0)then some (((Xk.mk 0 []),y1.2))else(aC_ (Yc.mk y1.1 0 false) 4).bind λ y2=>(aC_ y2.2 4).bind λ y3=>(et_ y3.2).bind λ y4=>(bif(((y4.2.2.Zg||(y4.2.2.At_ != (y1.1.length:Int)))||(decide (y3.1<1)))||(decide (y3.1>1024)))then some (((Xk.mk 0 []),2))else(cH_ BIG x0 y4.1 y4.2.1 y3.1).bind λ y5=>(bif(y5.2 != 0)then some (((Xk.mk 0 []),y5.2))else(jl_ y5.1).bind λ y6=>Option.bind (bif((y5.1.length:Int) != y3.1)then some true else(eg_ (Xk.mk y2.1 y6)).bind λ y7=>some (!y7) ) fun(y8:Bool)=>(bif y8 then some (((Xk.mk 0 []),2))else some (((Xk.mk y2.1 y6),0))))))
def hf_(x0:Xh)(s2:Int):Option (Step Int (Out Unit Bool)):=(bif(decide (s2<(x0.Xc.length:Int)))then(al_ x0.Xc s2).bind λ y12=>Option.bind (bif((decide (y12.Yb<0))||(decide (y12.Yb>1099511627776)))then some true else Option.bind (bif(decide (s2>0))then(al_ x0.Xc (w64 (s2-1))).bind λ y13=>some (decide (y13.Yb>=y12.Yb))else some false) fun(y14:Bool)=>some y14 ) fun(y15:Bool)=>(bif y15 then some (.done (.ret (false)))else(eG_ x0.Yf y12.Yq).bind λ y16=>Option.bind (bif(y16.2 != 0)then some true else(eg_ y16.1).bind λ y17=>some (!y17) ) fun(y18:Bool)=>(bif y18 then some (.done (.ret (false)))else some (.next (w64 (s2+1)))))else some (.done (.fall ())))
def h2_(x0:Xh):Option Bool:=Option.bind (bif(decide ((x0.Xc.length:Int)>64))then some true else(kD_ x0.Xb).bind λ y1=>some (!y1) ) fun(y2:Bool)=>Option.bind (bif y2 then some true else(h0_ x0.Yf).bind λ y3=>some (!y3) ) fun(y4:Bool)=>(bif y4 then some (false)else(ak_ (hf_ x0) BIG 0).bind λ wo1=>match wo1 with | .ret r1=>some r1 | .fall _=>some (true))
def if_(x0:Str)(s2:Int):Option (Step Int (Out Unit Bool)):=(bif(decide (s2<(x0.length:Int)))then(cg_ x0 s2).bind λ y2=>(bif((!((decide (y2>=97))&&(decide (y2<=122))))&&((s2==0)||(!((((decide (y2>=48))&&(decide (y2<=57)))||(y2==45))||(y2==95)))))then some (.done (.ret (false)))else some (.next (w64 (s2+1))))else some (.done (.fall ())))
def eZ_(x0:Str):Option Bool:=(bif((x0==[])||(decide ((x0.length:Int)>32)))then some (false)else(ak_ (if_ x0) BIG 0).bind λ wo1=>match wo1 with | .ret r1=>some r1 | .fall _=>some (true))
def gv_(x1:List Str)(x0:List Str×List Int)(s2:Int):Option (Step Int (Out Unit (Int×(List Str)×(List Int)))):=(bif(decide (s2<(x1.length:Int)))then(al_ x1 s2).bind λ y4=>(bif((aG_ eqS x0.1 x0.2 y4 0)==0)then some (.done (.ret ((26,x0.1,x0.2))))else Option.bind (bif(decide (s2>0))then(al_ x1 (w64 (s2-1))).bind λ y5=>some (!(Op.bytesLess y5 y4))else some false) fun(y6:Bool)=>(bif y6 then some (.done (.ret ((26,x0.1,x0.2))))else some (.next (w64 (s2+1)))))else some (.done (.fall ())))
def jm_(x0:List Str×List Int)(x1:List Str):Option (Int×(List Str)×(List Int)):=(ak_ (gv_ x1 x0) BIG 0).bind λ wo1=>match wo1 with | .ret r1=>some r1 | .fall _=>some ((0,x0.1,x0.2))
def ig_(x0:List Xf)(s2:Int×(List Str)×(List Int)):Option (Step (Int×(List Str)×(List Int)) ((List Str)×(List Int))):=(bif(decide (s2.1<(x0.length:Int)))then(al_ x0 s2.1).bind λ y2=>some (.next ((w64 (s2.1+1)),(aQ_ eqS s2.2.1 y2.Xy),(bm_ eqS s2.2.1 s2.2.2 y2.Xy (w64 ((aG_ eqS s2.2.1 s2.2.2 y2.Xy 0)+1)))))else some (.done (s2.2.1,s2.2.2)))
def f1_(x0:List Xf)(s4:Int×(List Str)×(List Int)×(List Str)×(List Int)):Option (Step (Int×(List Str)×(List Int)×(List Str)×(List Int)) (Out Unit Int)):=(bif(decide (s4.1<(x0.length:Int)))then(al_ x0 s4.1).bind λ y7=>(eZ_ y7.Xy).bind λ y8=>(bif(!y8)then some (.done (.ret (25)))else(bif(decide ((aG_ eqS s4.2.2.2.1 s4.2.2.2.2 y7.Xy 0)>0))then some (.done (.ret (7)))else Option.bind (bif(!(y7.Yt==[]))then some ((aG_ eqS s4.2.1 s4.2.2.1 y7.Yt 0)==0)else some false) fun(y9:Bool)=>(bif y9 then some (.done (.ret (26)))else(jm_ (s4.2.1,s4.2.2.1) y7.Yp).bind λ y10=>(bif(y10.1 != 0)then some (.done (.ret (y10.1)))else some (.next ((w64 (s4.1+1)),y10.2.1,y10.2.2,(aQ_ eqS s4.2.2.2.1 y7.Xy),(bm_ eqS s4.2.2.2.1 s4.2.2.2.2 y7.Xy (w64 ((aG_ eqS s4.2.2.2.1 s4.2.2.2.2 y7.Xy 0)+1)))))))))else some (.done (.fall ())))
def hg_(x0:List Xf):Option Int:=(bif(decide ((x0.length:Int)>64))then some (22)else(ak_ (ig_ x0) BIG (0,([]:List Str),([]:List Int))).bind λ o1=>(ak_ (f1_ x0) BIG (0,o1.1,o1.2,([]:List Str),([]:List Int))).bind λ wo2=>match wo2 with | .ret r2=>some r2 | .fall _=>some (0))
def kc_(x0:List Yz)(s2:Int):Option (Step Int (Out Unit Int)):=(bif(decide (s2<(x0.length:Int)))then(al_ x0 s2).bind λ y5=>(eZ_ y5.Ys).bind λ y6=>(bif(!y6)then some (.done (.ret (25)))else Option.bind (bif(decide (s2>0))then(al_ x0 (w64 (s2-1))).bind λ y7=>some (Op.bytesLess y5.Ys y7.Ys||y5.Ys==y7.Ys)else some false) fun(y8:Bool)=>(bif y8 then some (.done (.ret (2)))else(bif((decide ((ck_ y5.Xb y5.Zq)<0))||(decide ((cv_ y5.Xb y5.Zq)>9007199254740991)))then some (.done (.ret (5)))else some (.next (w64 (s2+1))))))else some (.done (.fall ())))
def gd_(x0:List Yz):Option Int:=(bif(decide ((x0.length:Int)>64))then some (22)else(ak_ (kc_ x0) BIG 0).bind λ wo1=>match wo1 with | .ret r1=>some r1 | .fall _=>some (0))
def bj_(x0:List Xf):Option (List Xf):=(nilB x0 fun(n1:Bool)=>(bif n1 then some ([])else(room 56 ([]:List Xf) x0).bind λ y1=>some (y1)))
def aV_(x0:List Yz):Option (List Yz):=(nilB x0 fun(n1:Bool)=>(bif n1 then some ([])else(room 32 ([]:List Yz) x0).bind λ y1=>some (y1)))
def bE_(x0:Int):Option Int:=some ((ck_ (cv_ x0 0) 1099511627776))
def ea_(x0:Str):Option Str:=(bif(decide ((x0.length:Int)>64))then some ([])else some (x0))
def fQ_(x0:Int):Option Int:=some ((ck_ (cv_ x0 0) 1099511627776))
def sg_(x0:Str)(x1:Int)(x2:Int):Option Xk:=(remI x1 512).bind λ y1=>(remI (w64 (y1+512)) 512).bind λ y2=>(ea_ x0).bind λ y3=>(fQ_ x2).bind λ y4=>some ((Xk.mk 2 [(Xq.mk 1 1 0 [47] (w64 (2147483648+y2)) y3 y3 y3 y4 y4 [])]))
def bc_(x0:List Str):Option (List Str):=(nilB x0 fun(n1:Bool)=>(bif n1 then some ([])else(room 16 ([]:List Str) x0).bind λ y1=>some (y1)))
def kd_(y4:(List Xf))(s2:Int×(List Xf)):Option (Step (Int×(List Xf)) (List Xf)):=(bif(decide (s2.1<(y4.length:Int)))then(al_ s2.2 s2.1).bind λ y11=>(bc_ y11.Yp).bind λ y12=>(al_ s2.2 s2.1).bind λ y13=>some (.next ((w64 (s2.1+1)),(s2.2.set s2.1.toNat (Xf.mk y13.Xy y13.Yt y12))))else some (.done s2.2))
def kH_(x0:List Xf)(x1:List Yz)(x2:Str)(x3:Int):Option (Xx×Int):=(hg_ x0).bind λ y1=>(bif(y1 != 0)then some (((Xx.mk [] [] (Xk.mk 0 []) []),y1))else(gd_ x1).bind λ y2=>(bif(y2 != 0)then some (((Xx.mk [] [] (Xk.mk 0 []) []),y2))else(eZ_ x2).bind λ y3=>(bif(!y3)then some (((Xx.mk [] [] (Xk.mk 0 []) []),25))else(bj_ x0).bind λ y4=>(aV_ x1).bind λ y5=>(bE_ x3).bind λ y6=>(sg_ x2 493 y6).bind λ y7=>(ak_ (kd_ y4) BIG (0,y4)).bind λ o1=>some (((Xx.mk o1 y5 y7 []),0)))))
def bx_(x0:List Xq):Option (List Xq):=(nilB x0 fun(n1:Bool)=>(bif n1 then some ([])else(room 128 ([]:List Xq) x0).bind λ y1=>some (y1)))
def bS_(x0:List Int):Option (List Int):=(nilB x0 fun(n1:Bool)=>(bif n1 then some ([])else(room 8 ([]:List Int) x0).bind λ y1=>some (y1)))
def b3_(y1:(List Xf))(s2:Int×(List Xf)):Option (Step (Int×(List Xf)) (List Xf)):=(bif(decide (s2.1<(y1.length:Int)))then(al_ s2.2 s2.1).bind λ y5=>(bc_ y5.Yp).bind λ y6=>(al_ s2.2 s2.1).bind λ y7=>some (.next ((w64 (s2.1+1)),(s2.2.set s2.1.toNat (Xf.mk y7.Xy y7.Yt y6))))else some (.done s2.2))
def b6_(x0:Xx):Option Xx:=(bj_ x0.Yx).bind λ y1=>(ak_ (b3_ y1) BIG (0,y1)).bind λ o1=>(aV_ x0.Yj).bind λ y8=>(bx_ x0.Xm.Xz).bind λ y9=>(bS_ x0.Xs).bind λ y10=>some ((Xx.mk o1 y8 (Xk.mk x0.Xm.Xt y9) y10))
def ql_(x0:Int):Option Xj:=some ((Xj.mk (ck_ (cv_ x0 1) 4096) []))
def jn_(x0:Xx)(x1:Int):Option Xh:=(b6_ x0).bind λ y1=>(ql_ x1).bind λ y2=>some ((Xh.mk y1 y2 []))
def mA_(x0:Xk)(x1:Xq->Option Bool)(s2:Int):Option (Step Int (Out Unit Int)):=(bif(decide (s2<(x0.Xz.length:Int)))then(al_ x0.Xz s2).bind λ y3=>(x1 y3).bind λ y4=>(bif y4 then some (.done (.ret (s2)))else some (.next (w64 (s2+1))))else some (.done (.fall ())))
def ni_(x0:Xk)(x1:Xq->Option Bool):Option Int:=(ak_ (mA_ x0 x1) BIG 0).bind λ wo1=>match wo1 with | .ret r1=>some r1 | .fall _=>some ((-1))
def qm_(x0:Xq)(x1:Int):Option Bool:=some ((x0.Id_==x1))
def c7_(x0:Xk)(x1:Int):Option Int:=(ni_ x0 (fun(u1:Xq)=>Option.bind (qm_ u1 x1) fun(v1:Bool)=>some v1)).bind λ y1=>some (y1)
def b0_(x0:Xk)(x1:Int):Option (Xq×Bool):=(c7_ x0 x1).bind λ y1=>(bif(decide (y1<0))then some (((Xq.mk 0 0 0 [] 0 [] [] [] 0 0 []),false))else(al_ x0.Xz y1).bind λ y2=>some ((y2,true)))
def cD_(x0:Xx)(x1:Str)(x2:Int):Option (Xq×Int):=(eZ_ x1).bind λ y1=>(bif(!y1)then some (((Xq.mk 0 0 0 [] 0 [] [] [] 0 0 []),25))else(b0_ x0.Xm x2).bind λ y2=>(bif(!y2.2)then some (((Xq.mk 0 0 0 [] 0 [] [] [] 0 0 []),8))else some ((y2.1,0))))
def aq_(x0:Int)(x1:Int):Option Bool:=some (((decide (x0>=0))&&((bR_ .i64 x0 x1) != 0)))
def cz_(x0:Xx)(x1:Str)(x2:Int):Option (Xq×Int):=(cD_ x0 x1 x2).bind λ y1=>Option.bind ( Option.bind (bif(y1.2==0)then(aq_ y1.1.Xv 2147483648).bind λ y2=>some (!y2)else some false) fun(y3:Bool)=>(bif y3 then some 9 else some y1.2) ) fun(o1:Int)=>some ((y1.1,o1))
def gP_(x0:List Xf)(x1:Str)(s2:Int):Option (Step Int (Out Unit (Xf×Bool))):=(bif(decide (s2<(x0.length:Int)))then(al_ x0 s2).bind λ y3=>(bif(y3.Xy==x1)then(bc_ y3.Yp).bind λ y4=>some (.done (.ret (((Xf.mk y3.Xy y3.Yt y4),true))))else some (.next (w64 (s2+1))))else some (.done (.fall ())))
def i0_(x0:List Xf)(x1:Str):Option (Xf×Bool):=(ak_ (gP_ x0 x1) BIG 0).bind λ wo1=>match wo1 with | .ret r1=>some r1 | .fall _=>some (((Xf.mk [] [] []),false))
def dq_(x0:List Str)(x1:Str)(s2:Int):Option (Step Int (Out Unit Int)):=(bif(decide (s2<(x0.length:Int)))then(al_ x0 s2).bind λ y2=>(bif(x1==y2)then some (.done (.ret (s2)))else some (.next (w64 (s2+1))))else some (.done (.fall ())))
def eb_(x0:List Str)(x1:Str):Option Int:=(ak_ (dq_ x0 x1) BIG 0).bind λ wo1=>match wo1 with | .ret r1=>some r1 | .fall _=>some ((-1))
def bW_(x0:List Str)(x1:Str):Option Bool:=(eb_ x0 x1).bind λ y1=>some ((decide (y1>=0)))
def eh_(x0:List Xf)(x1:Str)(x2:Str):Option Bool:=(bif(x1==x2)then some (true)else(i0_ x0 x2).bind λ y1=>Option.bind (bif y1.2 then(bW_ y1.1.Yp x1).bind λ y2=>some y2 else some false) fun(y3:Bool)=>some (y3))
def fc_(x0:List Xf)(x1:Str)(x2:Str)(x3:Str)(x4:Int)(x5:Int):Option Bool:=(bif(((decide (x4<0))||(decide (x5<0)))||(decide (x5>7)))then some (false)else Option.bind ( (eh_ x0 x1 x3).bind λ y1=>(bif y1 then some (orI .i64 (x4.tmod 8) ((IntKind.i64.wrap (x4.tdiv 8)).tmod 8))else some (x4.tmod 8)) ) fun(o1:Int)=>Option.bind ( (bif(x1==x2)then some (orI .i64 o1 ((IntKind.i64.wrap (x4.tdiv 64)).tmod 8))else some o1) ) fun(o2:Int)=>some (((bR_ .i64 o2 x5)==x5)))
def c0_(x0:Xx)(x1:Str)(x2:Xq)(x3:Int):Option Bool:=(fc_ x0.Yx x1 x2.Yw x2.Yv x2.Xv x3).bind λ y1=>some (y1)
def bu_(x0:Int):Option Bool:=some (((decide (x0>=0))&&(((IntKind.i64.wrap (x0.tdiv 2147483648)).tmod 2)==1)))
def ge_(x0:Xk)(x1:Int):Option Int:=(b0_ x0 x1).bind λ y1=>(bif(!y1.2)then some (8)else(bu_ y1.1.Xv).bind λ y2=>(bif(!y2)then some (9)else some (0)))
def qn_(x0:Xq)(x1:Int)(x2:Str):Option Bool:=some ((((x0.Xw==x1)&&(x0.Id_ != 1))&&(x0.Xy==x2)))
def hh_(x0:Xk)(x1:Int)(x2:Str):Option Int:=(ni_ x0 (fun(u1:Xq)=>Option.bind (qn_ u1 x1 x2) fun(v1:Bool)=>some v1)).bind λ y1=>some (y1)
def fI_(x0:Xk)(x1:Int)(x2:Str):Option (Int×Int):=(ge_ x0 x1).bind λ y1=>(bif(y1 != 0)then some ((0,y1))else(bif(x2==[46,46])then(b0_ x0 x1).bind λ y2=>some ((y2.1.Xw,0))else(hh_ x0 x1 x2).bind λ y3=>(bif(decide (y3<0))then some ((0,8))else(al_ x0.Xz y3).bind λ y4=>some ((y4.Id_,0)))))
def eu_(x0:Xx)(x1:Str)(x2:Int)(x3:Str):Option (Int×Int):=(cz_ x0 x1 x2).bind λ y1=>(bif(y1.2 != 0)then some ((0,y1.2))else(c0_ x0 x1 y1.1 1).bind λ y2=>(bif(!y2)then some ((0,11))else(fI_ x0.Xm x2 x3).bind λ y3=>some ((y3.1,y3.2))))
def fv_(x0:Xh)(x1:Str):Option Bool:=Option.bind (eu_ x0.Xb x1 0 []) fun(y1:Int×Int)=>some ((y1.2 != 25))
def bJ_(x0:List Yk)(x1:Yk->Option Bool)(s2:Int):Option (Step Int (Out Unit Int)):=(bif(decide (s2<(x0.length:Int)))then(al_ x0 s2).bind λ y3=>(x1 y3).bind λ y4=>(bif y4 then some (.done (.ret (s2)))else some (.next (w64 (s2+1))))else some (.done (.fall ())))
def cE_(x0:List Yk)(x1:Yk->Option Bool):Option Int:=(ak_ (bJ_ x0 x1) BIG 0).bind λ wo1=>match wo1 with | .ret r1=>some r1 | .fall _=>some ((-1))
def lk_(x0:Yk)(x1:Str):Option Bool:=some ((x0.Yq==x1))
def gf_(x0:Xj)(x1:Str):Option Int:=(cE_ x0.Xd (fun(u1:Yk)=>Option.bind (lk_ u1 x1) fun(v1:Bool)=>some v1)).bind λ y1=>some (y1)
def nH_(s2:(List Int)):Option (Step (List Int) (List Int)):=(bif(((s2.length:Int).tmod 64) != 56)then(room 1 s2 [0]).bind λ y4=>some (.next y4)else some (.done s2))
def kI_(x0:Str)(s4:Int×(List Int)):Option (Step (Int×(List Int)) (List Int)):=(bif(decide (s4.1>=0))then(shrI .u64 (IntKind.u64.wrap (8*(IntKind.u64.wrap (x0.length:Int)))) s4.1).bind λ y7=>(room 1 s4.2 [(IntKind.u8.wrap y7)]).bind λ y8=>some (.next ((w64 (s4.1-8)),y8))else some (.done s4.2))
def mB_(x0:Str):Option Str:=(room 1 ([]:List Int) (dl_ x0)).bind λ y1=>(room 1 y1 [128]).bind λ y2=>(ak_ nH_ BIG y2).bind λ o1=>(ak_ (kI_ x0) BIG (56,o1)).bind λ o2=>some ((bytesS o2))
def nj_(x0:Str):Option Int:=(cg_ x0 0).bind λ y1=>(cg_ x0 1).bind λ y2=>(cg_ x0 2).bind λ y3=>(cg_ x0 3).bind λ y4=>some ((orI .u32 (orI .u32 (orI .u32 (IntKind.u32.wrap ((IntKind.u32.wrap y1)*2^24)) (IntKind.u32.wrap ((IntKind.u32.wrap y2)*2^16))) (IntKind.u32.wrap ((IntKind.u32.wrap y3)*2^8))) (IntKind.u32.wrap y4)))
def lF_(x0:Int)(x1:Int):Option Int:=(shlI .u32 x0 (bR_ .u64 (IntKind.u64.wrap x1) 31)).bind λ y1=>(shrI .u32 x0 (IntKind.u64.wrap (32-(bR_ .u64 (IntKind.u64.wrap x1) 31)))).bind λ y2=>some ((orI .u32 y1 y2))
def bg_(x0:Int)(x1:Int):Option Int:=(lF_ x0 (w64 (0-x1))).bind λ y1=>some (y1)
def iC_(x0:Str)(s2:Int×Ye):Option (Step (Int×Ye) Ye):=(bif(decide (s2.1<64))then Option.bind ( (bif(decide (s2.1<16))then(bz_ x0 (w64 (4*s2.1)) (x0.length:Int)).bind λ y19=>(nj_ y19).bind λ y20=>(c3_ 64 s2.1).bind λ _=>(setI s2.2.l s2.1 y20).bind λ y22=>some (Ye.of y22)else(c3_ 64 (w64 (s2.1-15))).bind λ _=>(al_ s2.2.l (w64 (s2.1-15))).bind λ y24=>(c3_ 64 (w64 (s2.1-2))).bind λ _=>(al_ s2.2.l (w64 (s2.1-2))).bind λ y26=>(bg_ y24 7).bind λ y27=>(bg_ y24 18).bind λ y28=>(bg_ y26 17).bind λ y29=>(bg_ y26 19).bind λ y30=>(c3_ 64 (w64 (s2.1-16))).bind λ _=>(al_ s2.2.l (w64 (s2.1-16))).bind λ y32=>(c3_ 64 (w64 (s2.1-7))).bind λ _=>(al_ s2.2.l (w64 (s2.1-7))).bind λ y34=>(c3_ 64 s2.1).bind λ _=>(setI s2.2.l s2.1 (IntKind.u32.wrap ((IntKind.u32.wrap ((IntKind.u32.wrap (y32+(bH_ .u32 (bH_ .u32 y27 y28) (y24.fdiv (2^3)))))+y34))+(bH_ .u32 (bH_ .u32 y29 y30) (y26.fdiv (2^10)))))).bind λ y36=>some (Ye.of y36)) ) fun(o2:Ye)=>some (.next ((w64 (s2.1+1)),o2))else some (.done s2.2))
def ih_(x0:Str):Option Ye:=(ak_ (iC_ x0) BIG (0,(Ye.mk 0 0 0 0 0 0 0 0 0 0 0 0 0 0 0 0 0 0 0 0 0 0 0 0 0 0 0 0 0 0 0 0 0 0 0 0 0 0 0 0 0 0 0 0 0 0 0 0 0 0 0 0 0 0 0 0 0 0 0 0 0 0 0 0))).bind λ o3=>some (o3)
def nI_(y1:Ye)(s2:Int×Yh):Option (Step (Int×Yh) Yh):=(bif(decide (s2.1<64))then(bg_ s2.2.a4_ 6).bind λ y12=>(bg_ s2.2.a4_ 11).bind λ y13=>(bg_ s2.2.a4_ 25).bind λ y14=>(c3_ 64 s2.1).bind λ _=>(al_ glob0.l s2.1).bind λ y16=>(c3_ 64 s2.1).bind λ _=>(al_ y1.l s2.1).bind λ y18=>(bg_ s2.2.a0_ 2).bind λ y19=>(bg_ s2.2.a0_ 13).bind λ y20=>(bg_ s2.2.a0_ 22).bind λ y21=>some (.next ((w64 (s2.1+1)),(Yh.mk (IntKind.u32.wrap ((IntKind.u32.wrap ((IntKind.u32.wrap ((IntKind.u32.wrap ((IntKind.u32.wrap (s2.2.a7_+(bH_ .u32 (bH_ .u32 y12 y13) y14)))+(bH_ .u32 (bR_ .u32 s2.2.a4_ s2.2.a5_) (bR_ .u32 (bH_ .u32 4294967295 s2.2.a4_) s2.2.a6_))))+y16))+y18))+(IntKind.u32.wrap ((bH_ .u32 (bH_ .u32 y19 y20) y21)+(bH_ .u32 (bH_ .u32 (bR_ .u32 s2.2.a0_ s2.2.a1_) (bR_ .u32 s2.2.a0_ s2.2.a2_)) (bR_ .u32 s2.2.a1_ s2.2.a2_)))))) s2.2.a0_ s2.2.a1_ s2.2.a2_ (IntKind.u32.wrap (s2.2.a3_+(IntKind.u32.wrap ((IntKind.u32.wrap ((IntKind.u32.wrap ((IntKind.u32.wrap (s2.2.a7_+(bH_ .u32 (bH_ .u32 y12 y13) y14)))+(bH_ .u32 (bR_ .u32 s2.2.a4_ s2.2.a5_) (bR_ .u32 (bH_ .u32 4294967295 s2.2.a4_) s2.2.a6_))))+y16))+y18)))) s2.2.a4_ s2.2.a5_ s2.2.a6_)))else some (.done s2.2))
def rE_(o1:Yh)(s4:Int×Yh):Option (Step (Int×Yh) Yh):=(bif(decide (s4.1<8))then(c3_ 8 s4.1).bind λ _=>(al_ s4.2.l s4.1).bind λ y29=>(c3_ 8 s4.1).bind λ _=>(al_ o1.l s4.1).bind λ y31=>(c3_ 8 s4.1).bind λ _=>(setI s4.2.l s4.1 (IntKind.u32.wrap (y29+y31))).bind λ y33=>some (.next ((w64 (s4.1+1)),(Yh.of y33)))else some (.done s4.2))
def o5_(x0:Yh)(x1:Str):Option Yh:=(ih_ x1).bind λ y1=>(ak_ (nI_ y1) BIG (0,x0)).bind λ o1=>(ak_ (rE_ o1) BIG (0,x0)).bind λ o2=>some (o2)
def nJ_(s2:Str×Yh):Option (Step (Str×Yh) Yh):=(bif(!(s2.1==[]))then(bz_ s2.1 0 64).bind λ y5=>(o5_ s2.2 y5).bind λ y6=>(bz_ s2.1 64 (s2.1.length:Int)).bind λ y7=>some (.next (y7,y6))else some (.done s2.2))
def rF_(o1:Yh)(s4:Int×(List Int)):Option (Step (Int×(List Int)) (List Int)):=(bif(decide (s4.1<8))then(al_ o1.l s4.1).bind λ y11=>(room 1 s4.2 [(IntKind.u8.wrap (y11.fdiv (2^24))),(IntKind.u8.wrap (y11.fdiv (2^16))),(IntKind.u8.wrap (y11.fdiv (2^8))),(IntKind.u8.wrap y11)]).bind λ y12=>some (.next ((w64 (s4.1+1)),y12))else some (.done s4.2))
def o6_(x0:Str):Option Str:=(mB_ x0).bind λ y1=>(ak_ nJ_ BIG (y1,(Yh.mk 1779033703 3144134277 1013904242 2773480762 1359893119 2600822924 528734635 1541459225))).bind λ o1=>(i8_ 1 (0:Int) 32).bind λ _=>(ak_ (rF_ o1) BIG (0,[])).bind λ o2=>some ((bytesS o2))
def lW_(x0:Int)(x1:Str):Option Str:=(cat (bytesS [(IntKind.u8.wrap x0)]) x1).bind λ y1=>(o6_ y1).bind λ y2=>some (y2)
def hj_(x0:Int)(x1:Str):Option Yk:=(lW_ x0 x1).bind λ y1=>some ((Yk.mk y1 x0 x1))
def nk_(x0:Xj)(x1:Str)(x2:Int):Option (Str×Int):=(gf_ x0 x1).bind λ y1=>(bif(decide (y1<0))then some (([],35))else(al_ x0.Xd y1).bind λ y2=>(bif(y2.Yu != x2)then some (([],1))else(al_ x0.Xd y1).bind λ y3=>(al_ x0.Xd y1).bind λ y4=>(hj_ x2 y4.Xl).bind λ y5=>(bif(!(decide (y3=y5)))then some (([],34))else(al_ x0.Xd y1).bind λ y6=>some ((y6.Xl,0)))))
def b7_(x0:Xg)(x1:Str)(x2:Int):Option (Str×Int×Xg):=(nk_ x0.Zh x1 x2).bind λ y1=>Option.bind ( (bif(y1.2==1)then some 2 else some y1.2) ) fun(o1:Int)=>(bif(o1 != 0)then some (([],o1,x0))else(room 16 x0.Zl [x1]).bind λ y2=>some ((y1.1,0,(Xg.mk x0.Zh y2))))
def gQ_(x0:Str)(x1:Int)(s2:Int×Int):Option (Step (Int×Int) Int):=(bif(decide (s2.2>=0))then(cg_ x0 (w64 (x1+s2.2))).bind λ y2=>some (.next ((orI .u64 (IntKind.u64.wrap (s2.1*2^8)) (IntKind.u64.wrap y2)),(w64 (s2.2-1))))else some (.done s2.1))
def k3_(x0:Str)(x1:Int)(x2:Int):Option (Int×Int×Int):=(bif((((decide (x2<1))||(decide (x2>8)))||(decide (x1<0)))||(decide (x1>(x0.length:Int))))then some ((0,0,1))else(bif(decide ((w64 ((x0.length:Int)-x1))<x2))then some ((0,0,3))else(ak_ (gQ_ x0 x1) BIG (0,(w64 (x2-1)))).bind λ o1=>(bif(decide (o1>9223372036854775807))then some ((0,0,5))else some (((w64 (o1)),(w64 (x1+x2)),0)))))
def aw_(x0:Yy)(x1:Int):Option (Int×Yy):=(k3_ x0.s_ x0.at_ x1).bind λ y1=>(bif(x0.Zv||(y1.2.2 != 0))then some ((0,(Yy.mk x0.s_ x0.at_ true)))else some ((y1.1,(Yy.mk x0.s_ y1.2.1 x0.Zv))))
def ii_(x0:Str)(x1:Int):Option (Str×Int×Int):=(k3_ x0 x1 2).bind λ y1=>(bif(y1.2.2 != 0)then some (([],0,y1.2.2))else(bif(decide ((w64 ((x0.length:Int)-y1.2.1))<y1.1))then some (([],0,3))else(bz_ x0 y1.2.1 (w64 (y1.2.1+y1.1))).bind λ y2=>some ((y2,(w64 (y1.2.1+y1.1)),0))))
def b8_(x0:Yy):Option (Str×Yy):=(ii_ x0.s_ x0.at_).bind λ y1=>(bif(x0.Zv||(y1.2.2 != 0))then some (([],(Yy.mk x0.s_ x0.at_ true)))else some ((y1.1,(Yy.mk x0.s_ y1.2.1 x0.Zv))))
def dQ_(x0:Yy):Option (Str×Yy):=(bif(x0.Zv||(decide ((w64 ((x0.s_.length:Int)-x0.at_))<32)))then some (([],(Yy.mk x0.s_ x0.at_ true)))else(bz_ x0.s_ (w64 ((w64 (x0.at_+32))-32)) (w64 (x0.at_+32))).bind λ y1=>some ((y1,(Yy.mk x0.s_ (w64 (x0.at_+32)) x0.Zv))))
def cl_(x0:Yy):Option (Xr×Yy):=(aw_ x0 4).bind λ y1=>(aw_ y1.2 4).bind λ y2=>(aw_ y2.2 4).bind λ y3=>(aw_ y3.2 4).bind λ y4=>(aw_ y4.2 8).bind λ y5=>(aw_ y5.2 8).bind λ y6=>(b8_ y6.2).bind λ y7=>(b8_ y7.2).bind λ y8=>(b8_ y8.2).bind λ y9=>(b8_ y9.2).bind λ y10=>(aw_ y10.2 4).bind λ y11=>(aw_ y11.2 1).bind λ y12=>(dQ_ y12.2).bind λ y13=>some (((Xr.mk (Xq.mk y1.1 y2.1 y3.1 y7.1 y4.1 y8.1 y9.1 y10.1 y5.1 y6.1 []) (Xp.mk y13.1 y11.1 y12.1)),y13.2))
def ca_(x0:Xq):Option Bool:=some ((decide (x0.Xv>=2147483648)))
def gm_(x1:Int)(s2:Int×Int):Option (Step (Int×Int) Int):=(bif(decide (s2.2<x1))then some (.next ((IntKind.i64.wrap ((w64 ((w64 (s2.1+32))-1)).tdiv 32)),(w64 (s2.2+1))))else some (.done s2.1))
def ev_(x0:Int)(x1:Int):Option Int:=(ak_ (gm_ x1) BIG ((cv_ 1 (IntKind.i64.wrap ((w64 ((w64 (x0+1024))-1)).tdiv 1024))),0)).bind λ o1=>some (o1)
def hF_(x0:Int)(s2:Int):Option (Step Int Int):=(ev_ x0 s2).bind λ y2=>(bif(decide (y2>1))then some (.next (w64 (s2+1)))else some (.done s2))
def en_(x0:Int):Option Int:=(ak_ (hF_ x0) BIG 0).bind λ o1=>some (o1)
def ij_(x0:Xp):Option Bool:=Option.bind (bif((((x0.Yq.length:Int)==32)&&(decide (x0.Xi>=0)))&&(decide (x0.Xi<=1048576)))then(en_ x0.Xi).bind λ y1=>some (x0.Yi==y1)else some false) fun(y2:Bool)=>some (y2)
def cm_(x0:Zz)(x1:Int)(x2:Int):Option Int:=(bif(x1==0)then some ((ck_ 1024 (w64 (x0.Za-(w64 (x2*1024))))))else(ev_ x0.Za (w64 (x1-1))).bind λ y1=>some ((w64 (32*(ck_ 32 (w64 (y1-(w64 (x2*32)))))))))
def sh_(x0:Int)(s2:Int×Int):Option (Step (Int×Int) Int):=(bif(decide (s2.2<x0))then some (.next ((w64 (s2.1*32)),(w64 (s2.2+1))))else some (.done s2.1))
def ct_(x0:Int):Option Int:=(ak_ (sh_ x0) BIG (1024,0)).bind λ o1=>some (o1)
def dC_(y1:Str×Int×Xg)(x3:Int)(x4:Int)(x1:Zz)(rec0:Xg->Zz->Str->Int->Int->Option (Str×Int×Xg))(s2:Str×Int×Int×(List Yk)×(List Str)):Option (Step (Str×Int×Int×(List Yk)×(List Str)) (Out (Str×Int×(List Yk)×(List Str)) (Str×Int×Xg))):=(bif(decide (s2.2.1<(IntKind.i64.wrap ((y1.1.length:Int).tdiv 32))))then Option.bind ( (ct_ (w64 (x3-1))).bind λ y11=>Option.bind (bif(decide ((w64 ((w64 ((w64 (x4*32))+s2.2.1))*y11))>=x1.hi_))then some true else(ct_ (w64 (x3-1))).bind λ y12=>some (decide ((w64 ((w64 ((w64 ((w64 (x4*32))+s2.2.1))*y11))+y12))<=x1.lo_)) ) fun(y13:Bool)=>(bif y13 then some (.fall (s2.1,s2.2.2.1,s2.2.2.2.1,s2.2.2.2.2))else(bz_ y1.1 (w64 (s2.2.1*32)) (w64 ((w64 (s2.2.1+1))*32))).bind λ y14=>(rec0 (Xg.mk (Xj.mk s2.2.2.1 s2.2.2.2.1) s2.2.2.2.2) x1 y14 (w64 (x3-1)) (w64 ((w64 (x4*32))+s2.2.1))).bind λ y15=>(bif(y15.2.1 != 0)then some (.ret (([],y15.2.1,y15.2.2)))else(cat s2.1 y15.1).bind λ y16=>some (.fall (y16,y15.2.2.Zh.Ya,y15.2.2.Zh.Xd,y15.2.2.Zl)))) ) fun(wo3:Out (Str×Int×(List Yk)×(List Str)) (Str×Int×Xg))=>match wo3 with | .ret r3=>some (.done (.ret r3)) | .fall o3=>some (.next (o3.1,(w64 (s2.2.1+1)),o3.2.1,o3.2.2.1,o3.2.2.2))else some (.done (.fall (s2.1,s2.2.2.1,s2.2.2.2.1,s2.2.2.2.2))))
def cn_(rec0:Xg->Zz->Str->Int->Int->Option (Str×Int×Xg))(x0:Xg)(x1:Zz)(x2:Str)(x3:Int)(x4:Int):Option (Str×Int×Xg):=Option.bind ( (bif(x3==0)then some x1.Wh else some 2) ) fun(o1:Int)=>(b7_ x0 x2 o1).bind λ y1=>(bif(y1.2.1 != 0)then some (([],y1.2.1,y1.2.2))else(cm_ x1 x3 x4).bind λ y2=>(bif((y1.1.length:Int) != y2)then some (([],2,y1.2.2))else(ct_ x3).bind λ y3=>(bif(x3==0)then(bz_ y1.1 (cv_ 0 (w64 (x1.lo_-(w64 (x4*y3))))) (ck_ (y1.1.length:Int) (w64 (x1.hi_-(w64 (x4*y3)))))).bind λ y4=>some ((y4,0,y1.2.2))else Option.bind (ak_ (dC_ y1 x3 x4 x1 rec0) BIG ([],0,y1.2.2.Zh.Ya,y1.2.2.Zh.Xd,y1.2.2.Zl)) fun(wo4:Out (Str×Int×(List Yk)×(List Str)) (Str×Int×Xg))=>match wo4 with | .ret r4=>some r4 | .fall o4=>some ((o4.1,0,(Xg.mk (Xj.mk o4.2.1 o4.2.2.1) o4.2.2.2))))))
def bT_:Nat->Xg->Zz->Str->Int->Int->Option (Str×Int×Xg) | 0=>λ _ _ _ _ _=>none|n+1=>cn_ (bT_ n)
def de_(x0:Xg)(x1:Xp)(x2:Int):Option (Str×Int×Xg):=(ij_ x1).bind λ y1=>(bif(!y1)then some (([],2,x0))else(bif(x1.Xi==0)then(b7_ x0 x1.Yq x2).bind λ y2=>Option.bind ( (bif((y2.2.1==0)&&(!(y2.1==[])))then some 2 else some y2.2.1) ) fun(o1:Int)=>some (([],o1,y2.2.2))else(bT_ BIG x0 (Zz.mk x2 x1.Xi 0 x1.Xi) x1.Yq x1.Yi 0).bind λ y3=>some ((y3.1,y3.2.1,y3.2.2))))
def cO_(x0:Str)(s2:Yy×(List Xr)):Option (Step (Yy×(List Xr)) (Yy×(List Xr))):=(bif((decide (s2.1.at_<(x0.length:Int)))&&(!s2.1.Zv))then(cl_ s2.1).bind λ y3=>(room 160 s2.2 [y3.1]).bind λ y4=>some (.next (y3.2,y4))else some (.done (s2.1,s2.2)))
def gw_(x0:Str):Option ((List Xr)×Bool):=Option.bind (ak_ (cO_ x0) BIG ((Yy.mk x0 0 false),[])) fun(o1:Yy×(List Xr))=>some ((o1.2,(!o1.1.Zv)))
def bh_(x0:List Xr)(x1:Xr->Option Bool)(s2:Int):Option (Step Int (Out Unit Int)):=(bif(decide (s2<(x0.length:Int)))then(al_ x0 s2).bind λ y3=>(x1 y3).bind λ y4=>(bif y4 then some (.done (.ret (s2)))else some (.next (w64 (s2+1))))else some (.done (.fall ())))
def bZ_(x0:List Xr)(x1:Xr->Option Bool):Option Int:=(ak_ (bh_ x0 x1) BIG 0).bind λ wo1=>match wo1 with | .ret r1=>some r1 | .fall _=>some ((-1))
def aK_(x0:List Xr)(x1:Xr->Option Bool):Option Bool:=(bZ_ x0 x1).bind λ y1=>some ((decide (y1>=0)))
def cq_(x0:Xr)(x1:Xr):Option Bool:=some ((x0.Ym.Xw != x1.Ym.Id_))
def bO_(y6:(List Xr)×Bool)(rec0:Xe->Xg->Xr->Option (Int×Xe×Xg))(s2:Int×Int×Int×(List Yk)×(List Str)×(List Xq)×(List Xr)):Option (Step (Int×Int×Int×(List Yk)×(List Str)×(List Xq)×(List Xr)) (Out (Int×Int×(List Yk)×(List Str)×(List Xq)) (Int×Xe×Xg))):=(bif(decide (s2.1<(y6.1.length:Int)))then(al_ s2.2.2.2.2.2.2 s2.1).bind λ y11=>(rec0 (Xe.mk s2.2.2.2.2.2.1 s2.2.1) (Xg.mk (Xj.mk s2.2.2.1 s2.2.2.2.1) s2.2.2.2.2.1) y11).bind λ y12=>(bif(y12.1 != 0)then some (.done (.ret ((y12.1,y12.2.1,y12.2.2))))else some (.next ((w64 (s2.1+1)),y12.2.1.Zn,y12.2.2.Zh.Ya,y12.2.2.Zh.Xd,y12.2.2.Zl,y12.2.1.Zc,s2.2.2.2.2.2.2)))else some (.done (.fall (s2.2.1,s2.2.2.1,s2.2.2.2.1,s2.2.2.2.2.1,s2.2.2.2.2.2.1))))
def bp_(rec0:Xe->Xg->Xr->Option (Int×Xe×Xg))(x0:Xe)(h0:Xg)(x1:Xr):Option (Int×Xe×Xg):=(bif(decide ((x0.Zc.length:Int)>=x0.Zn))then some ((2,x0,h0))else Option.bind ( (ca_ x1.Ym).bind λ y1=>(bif y1 then some 3 else some 1) ) fun(o1:Int)=>(de_ h0 x1.Zd o1).bind λ y2=>(bif(y2.2.1 != 0)then some ((y2.2.1,x0,y2.2.2))else(ca_ x1.Ym).bind λ y3=>(bif(!y3)then(room 128 x0.Zc [(Xq.mk x1.Ym.Id_ x1.Ym.Xw x1.Ym.Xo x1.Ym.Xy x1.Ym.Xv x1.Ym.Yw x1.Ym.Yv x1.Ym.Yg x1.Ym.Xu x1.Ym.Xa y2.1)]).bind λ y4=>some ((0,(Xe.mk y4 x0.Zn),y2.2.2))else(room 128 x0.Zc [x1.Ym]).bind λ y5=>(gw_ y2.1).bind λ y6=>Option.bind (bif(!y6.2)then some true else(aK_ y6.1 (fun(u1:Xr)=>Option.bind (cq_ u1 x1) fun(v1:Bool)=>some v1)).bind λ y7=>some y7 ) fun(y8:Bool)=>(bif y8 then some ((2,(Xe.mk y5 x0.Zn),y2.2.2))else(ak_ (bO_ y6 rec0) BIG (0,x0.Zn,y2.2.2.Zh.Ya,y2.2.2.Zh.Xd,y2.2.2.Zl,y5,y6.1)).bind λ wo2=>match wo2 with | .ret r2=>some r2 | .fall o2=>some ((0,(Xe.mk o2.2.2.2.2 o2.1),(Xg.mk (Xj.mk o2.2.1 o2.2.2.1) o2.2.2.2.1)))))))
def aS_:Nat->Xe->Xg->Xr->Option (Int×Xe×Xg) | 0=>λ _ _ _=>none|n+1=>bp_ (aS_ n)
def hk_(x0:Int):Option Bool:=(bif(decide (x0<0))then some (false)else Option.bind ( (bif((w64 (x0-(x0.tmod 512)))==0)then some ((w64 (x0-(x0.tmod 512)))==0)else(bif((w64 (x0-(x0.tmod 512)))==2147483648)then some ((w64 (x0-(x0.tmod 512)))==2147483648)else(bif((w64 (x0-(x0.tmod 512)))==1073741824)then some ((w64 (x0-(x0.tmod 512)))==1073741824)else(bif((w64 (x0-(x0.tmod 512)))==536870912)then some ((w64 (x0-(x0.tmod 512)))==536870912)else some ((w64 (x0-(x0.tmod 512)))==1610612736))))) ) fun(o1:Bool)=>(bif o1 then some (true)else some (false)))
def jo_(x0:Xq):Option Bool:=(hk_ x0.Xv).bind λ y1=>Option.bind (bif(((!y1)||(decide (x0.Xo<0)))||(decide (x0.Xo>2147483647)))then some true else(fQ_ x0.Xu).bind λ y2=>some (x0.Xu != y2) ) fun(y3:Bool)=>Option.bind (bif y3 then some true else(fQ_ x0.Xa).bind λ y4=>some (x0.Xa != y4) ) fun(y5:Bool)=>(bif y5 then some (false)else(bif((decide ((cv_ (cv_ (x0.Yw.length:Int) (x0.Yv.length:Int)) (x0.Yg.length:Int))>64))||(decide ((x0.Xl.length:Int)>65536)))then some (false)else(bu_ x0.Xv).bind λ y6=>some (((!y6)||(x0.Xl==[])))))
def ik_(x0:Str)(s2:Int):Option (Step Int (Out Unit Bool)):=(bif(decide (s2<(x0.length:Int)))then(cg_ x0 s2).bind λ y6=>Option.bind (bif(decide (y6<33))then some true else(cg_ x0 s2).bind λ y7=>some (decide (y7>126)) ) fun(y8:Bool)=>Option.bind (bif y8 then some true else(cg_ x0 s2).bind λ y9=>some (y9==47) ) fun(y10:Bool)=>(bif y10 then some (.done (.ret (false)))else some (.next (w64 (s2+1))))else some (.done (.fall ())))
def cI_(x0:Str):Option Bool:=(bif((((x0==[])||(x0==[46]))||(x0==[46,46]))||(decide ((x0.length:Int)>64)))then some (false)else(ak_ (ik_ x0) BIG 0).bind λ wo1=>match wo1 with | .ret r1=>some r1 | .fall _=>some (true))
def cJ_(x0:Xk)(s2:Int×(List Int)×(List Int)×(List Xn)×(List Int)):Option (Step (Int×(List Int)×(List Int)×(List Xn)×(List Int)) (Out Unit Bool)):=(bif(decide (s2.1<(x0.Xz.length:Int)))then Option.bind ( (al_ x0.Xz s2.1).bind λ y12=>(jo_ y12).bind λ y13=>Option.bind (bif((!y13)||(decide (y12.Id_>=x0.Xt)))then some true else Option.bind (bif(decide (s2.1>0))then(al_ x0.Xz (w64 (s2.1-1))).bind λ y14=>some (decide (y12.Id_<=y14.Id_))else some false) fun(y15:Bool)=>some y15 ) fun(y16:Bool)=>(bif y16 then some (.ret (false))else Option.bind ( (bif(s2.1==0)then Option.bind (bif(((y12.Id_ != 1)||(y12.Xw != 1))||(!(y12.Xy==[47])))then some true else(bu_ y12.Xv).bind λ y17=>some (!y17) ) fun(y18:Bool)=>(bif y18 then some (.ret (false))else some (.fall ()))else(cI_ y12.Xy).bind λ y19=>Option.bind (bif(!y19)then some true else some ((aG_ eqI s2.2.1 s2.2.2.1 y12.Xw 0)==0)) fun(y20:Bool)=>Option.bind (bif y20 then some true else some (decide ((aG_ (fun(a b:Xn)=>decide (a=b)) s2.2.2.2.1 s2.2.2.2.2 (Xn.mk y12.Xw y12.Xy) 0)>0))) fun(y21:Bool)=>(bif y21 then some (.ret (false))else some (.fall ()))) ) fun(wo4:Out Unit Bool)=>match wo4 with | .ret r4=>some (.ret r4) | .fall _=>Option.bind ( (bif(decide (s2.1>0))then(both ( some ((aQ_ (fun(a b:Xn)=>decide (a=b)) (aQ_ (fun(a b:Xn)=>decide (a=b)) s2.2.2.2.1 (Xn.mk y12.Xw y12.Xy)) (Xn.mk y12.Xw y12.Xy)),(bm_ (fun(a b:Xn)=>decide (a=b)) (aQ_ (fun(a b:Xn)=>decide (a=b)) s2.2.2.2.1 (Xn.mk y12.Xw y12.Xy)) (bm_ (fun(a b:Xn)=>decide (a=b)) s2.2.2.2.1 s2.2.2.2.2 (Xn.mk y12.Xw y12.Xy) (aG_ (fun(a b:Xn)=>decide (a=b)) s2.2.2.2.1 s2.2.2.2.2 (Xn.mk y12.Xw y12.Xy) 0)) (Xn.mk y12.Xw y12.Xy) (w64 ((aG_ (fun(a b:Xn)=>decide (a=b)) s2.2.2.2.1 s2.2.2.2.2 (Xn.mk y12.Xw y12.Xy) 0)+1))))) ( some ((aQ_ (fun(a b:Xn)=>decide (a=b)) (aQ_ (fun(a b:Xn)=>decide (a=b)) s2.2.2.2.1 (Xn.mk y12.Xw y12.Xy)) (Xn.mk y12.Xw y12.Xy)),(bm_ (fun(a b:Xn)=>decide (a=b)) (aQ_ (fun(a b:Xn)=>decide (a=b)) s2.2.2.2.1 (Xn.mk y12.Xw y12.Xy)) (bm_ (fun(a b:Xn)=>decide (a=b)) s2.2.2.2.1 s2.2.2.2.2 (Xn.mk y12.Xw y12.Xy) (aG_ (fun(a b:Xn)=>decide (a=b)) s2.2.2.2.1 s2.2.2.2.2 (Xn.mk y12.Xw y12.Xy) 0)) (Xn.mk y12.Xw y12.Xy) (w64 ((aG_ (fun(a b:Xn)=>decide (a=b)) (aQ_ (fun(a b:Xn)=>decide (a=b)) s2.2.2.2.1 (Xn.mk y12.Xw y12.Xy)) (bm_ (fun(a b:Xn)=>decide (a=b)) s2.2.2.2.1 s2.2.2.2.2 (Xn.mk y12.Xw y12.Xy) (aG_ (fun(a b:Xn)=>decide (a=b)) s2.2.2.2.1 s2.2.2.2.2 (Xn.mk y12.Xw y12.Xy) 0)) (Xn.mk y12.Xw y12.Xy) 0)+1))))))else some (s2.2.2.2.1,s2.2.2.2.2)) ) fun(o5:(List Xn)×(List Int))=>(bu_ y12.Xv).bind λ y22=>(bif y22 then some (.fall ((aQ_ eqI s2.2.1 y12.Id_),(bm_ eqI s2.2.1 s2.2.2.1 y12.Id_ (w64 ((aG_ eqI s2.2.1 s2.2.2.1 y12.Id_ 0)+1))),o5.1,o5.2))else some (.fall (s2.2.1,s2.2.2.1,o5.1,o5.2)))) ) fun(wo6:Out ((List Int)×(List Int)×(List Xn)×(List Int)) Bool)=>match wo6 with | .ret r6=>some (.done (.ret r6)) | .fall o6=>some (.next ((w64 (s2.1+1)),o6.1,o6.2.1,o6.2.2.1,o6.2.2.2))else some (.done (.fall ())))
def dD_(x0:Xk):Option Bool:=(bif(((decide ((x0.Xz.length:Int)<1))||(decide ((x0.Xz.length:Int)>1024)))||(decide (x0.Xt>1048576)))then some (false)else(ak_ (cJ_ x0) BIG (0,([]:List Int),([]:List Int),([]:List Xn),([]:List Int))).bind λ wo7=>match wo7 with | .ret r7=>some r7 | .fall _=>some (true))
def bU_(x0:Xg)(x1:Str):Option (Xk×Int×Xg):=(b7_ x0 x1 4).bind λ y1=>(bif(y1.2.1 != 0)then some (((Xk.mk 0 []),y1.2.1,y1.2.2))else(aw_ (Yy.mk y1.1 0 false) 4).bind λ y2=>(aw_ y2.2 4).bind λ y3=>(cl_ y3.2).bind λ y4=>(bif(((y4.2.Zv||(y4.2.at_ != (y1.1.length:Int)))||(decide (y3.1<1)))||(decide (y3.1>1024)))then some (((Xk.mk 0 []),2,y1.2.2))else Option.bind (aS_ BIG (Xe.mk [] y3.1) y1.2.2 y4.1) fun(y5:Int×Xe×Xg)=>(bif(y5.1 != 0)then some (((Xk.mk 0 []),y5.1,y5.2.2))else(dJ_ (fun(x:Xq)=>x.Id_) y5.2.1.Zc).bind λ y6=>Option.bind (bif((y6.length:Int) != y3.1)then some true else(dD_ (Xk.mk y2.1 y6)).bind λ y7=>some (!y7) ) fun(y8:Bool)=>(bif y8 then some (((Xk.mk 0 []),2,y5.2.2))else some (((Xk.mk y2.1 y6),0,y5.2.2))))))
def bK_(x0:Xj)(x1:Str):Option (Xk×Int):=Option.bind (bU_ (Xg.mk x0 []) x1) fun(y1:Xk×Int×Xg)=>some ((y1.1,y1.2.1))
def db_(x0:Xh)(x1:Int):Option (Yn×Bool):=(bif((x1==1)||(x1==2))then some (((Yn.mk (Xx.mk [] [] (Xk.mk 0 []) []) 0 x1),true))else(bif((decide (x1<1048576))||(decide ((IntKind.i64.wrap (x1.tdiv 1048576))>(w64 ((x0.Xc.length:Int)+1)))))then some (((Yn.mk (Xx.mk [] [] (Xk.mk 0 []) []) 0 0),false))else Option.bind ( (bif(decide ((IntKind.i64.wrap (x1.tdiv 1048576))>1))then(al_ x0.Xc (w64 ((IntKind.i64.wrap (x1.tdiv 1048576))-2))).bind λ y1=>(bK_ x0.Yf y1.Yq).bind λ y2=>(bif(y2.2 != 0)then some (.ret (((Yn.mk (Xx.mk [] [] (Xk.mk 0 []) []) 0 0),false)))else some (.fall (x0.Xb.Yx,x0.Xb.Yj,y2.1.Xt,y2.1.Xz,[],(IntKind.i64.wrap (x1.tdiv 1048576)),(x1.tmod 1048576))))else some (.fall (x0.Xb.Yx,x0.Xb.Yj,x0.Xb.Xm.Xt,x0.Xb.Xm.Xz,x0.Xb.Xs,(IntKind.i64.wrap (x1.tdiv 1048576)),(x1.tmod 1048576)))) ) fun(wo1:Out ((List Xf)×(List Yz)×Int×(List Xq)×(List Int)×Int×Int) (Yn×Bool))=>match wo1 with | .ret r1=>some r1 | .fall o1=>(b0_ (Xk.mk o1.2.2.1 o1.2.2.2.1) (x1.tmod 1048576)).bind λ y3=>some (((Yn.mk (Xx.mk o1.1 o1.2.1 (Xk.mk o1.2.2.1 o1.2.2.2.1) o1.2.2.2.2.1) o1.2.2.2.2.2.1 o1.2.2.2.2.2.2),y3.2))))
def bX_(x0:Xh)(x1:Str)(x2:Int):Option (Yn×Int):=(fv_ x0 x1).bind λ y1=>(bif(!y1)then some (((Yn.mk (Xx.mk [] [] (Xk.mk 0 []) []) 0 0),25))else(db_ x0 x2).bind λ y2=>(bif(!y2.2)then some (((Yn.mk (Xx.mk [] [] (Xk.mk 0 []) []) 0 0),8))else some ((y2.1,0))))
def aW_(x0:List Yk):Option (List Yk):=(nilB x0 fun(n1:Bool)=>(bif n1 then some ([])else(room 40 ([]:List Yk) x0).bind λ y1=>some (y1)))
def b1_(x0:List Yd):Option (List Yd):=(nilB x0 fun(n1:Bool)=>(bif n1 then some ([])else(room 24 ([]:List Yd) x0).bind λ y1=>some (y1)))
def ar_(x0:Xh):Option Xh:=(b6_ x0.Xb).bind λ y1=>(aW_ x0.Yf.Xd).bind λ y2=>(b1_ x0.Xc).bind λ y3=>some ((Xh.mk y1 (Xj.mk x0.Yf.Ya y2) y3))
def dr_(y1:(List Xf))(s2:Int×(List Xf)):Option (Step (Int×(List Xf)) (List Xf)):=(bif(decide (s2.1<(y1.length:Int)))then(al_ s2.2 s2.1).bind λ y5=>(bc_ y5.Yp).bind λ y6=>(al_ s2.2 s2.1).bind λ y7=>some (.next ((w64 (s2.1+1)),(s2.2.set s2.1.toNat (Xf.mk y7.Xy y7.Yt y6))))else some (.done s2.2))
def cb_(x0:Xx):Option Xx:=(bj_ x0.Yx).bind λ y1=>(ak_ (dr_ y1) BIG (0,y1)).bind λ o1=>(bx_ x0.Xm.Xz).bind λ y8=>(aV_ x0.Yj).bind λ y9=>(bS_ x0.Xs).bind λ y10=>some ((Xx.mk o1 y9 (Xk.mk x0.Xm.Xt y8) y10))
def c9_(x0:Int):Option Bool:=(bif(decide (x0<0))then some (false)else some ((((cu_ .i64 x0 511)==2147483648)||((cu_ .i64 (cu_ .i64 x0 511) 1610612736)==0))))
def iD_(x0:Int)(x1:Int):Option Bool:=Option.bind (bif(decide (x0>=0))then(quoI .i64 x0 x1).bind λ y1=>some ((y1.tmod 2)==1)else some false) fun(y2:Bool)=>some (y2)
def cP_(x0:Int):Option (Int×Int):=Option.bind ( (iD_ x0 16).bind λ y1=>(bif y1 then some (w64 (x0-16))else some x0) ) fun(o1:Int)=>Option.bind ( (iD_ x0 64).bind λ y2=>(bif y2 then some (w64 (o1-64))else some o1) ) fun(o2:Int)=>(bif((decide (o2<0))||(decide (o2>3)))then some ((0,12))else(al_ [4,2,6,1] o2).bind λ y3=>Option.bind ( (iD_ x0 16).bind λ y4=>(bif y4 then some (orI .i64 y3 2)else some y3) ) fun(o3:Int)=>some ((o3,0)))
def ll_(x0:List Yz)(x1:Str)(s2:Int):Option (Step Int (Out Unit (Yz×Bool))):=(bif(decide (s2<(x0.length:Int)))then(al_ x0 s2).bind λ y2=>(bif(y2.Ys==x1)then some (.done (.ret ((y2,true))))else some (.next (w64 (s2+1))))else some (.done (.fall ())))
def o7_(x0:List Yz)(x1:Str):Option (Yz×Bool):=(ak_ (ll_ x0 x1) BIG 0).bind λ wo1=>match wo1 with | .ret r1=>some r1 | .fall _=>some (((Yz.mk [] 0 0),false))
def lm_(x0:Xk)(x1:Str)(s2:Int×Int×Int):Option (Step (Int×Int×Int) (Int×Int)):=(bif(decide (s2.2.2<(x0.Xz.length:Int)))then Option.bind ( (al_ x0.Xz s2.2.2).bind λ y2=>(bif(y2.Yw==x1)then some ((w64 (s2.1+1)),(w64 (s2.2.1+(y2.Xl.length:Int))))else some (s2.1,s2.2.1)) ) fun(o2:Int×Int)=>some (.next (o2.1,o2.2,(w64 (s2.2.2+1))))else some (.done (s2.1,s2.2.1)))
def lX_(x0:Xk)(x1:Str):Option (Int×Int):=(ak_ (lm_ x0 x1) BIG (0,0,0)).bind λ o3=>some ((o3.1,o3.2))
def hl_(x0:List Yz)(x1:Xk)(x2:Str)(x3:Int)(x4:Int):Option Bool:=(o7_ x0 x2).bind λ y1=>(bif(!y1.2)then some (true)else(lX_ x1 x2).bind λ y2=>some ((((decide (x3<=0))||(decide (x3<=(w64 (y1.1.Xb-y2.1)))))&&((decide (x4<=0))||(decide (x4<=(w64 (y1.1.Zq-y2.2))))))))
def eH_(x0:Xx)(x1:Str)(x2:Xq)(x3:Str)(x4:Int)(x5:Int):Option Int:=(cI_ x3).bind λ y1=>(bif(!y1)then some (6)else(c9_ x4).bind λ y2=>(bif(!y2)then some (1)else(cP_ x5).bind λ y3=>(bif(y3.2 != 0)then some (y3.2)else(aq_ x4 2147483648).bind λ y4=>(bif(y4&&(x5 != 0))then some (12)else(c0_ x0 x1 x2 2).bind λ y5=>(bif(!y5)then some (11)else(fI_ x0.Xm x2.Id_ x3).bind λ y6=>(bif(y6.2==0)then some (7)else(hl_ x0.Yj x0.Xm x1 1 0).bind λ y7=>(bif(!y7)then some (21)else some (0))))))))
def ew_(x0:Int)(x1:Int):Option Int:=(bif((decide (x0<0))||(decide (x1<0)))then some (0)else Option.bind ( (iD_ x1 2147483648).bind λ y1=>(bif y1 then some 511 else some 438) ) fun(o1:Int)=>some ((cu_ .i64 x1 (cu_ .i64 o1 x0))))
def aE_(x0:Xk):Option Xk:=Option.bind (i8_ 128 ((Xq.mk 0 0 0 [] 0 [] [] [] 0 0 []):Xq) (x0.Xz.length:Int)) fun(y1:List Xq)=>some ((Xk.mk x0.Xt (lH_ y1 x0.Xz)))
def c1_(x0:Xk)(x1:Int)(x2:Str)(x3:Int):Option Xk:=(al_ x0.Xz x1).bind λ y1=>Option.bind ( (bif(decide (((Xq.mk y1.Id_ y1.Xw (w64 (y1.Xo+1)) y1.Xy y1.Xv y1.Yw y1.Yv y1.Yg y1.Xu y1.Xa y1.Xl).Xo)>2147483647))then some ((x0.Xz.set x1.toNat (Xq.mk y1.Id_ y1.Xw (w64 (y1.Xo+1)) y1.Xy y1.Xv y1.Yw y1.Yv y1.Yg y1.Xu y1.Xa y1.Xl)).set x1.toNat (Xq.mk ((Xq.mk y1.Id_ y1.Xw (w64 (y1.Xo+1)) y1.Xy y1.Xv y1.Yw y1.Yv y1.Yg y1.Xu y1.Xa y1.Xl).Id_) ((Xq.mk y1.Id_ y1.Xw (w64 (y1.Xo+1)) y1.Xy y1.Xv y1.Yw y1.Yv y1.Yg y1.Xu y1.Xa y1.Xl).Xw) 0 ((Xq.mk y1.Id_ y1.Xw (w64 (y1.Xo+1)) y1.Xy y1.Xv y1.Yw y1.Yv y1.Yg y1.Xu y1.Xa y1.Xl).Xy) ((Xq.mk y1.Id_ y1.Xw (w64 (y1.Xo+1)) y1.Xy y1.Xv y1.Yw y1.Yv y1.Yg y1.Xu y1.Xa y1.Xl).Xv) ((Xq.mk y1.Id_ y1.Xw (w64 (y1.Xo+1)) y1.Xy y1.Xv y1.Yw y1.Yv y1.Yg y1.Xu y1.Xa y1.Xl).Yw) ((Xq.mk y1.Id_ y1.Xw (w64 (y1.Xo+1)) y1.Xy y1.Xv y1.Yw y1.Yv y1.Yg y1.Xu y1.Xa y1.Xl).Yv) ((Xq.mk y1.Id_ y1.Xw (w64 (y1.Xo+1)) y1.Xy y1.Xv y1.Yw y1.Yv y1.Yg y1.Xu y1.Xa y1.Xl).Yg) ((Xq.mk y1.Id_ y1.Xw (w64 (y1.Xo+1)) y1.Xy y1.Xv y1.Yw y1.Yv y1.Yg y1.Xu y1.Xa y1.Xl).Xu) ((Xq.mk y1.Id_ y1.Xw (w64 (y1.Xo+1)) y1.Xy y1.Xv y1.Yw y1.Yv y1.Yg y1.Xu y1.Xa y1.Xl).Xa) ((Xq.mk y1.Id_ y1.Xw (w64 (y1.Xo+1)) y1.Xy y1.Xv y1.Yw y1.Yv y1.Yg y1.Xu y1.Xa y1.Xl).Xl)))else some (x0.Xz.set x1.toNat (Xq.mk y1.Id_ y1.Xw (w64 (y1.Xo+1)) y1.Xy y1.Xv y1.Yw y1.Yv y1.Yg y1.Xu y1.Xa y1.Xl))) ) fun(o1:(List Xq))=>(al_ o1 x1).bind λ y2=>(fQ_ x3).bind λ y3=>(ea_ x2).bind λ y4=>some (Xk.mk x0.Xt ((o1.set x1.toNat (Xq.mk y2.Id_ y2.Xw y2.Xo y2.Xy y2.Xv y2.Yw y2.Yv y2.Yg y2.Xu y3 y2.Xl)).set x1.toNat (Xq.mk ((Xq.mk y2.Id_ y2.Xw y2.Xo y2.Xy y2.Xv y2.Yw y2.Yv y2.Yg y2.Xu y3 y2.Xl).Id_) ((Xq.mk y2.Id_ y2.Xw y2.Xo y2.Xy y2.Xv y2.Yw y2.Yv y2.Yg y2.Xu y3 y2.Xl).Xw) ((Xq.mk y2.Id_ y2.Xw y2.Xo y2.Xy y2.Xv y2.Yw y2.Yv y2.Yg y2.Xu y3 y2.Xl).Xo) ((Xq.mk y2.Id_ y2.Xw y2.Xo y2.Xy y2.Xv y2.Yw y2.Yv y2.Yg y2.Xu y3 y2.Xl).Xy) ((Xq.mk y2.Id_ y2.Xw y2.Xo y2.Xy y2.Xv y2.Yw y2.Yv y2.Yg y2.Xu y3 y2.Xl).Xv) ((Xq.mk y2.Id_ y2.Xw y2.Xo y2.Xy y2.Xv y2.Yw y2.Yv y2.Yg y2.Xu y3 y2.Xl).Yw) ((Xq.mk y2.Id_ y2.Xw y2.Xo y2.Xy y2.Xv y2.Yw y2.Yv y2.Yg y2.Xu y3 y2.Xl).Yv) y4 ((Xq.mk y2.Id_ y2.Xw y2.Xo y2.Xy y2.Xv y2.Yw y2.Yv y2.Yg y2.Xu y3 y2.Xl).Xu) ((Xq.mk y2.Id_ y2.Xw y2.Xo y2.Xy y2.Xv y2.Yw y2.Yv y2.Yg y2.Xu y3 y2.Xl).Xa) ((Xq.mk y2.Id_ y2.Xw y2.Xo y2.Xy y2.Xv y2.Yw y2.Yv y2.Yg y2.Xu y3 y2.Xl).Xl))))
def h3_(x0:Xk)(x1:Int)(x2:Str)(x3:Int)(x4:Str)(x5:Str)(x6:Int):Option (Xk×Int×Int):=(ge_ x0 x1).bind λ y1=>(bif(y1 != 0)then(aE_ x0).bind λ y2=>some ((y2,0,y1))else(cI_ x2).bind λ y3=>(bif(!y3)then(aE_ x0).bind λ y4=>some ((y4,0,6))else(hk_ x3).bind λ y5=>(bif(!y5)then(aE_ x0).bind λ y6=>some ((y6,0,1))else(hh_ x0 x1 x2).bind λ y7=>(bif(decide (y7>=0))then(aE_ x0).bind λ y8=>some ((y8,0,7))else(bif((decide ((x0.Xz.length:Int)>=1024))||(decide (x0.Xt>1048575)))then(aE_ x0).bind λ y9=>some ((y9,0,22))else(aE_ x0).bind λ y10=>(c7_ y10 x1).bind λ y11=>(c1_ y10 y11 x4 x6).bind λ y12=>(fQ_ x6).bind λ y13=>(ea_ x4).bind λ y14=>(ea_ x5).bind λ y15=>(ea_ x4).bind λ y16=>Option.bind (room 128 y12.Xz [(Xq.mk x0.Xt x1 0 x2 x3 y14 y15 y16 y13 y13 [])]) fun(y17:List Xq)=>some (((Xk.mk (w64 (y10.Xt+1)) y17),x0.Xt,0)))))))
def cmp_isNaN_int(x0:Int):Option Bool:=some ((x0 != x0))
def cmp_Less_int(x0:Int)(x1:Int):Option Bool:=(cmp_isNaN_int x0).bind λ y1=>Option.bind (bif y1 then(cmp_isNaN_int x1).bind λ y2=>some (!y2)else some false) fun(y3:Bool)=>some ((y3||(decide (x0<x1))))
def cM_(x0:Int):Option Bool:=some ((x0 != x0))
def aX_(x0:List Int)(x1:Int)(s2:Int×Int):Option (Step (Int×Int) Int):=(bif(decide (s2.1<s2.2))then(al_ x0 (w64 (((IntKind.u64.wrap (w64 (s2.1+s2.2))).fdiv (2^1))))).bind λ y3=>(cmp_Less_int y3 x1).bind λ y4=>(bif y4 then some (.next ((w64 ((w64 (((IntKind.u64.wrap (w64 (s2.1+s2.2))).fdiv (2^1))))+1)),s2.2))else some (.next (s2.1,(w64 (((IntKind.u64.wrap (w64 (s2.1+s2.2))).fdiv (2^1)))))))else some (.done s2.1))
def bF_(x0:List Int)(x1:Int):Option (Int×Bool):=(ak_ (aX_ x0 x1) BIG (0,(x0.length:Int))).bind λ o1=>Option.bind (bif(decide (o1<(x0.length:Int)))then(al_ x0 o1).bind λ y5=>Option.bind (bif(y5==x1)then some true else(al_ x0 o1).bind λ y6=>(cM_ y6).bind λ y7=>Option.bind (bif y7 then(cM_ x1).bind λ y8=>some y8 else some false) fun(y9:Bool)=>some y9 ) fun(y10:Bool)=>some y10 else some false) fun(y11:Bool)=>some ((o1,y11))
def ex_(x0:Xx)(x1:Int):Option Xx:=Option.bind ( (bF_ x0.Xs x1).bind λ y1=>(bif(!y1.2)then(bS_ x0.Xs).bind λ y2=>((insN (α:=Int) 8) y2 y1.1 [x1]).bind λ y3=>some (x0.Yx,x0.Yj,x0.Xm.Xt,x0.Xm.Xz,y3)else some (x0.Yx,x0.Yj,x0.Xm.Xt,x0.Xm.Xz,x0.Xs)) ) fun(o1:(List Xf)×(List Yz)×Int×(List Xq)×(List Int))=>some ((Xx.mk o1.1 o1.2.1 (Xk.mk o1.2.2.1 o1.2.2.2.1) o1.2.2.2.2))
def eo_(x0:Xx)(x1:Str)(x2:Int)(x3:Str)(x4:Int)(x5:Int)(x6:Int):Option (Xx×Int×Int):=(cb_ x0).bind λ y1=>(cz_ x0 x1 x2).bind λ y2=>Option.bind ( (bif(y2.2==0)then(eH_ x0 x1 y2.1 x3 x4 x5).bind λ y3=>some y3 else some y2.2) ) fun(o1:Int)=>(bif(o1 != 0)then some ((y1,0,o1))else(ew_ y2.1.Xv x4).bind λ y4=>(bE_ x6).bind λ y5=>(h3_ y1.Xm x2 x3 (orI .i64 (cu_ .i64 x4 511) (bR_ .i64 y4 511)) x1 y2.1.Yv y5).bind λ y6=>(bif(y6.2.2 != 0)then some ((y1,0,y6.2.2))else Option.bind ( (aq_ (orI .i64 (cu_ .i64 x4 511) (bR_ .i64 y4 511)) 536870912).bind λ y7=>(bif y7 then(ex_ (Xx.mk y1.Yx y1.Yj y6.1 y1.Xs) y6.2.1).bind λ y8=>some (y8.Yx,y8.Yj,y8.Xm.Xt,y8.Xm.Xz,y8.Xs)else some (y1.Yx,y1.Yj,y6.1.Xt,y6.1.Xz,y1.Xs)) ) fun(o2:(List Xf)×(List Yz)×Int×(List Xq)×(List Int))=>some (((Xx.mk o2.1 o2.2.1 (Xk.mk o2.2.2.1 o2.2.2.2.1) o2.2.2.2.2),y6.2.1,0))))
def cc_(x0:Xh)(x1:Xx):Option Xh:=(ar_ x0).bind λ y1=>some ((Xh.mk x1 y1.Yf y1.Xc))
def c8_(x0:Xh)(x1:Str)(x2:Int)(x3:Str)(x4:Int)(x5:Int)(x6:Int):Option (Xh×Int×Int):=(bX_ x0 x1 x2).bind λ y1=>(bif(y1.2 != 0)then(ar_ x0).bind λ y2=>some ((y2,0,y1.2))else(bif(y1.1.Zk != 1)then(ar_ x0).bind λ y3=>some ((y3,0,33))else(eo_ x0.Xb x1 y1.1.Ym x3 x4 x5 x6).bind λ y4=>(bif(y4.2.2 != 0)then(ar_ x0).bind λ y5=>some ((y5,0,y4.2.2))else(cc_ x0 y4.1).bind λ y6=>some ((y6,(w64 (1048576+y4.2.1)),0)))))
def cw_(x0:Yn):Option Bool:=(bif(x0.Zk==0)then some (true)else(b0_ x0.Zj.Xm x0.Ym).bind λ y1=>some ((decide (y1.1.Xv>=2147483648))))
def eI_(x0:Xx)(x1:Xq)(x2:Int):Option Bool:=Option.bind (bif(decide (x2<=(x1.Xl.length:Int)))then some true else(hl_ x0.Yj x0.Xm x1.Yw 0 (w64 (x2-(x1.Xl.length:Int)))).bind λ y1=>some y1 ) fun(y2:Bool)=>some (y2)
def i1_(x0:Xk)(x1:Int):Option (Int×Int):=(c7_ x0 x1).bind λ y1=>(bif(decide (y1<0))then some ((0,8))else(al_ x0.Xz y1).bind λ y2=>(bu_ y2.Xv).bind λ y3=>(bif y3 then some ((0,10))else some ((y1,0))))
def mC_(x0:Int):Option Bool:=some (((decide (x0>=0))&&(((IntKind.i64.wrap (x0.tdiv 1073741824)).tmod 2)==1)))
def mD_(x0:Str)(x1:Int):Option Str:=(bif(decide (x1<=(x0.length:Int)))then(bz_ x0 0 x1).bind λ y1=>some (y1)else(strings_Repeat [0] (w64 (x1-(x0.length:Int)))).bind λ y2=>(cat x0 y2).bind λ y3=>some (y3))
def jp_(x0:Xk)(x1:Int)(x2:Int)(x3:Str)(x4:Str)(x5:Int):Option (Xk×Int×Int):=(i1_ x0 x1).bind λ y1=>(bif(y1.2 != 0)then(aE_ x0).bind λ y2=>some ((y2,0,y1.2))else(bif(decide (x2<0))then(aE_ x0).bind λ y3=>some ((y3,0,1))else(bif(x3==[])then(aE_ x0).bind λ y4=>some ((y4,0,0))else(al_ x0.Xz y1.1).bind λ y5=>Option.bind ( (al_ x0.Xz y1.1).bind λ y6=>(mC_ y6.Xv).bind λ y7=>(bif y7 then some (y5.Xl.length:Int)else some x2) ) fun(o1:Int)=>(bif((decide (o1>65536))||(decide ((x3.length:Int)>(w64 (65536-o1)))))then(aE_ x0).bind λ y8=>some ((y8,0,4))else(aE_ x0).bind λ y9=>(mD_ y5.Xl o1).bind λ y10=>(cat y10 x3).bind λ y11=>(bz_ y5.Xl (ck_ (w64 (o1+(x3.length:Int))) (y5.Xl.length:Int)) (y5.Xl.length:Int)).bind λ y12=>(cat y11 y12).bind λ y13=>(al_ y9.Xz y1.1).bind λ y14=>(c1_ (Xk.mk y9.Xt (y9.Xz.set y1.1.toNat (Xq.mk y14.Id_ y14.Xw y14.Xo y14.Xy y14.Xv y14.Yw y14.Yv y14.Yg y14.Xu y14.Xa y13))) y1.1 x4 x5).bind λ y15=>some (((Xk.mk y9.Xt y15.Xz),(x3.length:Int),0))))))
def eJ_(x0:Xx)(x1:Str)(x2:Int)(x3:Int)(x4:Str)(x5:Int):Option (Xx×Int×Int):=(cb_ x0).bind λ y1=>(cD_ x0 x1 x2).bind λ y2=>(bif(y2.2 != 0)then some ((y1,0,y2.2))else(aq_ y2.1.Xv 2147483648).bind λ y3=>(bif y3 then some ((y1,0,10))else(bif(decide (x3<0))then some ((y1,0,1))else(bif(x4==[])then some ((y1,0,0))else Option.bind ( (aq_ y2.1.Xv 1073741824).bind λ y4=>(bif y4 then some (y2.1.Xl.length:Int)else some x3) ) fun(o1:Int)=>(bif((decide (o1>65536))||(decide ((x4.length:Int)>(w64 (65536-o1)))))then some ((y1,0,4))else(eI_ x0 y2.1 (w64 (o1+(x4.length:Int)))).bind λ y5=>(bif(!y5)then some ((y1,0,21))else(bE_ x5).bind λ y6=>(jp_ y1.Xm x2 o1 x4 x1 y6).bind λ y7=>(bif(y7.2.2 != 0)then some ((y1,0,y7.2.2))else some (((Xx.mk y1.Yx y1.Yj y7.1 y1.Xs),y7.2.1,0)))))))))
def cQ_(x0:Xh)(x1:Str)(x2:Int)(x3:Int)(x4:Str)(x5:Int):Option (Xh×Int×Int):=(bX_ x0 x1 x2).bind λ y1=>(bif(y1.2 != 0)then(ar_ x0).bind λ y2=>some ((y2,0,y1.2))else(cw_ y1.1).bind λ y3=>(bif y3 then(ar_ x0).bind λ y4=>some ((y4,0,10))else(bif(decide (x3<0))then(ar_ x0).bind λ y5=>some ((y5,0,1))else(bif(y1.1.Zk != 1)then(ar_ x0).bind λ y6=>some ((y6,0,33))else(eJ_ x0.Xb x1 y1.1.Ym x3 x4 x5).bind λ y7=>(bif(y7.2.2 != 0)then(ar_ x0).bind λ y8=>some ((y8,0,y7.2.2))else(cc_ x0 y7.1).bind λ y9=>some ((y9,y7.2.1,0)))))))
def ei_(x0:Xj):Option Xj:=(aW_ x0.Xd).bind λ y1=>some ((Xj.mk x0.Ya y1))
def fR_(x0:Xk)(x1:Int)(s2:Int×(List Int)):Option (Step (Int×(List Int)) (List Int)):=(bif(decide (s2.1<(x0.Xz.length:Int)))then Option.bind ( (al_ x0.Xz s2.1).bind λ y4=>(bif((y4.Xw==x1)&&(y4.Id_ != 1))then(room 8 s2.2 [y4.Id_]).bind λ y5=>some y5 else some s2.2) ) fun(o2:(List Int))=>some (.next ((w64 (s2.1+1)),o2))else some (.done s2.2))
def eK_(x0:Xk)(x1:Int):Option (List Int):=(ge_ x0 x1).bind λ y1=>(bif(y1 != 0)then some ([])else(ak_ (fR_ x0 x1) BIG (0,[])).bind λ o3=>some (o3))
def gR_(y4:List Int)(x0:Int)(s2:Int×(List Int)):Option (Step (Int×(List Int)) (List Int)):=(bif(decide (s2.1<(y4.length:Int)))then(shrI .i64 x0 (w64 (8*s2.1))).bind λ y7=>(al_ s2.2 s2.1).bind λ _=>some (.next ((w64 (s2.1+1)),(s2.2.set s2.1.toNat (IntKind.u8.wrap y7))))else some (.done s2.2))
def ej_(x0:Int)(x1:Int):Option (Str×Int):=(bif((decide (x1<1))||(decide (x1>8)))then some (([],1))else Option.bind (bif(decide (x0<0))then some true else Option.bind (bif(decide (x1<8))then(shrI .i64 x0 (w64 (8*x1))).bind λ y1=>some (decide (y1>0))else some false) fun(y2:Bool)=>some y2 ) fun(y3:Bool)=>(bif y3 then some (([],5))else(i8_ 1 (0:Int) x1).bind λ y4=>(ak_ (gR_ y4 x0) BIG (0,y4)).bind λ o1=>some (((bytesS o1),0))))
def bw_(x0:Int)(x1:Int)(x2:Str):Option Str:=(ej_ x0 x1).bind λ y1=>(cat x2 y1.1).bind λ y2=>some y2
def f2_(x0:Str):Option (Str×Int):=(bif(decide ((x0.length:Int)>65535))then some (([],4))else(ej_ (x0.length:Int) 2).bind λ y1=>(cat y1.1 x0).bind λ y2=>some ((y2,y1.2)))
def hG_(x0:Xr)(s2:Int×Str×(List Int)):Option (Step (Int×Str×(List Int)) Str):=(bif(decide (s2.1<([x0.Ym.Id_,x0.Ym.Xw,x0.Ym.Xo,x0.Ym.Xv].length:Int)))then(al_ s2.2.2 s2.1).bind λ y3=>(bw_ y3 4 s2.2.1).bind λ y4=>some (.next ((w64 (s2.1+1)),y4,s2.2.2))else some (.done s2.2.1))
def hH_(x0:Xr)(s4:Int×Str×(List Str)):Option (Step (Int×Str×(List Str)) Str):=(bif(decide (s4.1<([x0.Ym.Xy,x0.Ym.Yw,x0.Ym.Yv,x0.Ym.Yg].length:Int)))then(al_ s4.2.2 s4.1).bind λ y10=>(f2_ y10).bind λ y11=>(cat s4.2.1 y11.1).bind λ y12=>some (.next ((w64 (s4.1+1)),y12,s4.2.2))else some (.done s4.2.1))
def ep_(x0:Xr):Option Str:=Option.bind (ak_ (hG_ x0) BIG (0,[],[x0.Ym.Id_,x0.Ym.Xw,x0.Ym.Xo,x0.Ym.Xv])) fun(o1:Str)=>(bw_ x0.Ym.Xu 8 o1).bind λ y5=>(bw_ x0.Ym.Xa 8 y5).bind λ y6=>(ak_ (hH_ x0) BIG (0,y6,[x0.Ym.Xy,x0.Ym.Yw,x0.Ym.Yv,x0.Ym.Yg])).bind λ o2=>(bw_ x0.Zd.Xi 4 o2).bind λ y13=>(bw_ x0.Zd.Yi 1 y13).bind λ y14=>(cat y14 x0.Zd.Yq).bind λ y15=>some (y15)
def hI_(x1:Int)(s2:Str×(List Str)):Option (Step (Str×(List Str)) (Str×(List Str))):=(bif(decide ((s2.1.length:Int)>x1))then(bz_ s2.1 0 x1).bind λ y4=>(room 16 s2.2 [y4]).bind λ y5=>(bz_ s2.1 x1 (s2.1.length:Int)).bind λ y6=>some (.next (y6,y5))else some (.done (s2.1,s2.2)))
def ds_(x0:Str)(x1:Int):Option (List Str):=Option.bind (ak_ (hI_ x1) BIG (x0,[])) fun(o1:Str×(List Str))=>(room 16 o1.2 [o1.1]).bind λ y7=>some (y7)
def kJ_(x0:Xj):Option Xj:=(aW_ x0.Xd).bind λ y1=>some ((Xj.mk x0.Ya y1))
def kK_(x0:Int):Option Bool:=some (((decide (x0>=1))&&(decide (x0<=4))))
def gS_(x0:Xj)(x1:Int)(x2:Str):Option (Xj×Str×Int):=(kJ_ x0).bind λ y1=>(kK_ x1).bind λ y2=>(bif(!y2)then some ((y1,[],1))else(bif(decide ((x2.length:Int)>1024))then some ((y1,[],4))else(hj_ x1 x2).bind λ y3=>(gf_ x0 y3.Yq).bind λ y4=>(bif(decide (y4>=0))then(al_ x0.Xd y4).bind λ y5=>(bif(!(decide (y5=y3)))then some ((y1,[],34))else some ((y1,y3.Yq,0)))else(bif(decide ((x0.Xd.length:Int)>=x0.Ya))then some ((y1,[],22))else(room 40 y1.Xd [y3]).bind λ y6=>some (((Xj.mk y1.Ya y6),y3.Yq,0))))))
def dt_(s4:Int×Xj×Xp×(List Str))(s6:Str×Int×Int×(List Yk)×Xp×(List Str)):Option (Step (Str×Int×Int×(List Yk)×Xp×(List Str)) (Out (Str×Xj×Xp×(List Str)) (Xj×Xp×Int))):=(bif(decide (s6.2.1<(s4.2.2.2.length:Int)))then(al_ s6.2.2.2.2.2 s6.2.1).bind λ y13=>(gS_ (Xj.mk s6.2.2.1 s6.2.2.2.1) s4.1 y13).bind λ y14=>(bif(y14.2.2 != 0)then some (.done (.ret (((Xj.mk s6.2.2.1 s6.2.2.2.1),(Xp.mk [] 0 0),y14.2.2))))else(cat s6.1 y14.2.1).bind λ y15=>some (.next (y15,(w64 (s6.2.1+1)),y14.1.Ya,y14.1.Xd,(Xp.mk y14.2.1 s6.2.2.2.2.1.Xi s6.2.2.2.2.1.Yi),s6.2.2.2.2.2)))else some (.done (.fall (s6.1,(Xj.mk s6.2.2.1 s6.2.2.2.1),s6.2.2.2.2.1,s6.2.2.2.2.2))))
def eq_(s4:Int×Xj×Xp×(List Str)):Option (Step (Int×Xj×Xp×(List Str)) (Out Unit (Xj×Xp×Int))):=Option.bind (ak_ (dt_ s4) BIG ([],0,s4.2.1.Ya,s4.2.1.Xd,s4.2.2.1,s4.2.2.2)) fun(wo2:Out (Str×Xj×Xp×(List Str)) (Xj×Xp×Int))=>match wo2 with | .ret r2=>some (.done (.ret r2)) | .fall o2=>(bif((o2.2.2.2.length:Int)==1)then some (.done (.ret ((o2.2.1,o2.2.2.1,0))))else(ds_ o2.1 1024).bind λ y16=>some (.next (2,o2.2.1,o2.2.2.1,y16)))
def ek_(x0:Xj)(x1:Int)(x2:Str):Option (Xj×Xp×Int):=(en_ (x2.length:Int)).bind λ y1=>(ds_ x2 1024).bind λ y2=>Option.bind (ak_ eq_ BIG (x1,x0,(Xp.mk [] (x2.length:Int) y1),y2)) fun(wo3:Out Unit (Xj×Xp×Int))=>match wo3 with | .ret r3=>some r3 | .fall _=>none
def cR_(y3:(List Int))(rec0:Xj->Xk->Int->Option (Xj×Xr×Int))(x1:Xk)(s2:Str×Int×Xj×(List Int)):Option (Step (Str×Int×Xj×(List Int)) (Out (Str×Xj) (Xj×Xr×Int))):=(bif(decide (s2.2.1<(y3.length:Int)))then(al_ s2.2.2.2 s2.2.1).bind λ y8=>(rec0 s2.2.2.1 x1 y8).bind λ y9=>(bif(y9.2.2 != 0)then some (.done (.ret ((s2.2.2.1,(Xr.mk (Xq.mk 0 0 0 [] 0 [] [] [] 0 0 []) (Xp.mk [] 0 0)),y9.2.2))))else(ep_ y9.2.1).bind λ y10=>(cat s2.1 y10).bind λ y11=>some (.next (y11,(w64 (s2.2.1+1)),y9.1,s2.2.2.2)))else some (.done (.fall (s2.1,s2.2.2.1))))
def cA_(rec0:Xj->Xk->Int->Option (Xj×Xr×Int))(x0:Xj)(x1:Xk)(x2:Int):Option (Xj×Xr×Int):=(b0_ x1 x2).bind λ y1=>Option.bind ( Option.bind (ca_ (Xq.mk y1.1.Id_ y1.1.Xw y1.1.Xo y1.1.Xy y1.1.Xv y1.1.Yw y1.1.Yv y1.1.Yg y1.1.Xu y1.1.Xa [])) fun(y2:Bool)=>(bif y2 then(eK_ x1 x2).bind λ y3=>Option.bind (ak_ (cR_ y3 rec0 x1) BIG ([],0,x0,y3)) fun(wo1:Out (Str×Xj) (Xj×Xr×Int))=>match wo1 with | .ret r1=>some (.ret r1) | .fall o1=>some (.fall (3,o1.1,o1.2))else some (.fall (1,y1.1.Xl,x0))) ) fun(wo2:Out (Int×Str×Xj) (Xj×Xr×Int))=>match wo2 with | .ret r2=>some r2 | .fall o2=>(ek_ o2.2.2 o2.1 o2.2.1).bind λ y12=>some ((y12.1,(Xr.mk (Xq.mk y1.1.Id_ y1.1.Xw y1.1.Xo y1.1.Xy y1.1.Xv y1.1.Yw y1.1.Yv y1.1.Yg y1.1.Xu y1.1.Xa []) y12.2.1),y12.2.2))
def ci_:Nat->Xj->Xk->Int->Option (Xj×Xr×Int) | 0=>λ _ _ _=>none|n+1=>cA_ (ci_ n)
def dR_(x0:Xj)(x1:Xk):Option (Xj×Str×Int):=(dD_ x1).bind λ y1=>(bif(!y1)then(ei_ x0).bind λ y2=>some ((y2,[],1))else(ci_ BIG x0 x1 1).bind λ y3=>(bif(y3.2.2 != 0)then(ei_ x0).bind λ y4=>some ((y4,[],y3.2.2))else(ej_ x1.Xt 4).bind λ y5=>(ej_ (x1.Xz.length:Int) 4).bind λ y6=>(cat y5.1 y6.1).bind λ y7=>(ep_ y3.2.1).bind λ y8=>(cat y7 y8).bind λ y9=>(gS_ y3.1 4 y9).bind λ y10=>(bif(y10.2.2 != 0)then(ei_ x0).bind λ y11=>some ((y11,[],y10.2.2))else some ((y10.1,y10.2.1,0)))))
def d0_(x0:Xh)(x1:Int):Option (Xh×Int):=(bif(decide ((x0.Xc.length:Int)>=64))then(ar_ x0).bind λ y1=>some ((y1,22))else Option.bind (bif((decide (x1<0))||(decide (x1>1099511627776)))then some true else Option.bind (bif(decide ((x0.Xc.length:Int)>0))then(al_ x0.Xc (w64 ((x0.Xc.length:Int)-1))).bind λ y2=>some (decide (x1<=y2.Yb))else some false) fun(y3:Bool)=>some y3 ) fun(y4:Bool)=>(bif y4 then(ar_ x0).bind λ y5=>some ((y5,1))else(dR_ x0.Yf x0.Xb.Xm).bind λ y6=>(bif(y6.2.2 != 0)then(ar_ x0).bind λ y7=>some ((y7,y6.2.2))else(ar_ x0).bind λ y8=>(room 24 y8.Xc [(Yd.mk x1 y6.2.1)]).bind λ y9=>some (((Xh.mk y8.Xb y6.1 y9),0)))))
def jq_(x0:Int):Option Int:=some ((w64 ((w64 (x0*1048576))+1)))
def num_known(x0:Int):Option Bool:=some ((((x0==8)||(x0==10))||(x0==16)))
def num_Text(x0:Int)(x1:Int):Option Str:=(num_known x1).bind λ y1=>(bif(!y1)then some ([])else(fg_ x0 x1).bind λ y2=>some (y2))
def mE_(x0:Xh)(x2:Int)(x3:Str)(s2:Int):Option (Step Int (Out Unit (Int×Int))):=(bif(decide (s2<(x0.Xc.length:Int)))then(al_ x0.Xc s2).bind λ y8=>Option.bind (bif(x2==2)then(num_Text y8.Yb 10).bind λ y9=>some (y9==x3)else some false) fun(y10:Bool)=>(bif y10 then(jq_ (w64 (2+s2))).bind λ y11=>some (.done (.ret ((y11,0))))else some (.next (w64 (s2+1))))else some (.done (.fall ())))
def il_(x0:Xh)(x1:Str)(x2:Int)(x3:Str):Option (Int×Int):=(bX_ x0 x1 x2).bind λ y1=>(bif(y1.2 != 0)then some ((0,y1.2))else(bif(decide (y1.1.Zk>0))then(eu_ y1.1.Zj x1 y1.1.Ym x3).bind λ y2=>(bif(y2.2 != 0)then some ((0,y2.2))else(bif((x3==[46,46])&&(y1.1.Ym==1))then some (((ck_ y1.1.Zk 2),0))else some (((w64 ((w64 (y1.1.Zk*1048576))+y2.1)),0))))else(bif(x3==[46,46])then some ((1,0))else(bif((x2==1)&&(x3==[97,99,116,105,118,101]))then(jq_ 1).bind λ y3=>some ((y3,0))else(bif((x2==1)&&(x3==[97,114,99,104,105,118,101]))then some ((2,0))else(ak_ (mE_ x0 x2 x3) BIG 0).bind λ wo1=>match wo1 with | .ret r1=>some r1 | .fall _=>some ((0,8)))))))
def tree_Read(x0:Xk)(x1:Int)(x2:Int)(x3:Int):Option (Str×Int):=(i1_ x0 x1).bind λ y1=>(bif(y1.2 != 0)then some (([],y1.2))else(bif((decide (x2<0))||(decide (x3<0)))then some (([],1))else(al_ x0.Xz y1.1).bind λ y2=>(bz_ y2.Xl (ck_ x2 (y2.Xl.length:Int)) (y2.Xl.length:Int)).bind λ y3=>(bz_ y3 0 (ck_ x3 (y3.length:Int))).bind λ y4=>some ((y4,0))))
def mF_(x0:Xx)(x1:Int)(x2:Int)(x3:Int):Option (Str×Int):=(tree_Read x0.Xm x1 x2 x3).bind λ y1=>some ((y1.1,y1.2))
def f3_(x0:Xh)(x1:Int)(x2:Int)(x3:Int):Option (Str×Int):=(db_ x0 x1).bind λ y1=>(bif(!y1.2)then some (([],8))else(cw_ y1.1).bind λ y2=>(bif y2 then some (([],10))else(mF_ y1.1.Zj y1.1.Ym x2 x3).bind λ y3=>some ((y3.1,y3.2))))
def dc_(x0:Xx)(x1:Str)(x2:Xq):Option Bool:=(b0_ x0.Xm x2.Xw).bind λ y1=>Option.bind (bif(y1.2&&(x2.Id_ != 1))then(c0_ x0 x1 y1.1 2).bind λ y2=>some y2 else some false) fun(y3:Bool)=>some (y3)
def fd_(x0:List Int)(x1:Int)(s2:Int):Option (Step Int (Out Unit Int)):=(bif(decide (s2<(x0.length:Int)))then(al_ x0 s2).bind λ y2=>(bif(x1==y2)then some (.done (.ret (s2)))else some (.next (w64 (s2+1))))else some (.done (.fall ())))
def gn_(x0:List Int)(x1:Int):Option Int:=(ak_ (fd_ x0 x1) BIG 0).bind λ wo1=>match wo1 with | .ret r1=>some r1 | .fall _=>some ((-1))
def cF_(x0:List Int)(x1:Int):Option Bool:=(gn_ x0 x1).bind λ y1=>some ((decide (y1>=0)))
def eL_(x0:Xx)(x1:Str)(x2:Xq)(x3:Int):Option Int:=(cP_ x3).bind λ y1=>(bif(y1.2 != 0)then some (y1.2)else(aq_ x2.Xv 2147483648).bind λ y2=>(bif(y2&&(x3 != 0))then some (10)else(c0_ x0 x1 x2 y1.1).bind λ y3=>(bif(!y3)then some (11)else Option.bind (bif((bR_ .i64 x3 64) != 0)then(dc_ x0 x1 x2).bind λ y4=>some (!y4)else some false) fun(y5:Bool)=>(bif y5 then some (11)else(aq_ x2.Xv 536870912).bind λ y6=>Option.bind (bif y6 then(cF_ x0.Xs x2.Id_).bind λ y7=>some y7 else some false) fun(y8:Bool)=>(bif y8 then some (24)else some (0))))))
def gg_(x0:Xk)(x1:Int)(x2:Int)(x3:Str)(x4:Int):Option (Xk×Int):=(i1_ x0 x1).bind λ y1=>(bif(y1.2 != 0)then(aE_ x0).bind λ y2=>some ((y2,y1.2))else(bif(decide (x2<0))then(aE_ x0).bind λ y3=>some ((y3,1))else(bif(decide (x2>65536))then(aE_ x0).bind λ y4=>some ((y4,4))else(al_ x0.Xz y1.1).bind λ y5=>(bif(x2==(y5.Xl.length:Int))then(aE_ x0).bind λ y6=>some ((y6,0))else(aE_ x0).bind λ y7=>(al_ y7.Xz y1.1).bind λ y8=>(mD_ y8.Xl x2).bind λ y9=>(al_ y7.Xz y1.1).bind λ y10=>(c1_ (Xk.mk y7.Xt (y7.Xz.set y1.1.toNat (Xq.mk y10.Id_ y10.Xw y10.Xo y10.Xy y10.Xv y10.Yw y10.Yv y10.Yg y10.Xu y10.Xa y9))) y1.1 x3 x4).bind λ y11=>some (((Xk.mk y7.Xt y11.Xz),0))))))
def fw_(x0:Xx)(x1:Str)(x2:Int)(x3:Int)(x4:Int):Option (Xx×Int):=(cb_ x0).bind λ y1=>(cD_ x0 x1 x2).bind λ y2=>(bif(y2.2 != 0)then some ((y1,y2.2))else(eL_ x0 x1 y2.1 x3).bind λ y3=>(bif(y3 != 0)then some ((y1,y3))else Option.bind ( Option.bind (bif((bR_ .i64 x3 16) != 0)then(aq_ y2.1.Xv 1073741824).bind λ y4=>some (!y4)else some false) fun(y5:Bool)=>(bif y5 then(bE_ x4).bind λ y6=>(gg_ y1.Xm x2 0 x1 y6).bind λ y7=>some (y7.1.Xt,y1.Yx,y1.Yj,y7.1.Xz,y1.Xs)else some (y1.Xm.Xt,y1.Yx,y1.Yj,y1.Xm.Xz,y1.Xs)) ) fun(o1:Int×(List Xf)×(List Yz)×(List Xq)×(List Int))=>Option.bind ( (aq_ y2.1.Xv 536870912).bind λ y8=>(bif y8 then(ex_ (Xx.mk o1.2.1 o1.2.2.1 (Xk.mk o1.1 o1.2.2.2.1) o1.2.2.2.2) x2).bind λ y9=>some (y9.Yx,y9.Yj,y9.Xm.Xt,y9.Xm.Xz,y9.Xs)else some (o1.2.1,o1.2.2.1,o1.1,o1.2.2.2.1,o1.2.2.2.2)) ) fun(o2:(List Xf)×(List Yz)×Int×(List Xq)×(List Int))=>some (((Xx.mk o2.1 o2.2.1 (Xk.mk o2.2.2.1 o2.2.2.2.1) o2.2.2.2.2),0))))
def d1_(x0:Xh)(x1:Str)(x2:Int)(x3:Int)(x4:Int):Option (Xh×Int):=(bX_ x0 x1 x2).bind λ y1=>(bif(y1.2 != 0)then(ar_ x0).bind λ y2=>some ((y2,y1.2))else(bif(y1.1.Zk==1)then(fw_ x0.Xb x1 y1.1.Ym x3 x4).bind λ y3=>(bif(y3.2 != 0)then(ar_ x0).bind λ y4=>some ((y4,y3.2))else(cc_ x0 y3.1).bind λ y5=>some ((y5,0)))else(cP_ x3).bind λ y6=>(bif(y6.2 != 0)then(ar_ x0).bind λ y7=>some ((y7,y6.2))else(cw_ y1.1).bind λ y8=>(bif(y8&&(x3 != 0))then(ar_ x0).bind λ y9=>some ((y9,10))else(bif(y1.1.Zk==0)then(ar_ x0).bind λ y10=>some ((y10,0))else(bif(((bR_ .i64 y6.1 2) != 0)||(decide (x3>=64)))then(ar_ x0).bind λ y11=>some ((y11,33))else(b0_ y1.1.Zj.Xm y1.1.Ym).bind λ y12=>(fc_ x0.Xb.Yx x1 y12.1.Yw y12.1.Yv y12.1.Xv y6.1).bind λ y13=>(bif(!y13)then(ar_ x0).bind λ y14=>some ((y14,11))else(ar_ x0).bind λ y15=>some ((y15,0)))))))))
def law17_awake:Option Bool:=Option.bind (kH_ [(Xf.mk [97,100,109] [] [])] [] [97,100,109] 1) fun(y1:Xx×Int)=>(bif(y1.2 != 0)then some (false)else(jn_ y1.1 100).bind λ y2=>(c8_ y2 [97,100,109] 1048577 [102] 420 1 2).bind λ y3=>(bif((y3.2.2 != 0)||(y3.2.1 != 1048578))then some (false)else(cQ_ y3.1 [97,100,109] y3.2.1 0 [111,108,100] 3).bind λ y4=>(bif(y4.2.2 != 0)then some (false)else(d0_ y4.1 5).bind λ y5=>(bif(y5.2 != 0)then some (false)else(cQ_ y5.1 [97,100,109] y3.2.1 0 [110,101,119] 6).bind λ y6=>(il_ y6.1 [97,100,109] 2 [53]).bind λ y7=>(f3_ y6.1 2097154 0 10).bind λ y8=>(f3_ y6.1 y3.2.1 0 10).bind λ y9=>(d1_ y6.1 [97,100,109] 2097154 1 7).bind λ y10=>some (((((((((y6.2.2==0)&&(y7.1==2097153))&&(y7.2==0))&&(y8.1==[111,108,100]))&&(y8.2==0))&&(y9.1==[110,101,119]))&&(y9.2==0))&&(y10.2==33)))))))
def fx_(x0:Xh)(x1:Int)(s2:Int):Option (Step Int (Out Unit (Yd×Bool))):=(bif(decide (s2>=0))then(al_ x0.Xc s2).bind λ y3=>(bif(decide (y3.Yb<=x1))then(al_ x0.Xc s2).bind λ y4=>some (.done (.ret ((y4,true))))else some (.next (w64 (s2-1))))else some (.done (.fall ())))
def kL_(x0:Xh)(x1:Int):Option (Yd×Bool):=(ak_ (fx_ x0 x1) BIG (w64 ((x0.Xc.length:Int)-1))).bind λ wo1=>match wo1 with | .ret r1=>some r1 | .fall _=>some (((Yd.mk 0 []),false))
def f4_(x0:Xh)(x1:Int):Option (Xk×Int):=(kL_ x0 x1).bind λ y1=>(bif(!y1.2)then some (((Xk.mk 0 []),8))else(bK_ x0.Yf y1.1.Yq).bind λ y2=>some ((y2.1,y2.2)))
def hJ_(x0:Xk)(x1:Xk)(s2:Int):Option (Step Int (Out Unit Bool)):=(bif(decide (s2<(x0.Xz.length:Int)))then(al_ x0.Xz s2).bind λ y3=>(al_ x1.Xz s2).bind λ y4=>(bif(!(decide (y3=y4)))then some (.done (.ret (false)))else some (.next (w64 (s2+1))))else some (.done (.fall ())))
def hm_(x0:Xk)(x1:Xk):Option Bool:=(bif((x0.Xt != x1.Xt)||((x0.Xz.length:Int) != (x1.Xz.length:Int)))then some (false)else(ak_ (hJ_ x0 x1) BIG 0).bind λ wo1=>match wo1 with | .ret r1=>some r1 | .fall _=>some (true))
def gT_(x0:Int)(x1:Int):Option Bool:=Option.bind (bif(decide (x0>=0))then(quoI .i64 x0 x1).bind λ y1=>some ((y1.tmod 2)==1)else some false) fun(y2:Bool)=>some (y2)
def o8_(x0:List Xf)(x1:Str):Option (Xf×Bool):=(iB_ x0 x1).bind λ y1=>(bif(decide (y1<0))then some (((Xf.mk [] [] []),false))else(al_ x0 y1).bind λ y2=>some ((y2,true)))
def jr_(y1:Xf×Bool)(x1:Str)(s2:Int):Option (Step Int (Out Unit Bool)):=(bif(decide (s2<(y1.1.Yp.length:Int)))then(al_ y1.1.Yp s2).bind λ y3=>(bif(y3==x1)then some (.done (.ret (true)))else some (.next (w64 (s2+1))))else some (.done (.fall ())))
def mG_(x0:List Xf)(x1:Str)(x2:Str):Option Bool:=(bif(x1==x2)then some (true)else(o8_ x0 x2).bind λ y1=>(ak_ (jr_ y1 x1) BIG 0).bind λ wo1=>match wo1 with | .ret r1=>some r1 | .fall _=>some (false))
def js_(x4:Int)(x0:List Xf)(x1:Str)(x3:Str)(x2:Str)(x5:Int)(s2:Int):Option (Step Int (Out Unit Bool)):=(bif(decide (s2<=4))then(gT_ x4 s2).bind λ y9=>Option.bind (bif y9 then some true else(gT_ x4 (w64 (8*s2))).bind λ y10=>Option.bind (bif y10 then(mG_ x0 x1 x3).bind λ y11=>some y11 else some false) fun(y12:Bool)=>some y12 ) fun(y13:Bool)=>Option.bind (bif y13 then some true else(gT_ x4 (w64 (64*s2))).bind λ y14=>some (y14&&(x1==x2)) ) fun(y15:Bool)=>(quoI .i64 x5 s2).bind λ y16=>(bif(((y16.tmod 2)==1)&&(!y15))then some (.done (.ret (false)))else some (.next (w64 (2*s2))))else some (.done (.fall ())))
def mH_(x0:List Xf)(x1:Str)(x2:Str)(x3:Str)(x4:Int)(x5:Int):Option Bool:=(bif(((decide (x4<0))||(decide (x5<0)))||(decide (x5>7)))then some (false)else(ak_ (js_ x4 x0 x1 x3 x2 x5) BIG 1).bind λ wo1=>match wo1 with | .ret r1=>some r1 | .fall _=>some (true))
def nl_(x0:Xx)(x1:Str)(x2:Int)(x3:Int):Option Bool:=(ha_ x0.Xm x2).bind λ y1=>Option.bind (bif y1.2 then(mH_ x0.Yx x1 y1.1.Yw y1.1.Yv y1.1.Xv x3).bind λ y2=>some y2 else some false) fun(y3:Bool)=>some (y3)
def im_(x0:Xk)(x1:Int)(x2:Str)(s2:Int):Option (Step Int (Out Unit (Int×Int))):=(bif(decide (s2<(x0.Xz.length:Int)))then(al_ x0.Xz s2).bind λ y7=>Option.bind (bif(y7.Xw==x1)then(al_ x0.Xz s2).bind λ y8=>some (y8.Xy==x2)else some false) fun(y9:Bool)=>(bif y9 then(al_ x0.Xz s2).bind λ y10=>some (.done (.ret ((y10.Id_,0))))else some (.next (w64 (s2+1))))else some (.done (.fall ())))
def o9_(x0:Xk)(x1:Int)(x2:Str):Option (Int×Int):=(ha_ x0 x1).bind λ y1=>(bif(!y1.2)then some ((0,8))else(ce_ y1.1.Xv).bind λ y2=>(bif(!y2)then some ((0,9))else(bif(x2==[46,46])then some ((y1.1.Xw,0))else(ak_ (im_ x0 x1 x2) BIG 1).bind λ wo1=>match wo1 with | .ret r1=>some r1 | .fall _=>some ((0,8)))))
def rG_(x0:Zy):Option Bool:=some ((((decide ((x0.Xl.length:Int)<=3000))&&(decide ((x0.Xy.length:Int)<=200)))&&(decide ((x0.Ys.length:Int)<=200))))
def er_(x0:Xx)(x1:Int):Option Xx:=Option.bind ( (bF_ x0.Xs x1).bind λ y1=>(bif y1.2 then(bS_ x0.Xs).bind λ y2=>((delN (α:=Int)) y2 y1.1 (w64 (y1.1+1))).bind λ y3=>some (x0.Yx,x0.Yj,x0.Xm.Xt,x0.Xm.Xz,y3)else some (x0.Yx,x0.Yj,x0.Xm.Xt,x0.Xm.Xz,x0.Xs)) ) fun(o1:(List Xf)×(List Yz)×Int×(List Xq)×(List Int))=>some ((Xx.mk o1.1 o1.2.1 (Xk.mk o1.2.2.1 o1.2.2.2.1) o1.2.2.2.2))
def kM_(x0:Xk)(x1:Int)(x2:Str)(x3:Int):Option (Xk×Int):=(c7_ x0 x1).bind λ y1=>(bif(decide (y1<0))then(aE_ x0).bind λ y2=>some ((y2,8))else(bif(x1==1)then(aE_ x0).bind λ y3=>some ((y3,1))else(eK_ x0 x1).bind λ y4=>(bif(decide ((y4.length:Int)>0))then(aE_ x0).bind λ y5=>some ((y5,23))else(aE_ x0).bind λ y6=>(al_ x0.Xz y1).bind λ y7=>(c7_ y6 y7.Xw).bind λ y8=>(c1_ y6 y8 x2 x3).bind λ y9=>(bz_ y9.Xz 0 y1).bind λ _=>(bz_ y9.Xz (w64 (y1+1)) (y9.Xz.length:Int)).bind λ _=>(bz_ y9.Xz 0 y1).bind λ y12=>(room 128 y12 (y9.Xz.drop (w64 (y1+1)).toNat)).bind λ y13=>some (((Xk.mk y6.Xt y13),0)))))
def fy_(x0:Xx)(x1:Str)(x2:Int)(x3:Int):Option (Xx×Int):=(cb_ x0).bind λ y1=>(cD_ x0 x1 x2).bind λ y2=>(bif(y2.2 != 0)then some ((y1,y2.2))else(dc_ x0 x1 y2.1).bind λ y3=>(bif(!y3)then some ((y1,11))else(bE_ x3).bind λ y4=>(kM_ y1.Xm x2 x1 y4).bind λ y5=>(bif(y5.2 != 0)then some ((y1,y5.2))else(er_ (Xx.mk y1.Yx y1.Yj y5.1 y1.Xs) x2).bind λ y6=>some ((y6,0)))))
def in_(x0:Xx)(x1:Str)(x2:Int)(x3:Int)(x4:Int):Option Xx:=(cb_ x0).bind λ y1=>(er_ y1 x2).bind λ y2=>Option.bind ( (aq_ x3 64).bind λ y3=>(bif y3 then(fy_ y2 x1 x2 x4).bind λ y4=>(bif(y4.2==0)then some (.ret (y4.1))else some (.fall ()))else some (.fall ())) ) fun(wo1:Out Unit Xx)=>match wo1 with | .ret r1=>some r1 | .fall _=>some (y2)
def hn_(x0:Xh)(x1:Str)(x2:Int)(x3:Int)(x4:Int):Option Xh:=(db_ x0 x2).bind λ y1=>(bif((!y1.2)||(y1.1.Zk != 1))then(ar_ x0).bind λ y2=>some (y2)else(in_ x0.Xb x1 y1.1.Ym x3 x4).bind λ y3=>(cc_ x0 y3).bind λ y4=>some (y4))
def gx_(x0:Xh)(x1:Str)(x2:Int)(x3:Int):Option (Xh×Int):=(bX_ x0 x1 x2).bind λ y1=>Option.bind ( (bif((y1.2==0)&&(y1.1.Zk != 1))then some 33 else some y1.2) ) fun(o1:Int)=>(bif(o1 != 0)then(ar_ x0).bind λ y2=>some ((y2,o1))else(fy_ x0.Xb x1 y1.1.Ym x3).bind λ y3=>(bif(y3.2 != 0)then(ar_ x0).bind λ y4=>some ((y4,y3.2))else(cc_ x0 y3.1).bind λ y5=>some ((y5,0))))
def mI_(x0:Yl):Option (List Yr):=some ([(Yr.mk x0.Yo 2 65534),(Yr.mk x0.Zp 4 4294967294),(Yr.mk x0.Zx.Yo 1 232),(Yr.mk x0.Zx.Xo 4 2147483647),(Yr.mk x0.Zx.Zw 8 1099511627776),(Yr.mk x0.Xv 4 3892314623),(Yr.mk x0.Xu 8 1099511627776),(Yr.mk x0.Xa 8 1099511627776),(Yr.mk x0.Xi 8 9007199254740991)])
def h4_(x0:Int)(x1:Int):Option Bool:=some (((x0==(-1))||((decide (x0>=0))&&((cu_ .i64 x0 x1)==0))))
def eM_(y1:(List Yr))(s2:Int×(List Yr)):Option (Step (Int×(List Yr)) (Out Unit Int)):=(bif(decide (s2.1<(y1.length:Int)))then(al_ s2.2 s2.1).bind λ y3=>(bif((decide (y3.n_<(-1)))||(decide (y3.n_>y3.Zn)))then some (.done (.ret (5)))else some (.next ((w64 (s2.1+1)),s2.2)))else some (.done (.fall ())))
def lY_(x0:Yl):Option Int:=(mI_ x0).bind λ y1=>(ak_ (eM_ y1) BIG (0,y1)).bind λ wo1=>match wo1 with | .ret r1=>some r1 | .fall _=>(h4_ x0.Zx.Yo 232).bind λ y4=>Option.bind (bif(!y4)then some true else(h4_ x0.Xv 3892314623).bind λ y5=>some (!y5) ) fun(y6:Bool)=>(bif y6 then some (5)else Option.bind (bif((!(x0.Xy==[]))&&(!(x0.Xy==[47])))then(cI_ x0.Xy).bind λ y7=>some (!y7)else some false) fun(y8:Bool)=>(bif(y8||(decide ((cv_ (cv_ (x0.Yw.length:Int) (x0.Yv.length:Int)) (x0.Yg.length:Int))>64)))then some (6)else some (0)))
def stat_None:Option Yl:=some ((Yl.mk (-1) (-1) (Zb.mk (-1) (-1) (-1)) (-1) (-1) (-1) (-1) [] [] [] []))
def gy_(x0:Xx)(x1:Str)(x2:Xq)(x3:Str):Option Int:=(bif((x3==[])||(x3==x2.Xy))then some (0)else(bif(x2.Id_==1)then some (11)else(cI_ x3).bind λ y1=>(bif(!y1)then some (6)else(dc_ x0 x1 x2).bind λ y2=>(bif(!y2)then some (11)else(fI_ x0.Xm x2.Xw x3).bind λ y3=>(bif(y3.2==0)then some (7)else some (0))))))
def fz_(x0:Xq):Option Int:=(aq_ x0.Xv 2147483648).bind λ y1=>(bif y1 then some (0)else some ((x0.Xl.length:Int)))
def gz_(x0:Xx)(x1:Str)(x2:Xq)(x3:Int):Option Int:=Option.bind (bif(x3==(-1))then some true else(fz_ x2).bind λ y1=>some (x3==y1) ) fun(y2:Bool)=>(bif y2 then some (0)else(aq_ x2.Xv 2147483648).bind λ y3=>(bif y3 then some (10)else(c0_ x0 x1 x2 2).bind λ y4=>(bif(!y4)then some (11)else(bif(decide (x3>65536))then some (4)else(eI_ x0 x2 x3).bind λ y5=>(bif(!y5)then some (21)else some (0))))))
def ho_(x0:List Xf)(x1:Str)(x2:Str):Option Bool:=(i0_ x0 x2).bind λ y1=>(bif(y1.2&&(!(y1.1.Yt==[])))then some ((y1.1.Yt==x1))else(eh_ x0 x1 x2).bind λ y2=>some (y2))
def fS_(x0:Xx)(x1:Str)(x2:Xq)(x3:Str):Option Int:=Option.bind (bif((x3==[])||(x3==x2.Yv))then some true else Option.bind (bif(x1==x2.Yw)then(eh_ x0.Yx x1 x3).bind λ y1=>some y1 else some false) fun(y2:Bool)=>some y2 ) fun(y3:Bool)=>(bif y3 then some (0)else(ho_ x0.Yx x1 x2.Yv).bind λ y4=>Option.bind (bif y4 then(ho_ x0.Yx x1 x3).bind λ y5=>some y5 else some false) fun(y6:Bool)=>(bif y6 then some (0)else some (26)))
def gA_(x0:Xx)(x1:Str)(x2:Xq)(x3:Yl):Option Int:=(lY_ x3).bind λ y1=>(bif(y1 != 0)then some (y1)else(stat_None).bind λ y2=>(bif((((((x3.Yo != y2.Yo)||(x3.Zp != y2.Zp))||(!(decide (x3.Zx=y2.Zx))))||(x3.Xu != y2.Xu))||(!(x3.Yw==[])))||(!(x3.Yg==[])))then some (27)else(gy_ x0 x1 x2 x3.Xy).bind λ y3=>(bif(y3 != 0)then some (y3)else(gz_ x0 x1 x2 x3.Xi).bind λ y4=>(bif(y4 != 0)then some (y4)else Option.bind (bif(x1==x2.Yw)then some true else(ho_ x0.Yx x1 x2.Yv).bind λ y5=>some y5 ) fun(y6:Bool)=>Option.bind ( (bif(x3.Xv != (-1))then(bif(!y6)then some (.ret (11))else(aq_ x3.Xv 2147483648).bind λ y7=>(aq_ x2.Xv 2147483648).bind λ y8=>(bif(!(y7==y8))then some (.ret (27))else(c9_ x3.Xv).bind λ y9=>(bif(!y9)then some (.ret (1))else some (.fall ()))))else some (.fall ())) ) fun(wo1:Out Unit Int)=>match wo1 with | .ret r1=>some r1 | .fall _=>(bif((x3.Xa != (-1))&&(!y6))then some (11)else(fS_ x0 x1 x2 x3.Yv).bind λ y10=>some (y10))))))
def kN_(x0:Xk)(x1:Int)(x2:Str)(x3:Str)(x4:Int):Option (Xk×Int):=(c7_ x0 x1).bind λ y1=>(bif(decide (y1<0))then(aE_ x0).bind λ y2=>some ((y2,8))else(bif(x1==1)then(aE_ x0).bind λ y3=>some ((y3,1))else(cI_ x2).bind λ y4=>(bif(!y4)then(aE_ x0).bind λ y5=>some ((y5,6))else(al_ x0.Xz y1).bind λ y6=>(bif(x2==y6.Xy)then(aE_ x0).bind λ y7=>some ((y7,0))else(al_ x0.Xz y1).bind λ y8=>(hh_ x0 y8.Xw x2).bind λ y9=>(bif(decide (y9>=0))then(aE_ x0).bind λ y10=>some ((y10,7))else(aE_ x0).bind λ y11=>(al_ y11.Xz y1).bind λ y12=>(al_ (y11.Xz.set y1.toNat (Xq.mk y12.Id_ y12.Xw y12.Xo x2 y12.Xv y12.Yw y12.Yv y12.Yg y12.Xu y12.Xa y12.Xl)) y1).bind λ y13=>(c7_ (Xk.mk y11.Xt (y11.Xz.set y1.toNat (Xq.mk y12.Id_ y12.Xw y12.Xo x2 y12.Xv y12.Yw y12.Yv y12.Yg y12.Xu y12.Xa y12.Xl))) y13.Xw).bind λ y14=>(c1_ (Xk.mk y11.Xt (y11.Xz.set y1.toNat (Xq.mk y12.Id_ y12.Xw y12.Xo x2 y12.Xv y12.Yw y12.Yv y12.Yg y12.Xu y12.Xa y12.Xl))) y14 x3 x4).bind λ y15=>some (((Xk.mk y11.Xt y15.Xz),0)))))))
def lZ_(x0:Xk)(x1:Int)(x2:Int)(x3:Str)(x4:Int):Option (Xk×Int):=(c7_ x0 x1).bind λ y1=>(bif(decide (y1<0))then(aE_ x0).bind λ y2=>some ((y2,8))else Option.bind (bif(x2 != (-1))then(hk_ x2).bind λ y3=>Option.bind (bif(!y3)then some true else(bu_ x2).bind λ y4=>(al_ x0.Xz y1).bind λ y5=>(bu_ y5.Xv).bind λ y6=>some (!(y4==y6)) ) fun(y7:Bool)=>some y7 else some false) fun(y8:Bool)=>(bif y8 then(aE_ x0).bind λ y9=>some ((y9,1))else Option.bind (bif(x4 != (-1))then(fQ_ x4).bind λ y10=>some (x4 != y10)else some false) fun(y11:Bool)=>(bif y11 then(aE_ x0).bind λ y12=>some ((y12,5))else(aE_ x0).bind λ y13=>(al_ y13.Xz y1).bind λ y14=>Option.bind ( (bif(x2 != (-1))then some (y13.Xz.set y1.toNat (Xq.mk y14.Id_ y14.Xw y14.Xo y14.Xy x2 y14.Yw y14.Yv y14.Yg y14.Xu y14.Xa y14.Xl))else some y13.Xz) ) fun(o1:(List Xq))=>(al_ o1 y1).bind λ y15=>Option.bind ( (ea_ x3).bind λ y16=>(bif(!(y16==[]))then some (o1.set y1.toNat (Xq.mk y15.Id_ y15.Xw y15.Xo y15.Xy y15.Xv y15.Yw y16 y15.Yg y15.Xu y15.Xa y15.Xl))else some o1) ) fun(o2:(List Xq))=>(al_ o2 y1).bind λ y17=>Option.bind ( (bif(x4 != (-1))then some (o2.set y1.toNat (Xq.mk y17.Id_ y17.Xw y17.Xo y17.Xy y17.Xv y17.Yw y17.Yv y17.Yg y17.Xu x4 y17.Xl))else some o2) ) fun(o3:(List Xq))=>some (((Xk.mk y13.Xt o3),0)))))
def io_(x0:Xx)(x1:Str)(x2:Int)(x3:Yl)(x4:Int):Option (Xx×Int):=(cb_ x0).bind λ y1=>(cD_ x0 x1 x2).bind λ y2=>Option.bind ( (bif(y2.2==0)then(gA_ x0 x1 y2.1 x3).bind λ y3=>some y3 else some y2.2) ) fun(o1:Int)=>(bif(o1 != 0)then some ((y1,o1))else Option.bind ( (bif((!(x3.Xy==[]))&&(!(x3.Xy==y2.1.Xy)))then(bE_ x4).bind λ y4=>(kN_ y1.Xm x2 x3.Xy x1 y4).bind λ y5=>some (y5.1.Xt,y1.Yx,y1.Yj,y5.1.Xz,y1.Xs)else some (y1.Xm.Xt,y1.Yx,y1.Yj,y1.Xm.Xz,y1.Xs)) ) fun(o2:Int×(List Xf)×(List Yz)×(List Xq)×(List Int))=>Option.bind ( Option.bind (bif(x3.Xi != (-1))then(fz_ y2.1).bind λ y6=>some (x3.Xi != y6)else some false) fun(y7:Bool)=>(bif y7 then(bE_ x4).bind λ y8=>(gg_ (Xk.mk o2.1 o2.2.2.2.1) x2 x3.Xi x1 y8).bind λ y9=>some (y9.1.Xt,o2.2.1,o2.2.2.1,y9.1.Xz,o2.2.2.2.2)else some (o2.1,o2.2.1,o2.2.2.1,o2.2.2.2.1,o2.2.2.2.2)) ) fun(o3:Int×(List Xf)×(List Yz)×(List Xq)×(List Int))=>Option.bind ( (bif(x3.Yv==y2.1.Yv)then some []else some x3.Yv) ) fun(o4:Str)=>Option.bind ( (bif(((x3.Xv != (-1))||(x3.Xa != (-1)))||(!(o4==[])))then(lZ_ (Xk.mk o3.1 o3.2.2.2.1) x2 x3.Xv o4 x3.Xa).bind λ y10=>some (y10.1.Xt,o3.2.1,o3.2.2.1,y10.1.Xz,o3.2.2.2.2)else some (o3.1,o3.2.1,o3.2.2.1,o3.2.2.2.1,o3.2.2.2.2)) ) fun(o5:Int×(List Xf)×(List Yz)×(List Xq)×(List Int))=>Option.bind ( Option.bind (bif(x3.Xv != (-1))then(aq_ x3.Xv 536870912).bind λ y11=>some (!y11)else some false) fun(y12:Bool)=>(bif y12 then(er_ (Xx.mk o5.2.1 o5.2.2.1 (Xk.mk o5.1 o5.2.2.2.1) o5.2.2.2.2) x2).bind λ y13=>some (y13.Yx,y13.Yj,y13.Xm.Xt,y13.Xm.Xz,y13.Xs)else some (o5.2.1,o5.2.2.1,o5.1,o5.2.2.2.1,o5.2.2.2.2)) ) fun(o6:(List Xf)×(List Yz)×Int×(List Xq)×(List Int))=>some (((Xx.mk o6.1 o6.2.1 (Xk.mk o6.2.2.1 o6.2.2.2.1) o6.2.2.2.2),0)))
def hp_(x0:Xh)(x1:Str)(x2:Int)(x3:Yl)(x4:Int):Option (Xh×Int):=(bX_ x0 x1 x2).bind λ y1=>Option.bind ( (bif((y1.2==0)&&(y1.1.Zk != 1))then some 33 else some y1.2) ) fun(o1:Int)=>(bif(o1 != 0)then(ar_ x0).bind λ y2=>some ((y2,o1))else(io_ x0.Xb x1 y1.1.Ym x3 x4).bind λ y3=>(bif(y3.2 != 0)then(ar_ x0).bind λ y4=>some ((y4,y3.2))else(cc_ x0 y3.1).bind λ y5=>some ((y5,0))))
def nm_(x0:Xh)(x1:Zy):Option (Xh×Int×Int):=Option.bind ( (bif(x1.Yu==1)then(d1_ x0 x1.Ys x1.Id_ x1.Xv x1.Zf).bind λ y1=>some (0,y1.2,y1.1.Xb.Yx,y1.1.Xb.Yj,y1.1.Xb.Xm.Xt,y1.1.Xb.Xm.Xz,y1.1.Xb.Xs,y1.1.Yf.Ya,y1.1.Yf.Xd,y1.1.Xc)else(bif(x1.Yu==2)then(c8_ x0 x1.Ys x1.Id_ x1.Xy x1.Zi x1.Xv x1.Zf).bind λ y2=>some (y2.2.1,y2.2.2,y2.1.Xb.Yx,y2.1.Xb.Yj,y2.1.Xb.Xm.Xt,y2.1.Xb.Xm.Xz,y2.1.Xb.Xs,y2.1.Yf.Ya,y2.1.Yf.Xd,y2.1.Xc)else(bif(x1.Yu==3)then(cQ_ x0 x1.Ys x1.Id_ x1.Ze x1.Xl x1.Zf).bind λ y3=>some (y3.2.1,y3.2.2,y3.1.Xb.Yx,y3.1.Xb.Yj,y3.1.Xb.Xm.Xt,y3.1.Xb.Xm.Xz,y3.1.Xb.Xs,y3.1.Yf.Ya,y3.1.Yf.Xd,y3.1.Xc)else(bif(x1.Yu==4)then(hn_ x0 x1.Ys x1.Id_ x1.Xv x1.Zf).bind λ y4=>some (0,0,y4.Xb.Yx,y4.Xb.Yj,y4.Xb.Xm.Xt,y4.Xb.Xm.Xz,y4.Xb.Xs,y4.Yf.Ya,y4.Yf.Xd,y4.Xc)else(bif(x1.Yu==5)then(gx_ x0 x1.Ys x1.Id_ x1.Zf).bind λ y5=>some (0,y5.2,y5.1.Xb.Yx,y5.1.Xb.Yj,y5.1.Xb.Xm.Xt,y5.1.Xb.Xm.Xz,y5.1.Xb.Xs,y5.1.Yf.Ya,y5.1.Yf.Xd,y5.1.Xc)else(bif(x1.Yu==6)then(hp_ x0 x1.Ys x1.Id_ x1.Zm x1.Zf).bind λ y6=>some (0,y6.2,y6.1.Xb.Yx,y6.1.Xb.Yj,y6.1.Xb.Xm.Xt,y6.1.Xb.Xm.Xz,y6.1.Xb.Xs,y6.1.Yf.Ya,y6.1.Yf.Xd,y6.1.Xc)else(bif(x1.Yu==7)then(d0_ x0 x1.Zf).bind λ y7=>some (0,y7.2,y7.1.Xb.Yx,y7.1.Xb.Yj,y7.1.Xb.Xm.Xt,y7.1.Xb.Xm.Xz,y7.1.Xb.Xs,y7.1.Yf.Ya,y7.1.Yf.Xd,y7.1.Xc)else some (0,0,x0.Xb.Yx,x0.Xb.Yj,x0.Xb.Xm.Xt,x0.Xb.Xm.Xz,x0.Xb.Xs,x0.Yf.Ya,x0.Yf.Xd,x0.Xc)))))))) ) fun(o1:Int×Int×(List Xf)×(List Yz)×Int×(List Xq)×(List Int)×Int×(List Yk)×(List Yd))=>some (((Xh.mk (Xx.mk o1.2.2.1 o1.2.2.2.1 (Xk.mk o1.2.2.2.2.1 o1.2.2.2.2.2.1) o1.2.2.2.2.2.2.1) (Xj.mk o1.2.2.2.2.2.2.2.1 o1.2.2.2.2.2.2.2.2.1) o1.2.2.2.2.2.2.2.2.2),o1.1,o1.2.1))
def dE_(x0:Xh)(y7:Xh×Int×Int)(s2:Int):Option (Step Int (Out Unit Bool)):=(bif(decide (s2<(x0.Xc.length:Int)))then(al_ x0.Xc s2).bind λ y14=>(f4_ x0 y14.Yb).bind λ y15=>(al_ x0.Xc s2).bind λ y16=>(f4_ y7.1 y16.Yb).bind λ y17=>Option.bind (bif((y15.2 != 0)||(y17.2 != 0))then some true else(hm_ y15.1 y17.1).bind λ y18=>some (!y18) ) fun(y19:Bool)=>(bif y19 then some (.done (.ret (false)))else some (.next (w64 (s2+1))))else some (.done (.fall ())))
def eB_(x0:Xh)(x1:Zy):Option Bool:=(hX_ x0).bind λ y1=>Option.bind (bif(!y1)then some true else(rG_ x1).bind λ y2=>some (!y2) ) fun(y3:Bool)=>Option.bind (bif y3 then some true else(h2_ x0).bind λ y4=>some (!y4) ) fun(y5:Bool)=>(bif y5 then(law17_awake).bind λ y6=>some (y6)else(nm_ x0 x1).bind λ y7=>(bif(decide ((y7.1.Xc.length:Int)<(x0.Xc.length:Int)))then some (false)else(ak_ (dE_ x0 y7) BIG 0).bind λ wo1=>match wo1 with | .ret r1=>some r1 | .fall _=>(law17_awake).bind λ y20=>some (y20)))
def wf_(x0:Int)(s2:Int):Option (Step Int (Out Unit (Int×Bool×Bool))):=(bif(decide (s2<=3))then(bif(((w64 (x0-s2))==0)||((w64 (x0-s2))==64))then some (.done (.ret ((s2,false,true))))else(bif(((w64 (x0-s2))==16)||((w64 (x0-s2))==80))then some (.done (.ret ((s2,true,true))))else some (.next (w64 (s2+1)))))else some (.done (.fall ())))
def ref06_Base(x0:Int):Option (Int×Bool×Bool):=(ak_ (wf_ x0) BIG 0).bind λ wo1=>match wo1 with | .ret r1=>some r1 | .fall _=>some ((0,false,false))
def ref06_Open(x0:Int):Option (Int×Int):=(ref06_Base (x0.tmod 1000)).bind λ y1=>(bif((!y1.2.2)||(x0 != (x0.tmod 1000)))then some ((0,12))else Option.bind ( (bif(y1.1==1)then some 2 else some 4) ) fun(o1:Int)=>Option.bind ( (bif(y1.1==2)then some 6 else some o1) ) fun(o2:Int)=>Option.bind ( (bif(y1.1==3)then some 1 else some o2) ) fun(o3:Int)=>Option.bind ( (bif(y1.2.1&&(((IntKind.i64.wrap (o3.tdiv 2)).tmod 2)==0))then some (w64 (o3+2))else some o3) ) fun(o4:Int)=>some ((o4,0)))
def ln_(x0:List Yz)(x1:Str)(s2:Int):Option (Step Int (Out Unit (Yz×Bool))):=(bif(decide (s2<(x0.length:Int)))then(al_ x0 s2).bind λ y3=>(bif(y3.Ys==x1)then(al_ x0 s2).bind λ y4=>some (.done (.ret ((y4,true))))else some (.next (w64 (s2+1))))else some (.done (.fall ())))
def ts_(x0:List Yz)(x1:Str):Option (Yz×Bool):=(ak_ (ln_ x0 x1) BIG 0).bind λ wo1=>match wo1 with | .ret r1=>some r1 | .fall _=>some (((Yz.mk [] 0 0),false))
def lp_(x0:Xk)(x1:Str)(s2:Int×Int×Int):Option (Step (Int×Int×Int) (Int×Int)):=(bif(decide (s2.2.2<(x0.Xz.length:Int)))then Option.bind ( (al_ x0.Xz s2.2.2).bind λ y3=>(bif(y3.Yw==x1)then(al_ x0.Xz s2.2.2).bind λ y4=>some ((w64 (s2.1+1)),(w64 (s2.2.1+(y4.Xl.length:Int))))else some (s2.1,s2.2.1)) ) fun(o2:Int×Int)=>some (.next (o2.1,o2.2,(w64 (s2.2.2+1))))else some (.done (s2.1,s2.2.1)))
def pa_(x0:Xk)(x1:Str):Option (Int×Int):=(ak_ (lp_ x0 x1) BIG (0,0,0)).bind λ o3=>some ((o3.1,o3.2))
def pb_(x0:List Yz)(x1:Xk)(x2:Str)(x3:Int)(x4:Int):Option Bool:=(ts_ x0 x2).bind λ y1=>(bif(!y1.2)then some (true)else(pa_ x1 x2).bind λ y2=>some ((((decide (x3<=0))||(decide (x3<=(w64 (y1.1.Xb-y2.1)))))&&((decide (x4<=0))||(decide (x4<=(w64 (y1.1.Zq-y2.2))))))))
def fT_(x1:Int)(x0:Int)(s2:Int×Int):Option (Step (Int×Int) Int):=(bif(decide (s2.2<=256))then Option.bind ( (gT_ x1 s2.2).bind λ y6=>Option.bind (bif y6 then(gT_ x0 s2.2).bind λ y7=>some (!y7)else some false) fun(y8:Bool)=>Option.bind (bif y8 then(gT_ x1 2147483648).bind λ y9=>some (y9||(!(((s2.2==1)||(s2.2==8))||(s2.2==64))))else some false) fun(y10:Bool)=>(bif y10 then some (w64 (s2.1-s2.2))else some s2.1) ) fun(o2:Int)=>some (.next (o2,(w64 (2*s2.2))))else some (.done s2.1))
def f5_(x0:Int)(x1:Int):Option Int:=(bif((decide (x0<0))||(decide (x1<0)))then some (0)else(ak_ (fT_ x1 x0) BIG (x1,1)).bind λ o3=>some (o3))
def nK_(x0:Xx)(x1:Xq)(x2:Int):Option Bool:=Option.bind (bif(decide (x2<=(x1.Xl.length:Int)))then some true else(pb_ x0.Yj x0.Xm x1.Yw 0 (w64 (x2-(x1.Xl.length:Int)))).bind λ y1=>some y1 ) fun(y2:Bool)=>some (y2)
def pC_(x0:Xx)(x1:Str)(x2:Xq)(x3:Str):Option Int:=(bif((x3==[])||(x3==x2.Xy))then some (0)else(o9_ x0.Xm x2.Xw x3).bind λ y1=>(bif(x2.Id_==1)then some (11)else(hZ_ x3).bind λ y2=>(bif(!y2)then some (6)else(nl_ x0 x1 x2.Xw 2).bind λ y3=>(bif(!y3)then some (11)else(bif(y1.2==0)then some (7)else some (0))))))
def pD_(x0:Xx)(x1:Str)(x2:Xq)(x3:Int):Option Int:=(bif((x3==(-1))||(x3==(x2.Xl.length:Int)))then some (0)else(eW_ x2.Xv 2147483648).bind λ y1=>(bif y1 then some (10)else(nl_ x0 x1 x2.Id_ 2).bind λ y2=>(bif(!y2)then some (11)else(bif(decide (x3>65536))then some (4)else(nK_ x0 x2 x3).bind λ y3=>(bif(!y3)then some (21)else some (0))))))
def du_(x0:Xx)(s2:Int×Int):Option (Step (Int×Int) (Out Unit Bool)):=(bif(decide (s2.2<(x0.Xs.length:Int)))then(al_ x0.Xs s2.2).bind λ y10=>(b0_ x0.Xm y10).bind λ y11=>Option.bind (bif(!y11.2)then some true else(aq_ y11.1.Xv 536870912).bind λ y12=>some (!y12) ) fun(y13:Bool)=>(bif(y13||(decide (y10<=s2.1)))then some (.done (.ret (false)))else some (.next (y10,(w64 (s2.2+1)))))else some (.done (.fall ())))
def pE_(x0:Xx):Option Bool:=(hg_ x0.Yx).bind λ y1=>Option.bind (bif(y1 != 0)then some true else(gd_ x0.Yj).bind λ y2=>some (y2 != 0) ) fun(y3:Bool)=>Option.bind (bif y3 then some true else(dD_ x0.Xm).bind λ y4=>some (!y4) ) fun(y5:Bool)=>(bif y5 then some (false)else(ak_ (du_ x0) BIG (0,0)).bind λ wo1=>match wo1 with | .ret r1=>some r1 | .fall _=>some (true))
def teS:Nat->Type | 0=>Xf | 1=>Yz | 2=>Xq | 3=>Xk | 4=>Xx | 5=>Yk | 6=>Xj | 7=>Yd | 8=>Xh | 9=>Yc | 10=>Xp | 11=>Yn | 12=>Xg | 13=>Yh | 14=>Ye | 15=>Yy | 16=>Xr | 17=>Xe | 18=>Zz | 19=>Xn | 20=>Zb | 21=>Yl | 22=>Zy | 23=>Yr | 24=>Zt|_=>Int
def teCs:Nat->List Ty | 0=>[.str,.str,.sl .str] | 1=>[.str,.int .i64,.int .i64] | 2=>[.int .i64,.int .i64,.int .i64,.str,.int .i64,.str,.str,.str,.int .i64,.int .i64,.str] | 3=>[.int .i64,.sl (.st 2)] | 4=>[.sl (.st 0),.sl (.st 1),.int .i64,.sl (.st 2),.sl (.int .i64)] | 5=>[.str,.int .i64,.str] | 6=>[.int .i64,.sl (.st 5)] | 7=>[.int .i64,.str] | 8=>[.sl (.st 0),.sl (.st 1),.int .i64,.sl (.st 2),.sl (.int .i64),.int .i64,.sl (.st 5),.sl (.st 7)] | 9=>[.str,.int .i64,.bool] | 10=>[.str,.int .i64,.int .i64] | 11=>[.sl (.st 0),.sl (.st 1),.int .i64,.sl (.st 2),.sl (.int .i64),.int .i64,.int .i64] | 12=>[.int .i64,.sl (.st 5),.sl .str] | 13=>[.int .u32,.int .u32,.int .u32,.int .u32,.int .u32,.int .u32,.int .u32,.int .u32] | 14=>[.int .u32,.int .u32,.int .u32,.int .u32,.int .u32,.int .u32,.int .u32,.int .u32,.int .u32,.int .u32,.int .u32,.int .u32,.int .u32,.int .u32,.int .u32,.int .u32,.int .u32,.int .u32,.int .u32,.int .u32,.int .u32,.int .u32,.int .u32,.int .u32,.int .u32,.int .u32,.int .u32,.int .u32,.int .u32,.int .u32,.int .u32,.int .u32,.int .u32,.int .u32,.int .u32,.int .u32,.int .u32,.int .u32,.int .u32,.int .u32,.int .u32,.int .u32,.int .u32,.int .u32,.int .u32,.int .u32,.int .u32,.int .u32,.int .u32,.int .u32,.int .u32,.int .u32,.int .u32,.int .u32,.int .u32,.int .u32,.int .u32,.int .u32,.int .u32,.int .u32,.int .u32,.int .u32,.int .u32,.int .u32] | 15=>[.str,.int .i64,.bool] | 16=>[.int .i64,.int .i64,.int .i64,.str,.int .i64,.str,.str,.str,.int .i64,.int .i64,.str,.str,.int .i64,.int .i64] | 17=>[.sl (.st 2),.int .i64] | 18=>[.int .i64,.int .i64,.int .i64,.int .i64] | 19=>[.int .i64,.str] | 20=>[.int .i64,.int .i64,.int .i64] | 21=>[.int .i64,.int .i64,.int .i64,.int .i64,.int .i64,.int .i64,.int .i64,.int .i64,.int .i64,.str,.str,.str,.str] | 22=>[.int .i64,.str,.int .i64,.str,.int .i64,.int .i64,.int .i64,.str,.int .i64,.int .i64,.int .i64,.int .i64,.int .i64,.int .i64,.int .i64,.int .i64,.int .i64,.str,.str,.str,.str,.int .i64] | 23=>[.int .i64,.int .i64,.int .i64] | 24=>[.int .u64,.int .u64,.int .u64,.int .u64,.int .u64,.int .u64,.int .u64,.int .u64,.int .u64,.int .u64,.int .u64,.int .u64,.int .u64,.int .u64,.int .u64,.int .u64,.int .u64,.int .u64,.int .u64,.int .u64]|_=>[.int .i64]
def teUn:(n:Nat)->teS n->HL teS (teCs n) | 0,d=>(d.Xy,d.Yt,d.Yp,()) | 1,d=>(d.Ys,d.Xb,d.Zq,()) | 2,d=>(d.Id_,d.Xw,d.Xo,d.Xy,d.Xv,d.Yw,d.Yv,d.Yg,d.Xu,d.Xa,d.Xl,()) | 3,d=>(d.Xt,d.Xz,()) | 4,d=>(d.Yx,d.Yj,d.Xm.Xt,d.Xm.Xz,d.Xs,()) | 5,d=>(d.Yq,d.Yu,d.Xl,()) | 6,d=>(d.Ya,d.Xd,()) | 7,d=>(d.Yb,d.Yq,()) | 8,d=>(d.Xb.Yx,d.Xb.Yj,d.Xb.Xm.Xt,d.Xb.Xm.Xz,d.Xb.Xs,d.Yf.Ya,d.Yf.Xd,d.Xc,()) | 9,d=>(d.S_,d.At_,d.Zg,()) | 10,d=>(d.Yq,d.Xi,d.Yi,()) | 11,d=>(d.Zj.Yx,d.Zj.Yj,d.Zj.Xm.Xt,d.Zj.Xm.Xz,d.Zj.Xs,d.Zk,d.Ym,()) | 12,d=>(d.Zh.Ya,d.Zh.Xd,d.Zl,()) | 13,d=>(d.a0_,d.a1_,d.a2_,d.a3_,d.a4_,d.a5_,d.a6_,d.a7_,()) | 14,d=>(d.a0_,d.a1_,d.a2_,d.a3_,d.a4_,d.a5_,d.a6_,d.a7_,d.a8_,d.a9_,d.Zo,d.Zu,d.Wz,d.Wq,d.Wx,d.Wj,d.Wk,d.Wv,d.Ww,d.Wy,d.Wg,d.Wf,d.Wm,d.Wn,d.Wp,d.Wb,d.Wc,d.Wd,d.Wr,d.Wt,d.Wl,d.Ws,d.Wa,d.We,d.Wi,d.Wo,d.Wu,d.Vz,d.Vq,d.Vx,d.Vj,d.Vk,d.Vv,d.Vw,d.Vy,d.Vh,d.Vg,d.Vf,d.Vm,d.Vn,d.Vp,d.Vb,d.Vc,d.Vd,d.Vr,d.Vt,d.Vl,d.Vs,d.Va,d.Ve,d.Vi,d.Vo,d.Vu,d.Uz,()) | 15,d=>(d.s_,d.at_,d.Zv,()) | 16,d=>(d.Ym.Id_,d.Ym.Xw,d.Ym.Xo,d.Ym.Xy,d.Ym.Xv,d.Ym.Yw,d.Ym.Yv,d.Ym.Yg,d.Ym.Xu,d.Ym.Xa,d.Ym.Xl,d.Zd.Yq,d.Zd.Xi,d.Zd.Yi,()) | 17,d=>(d.Zc,d.Zn,()) | 18,d=>(d.Wh,d.Za,d.lo_,d.hi_,()) | 19,d=>(d.Zs,d.Zr,()) | 20,d=>(d.Yo,d.Xo,d.Zw,()) | 21,d=>(d.Yo,d.Zp,d.Zx.Yo,d.Zx.Xo,d.Zx.Zw,d.Xv,d.Xu,d.Xa,d.Xi,d.Xy,d.Yw,d.Yv,d.Yg,()) | 22,d=>(d.Yu,d.Ys,d.Id_,d.Xy,d.Zi,d.Xv,d.Ze,d.Xl,d.Zm.Yo,d.Zm.Zp,d.Zm.Zx.Yo,d.Zm.Zx.Xo,d.Zm.Zx.Zw,d.Zm.Xv,d.Zm.Xu,d.Zm.Xa,d.Zm.Xi,d.Zm.Xy,d.Zm.Yw,d.Zm.Yv,d.Zm.Yg,d.Zf,()) | 23,d=>(d.n_,d.Uq,d.Zn,()) | 24,d=>(d.a0_,d.a1_,d.a2_,d.a3_,d.a4_,d.a5_,d.a6_,d.a7_,d.a8_,d.a9_,d.Zo,d.Zu,d.Wz,d.Wq,d.Wx,d.Wj,d.Wk,d.Wv,d.Ww,d.Wy,())|_+25,d=>(d,())
def teBd:(n:Nat)->HL teS (teCs n)->teS n | 0,h=>⟨h.1,h.2.1,h.2.2.1⟩ | 1,h=>⟨h.1,h.2.1,h.2.2.1⟩ | 2,h=>⟨h.1,h.2.1,h.2.2.1,h.2.2.2.1,h.2.2.2.2.1,h.2.2.2.2.2.1,h.2.2.2.2.2.2.1,h.2.2.2.2.2.2.2.1,h.2.2.2.2.2.2.2.2.1,h.2.2.2.2.2.2.2.2.2.1,h.2.2.2.2.2.2.2.2.2.2.1⟩ | 3,h=>⟨h.1,h.2.1⟩ | 4,h=>⟨h.1,h.2.1,⟨h.2.2.1,h.2.2.2.1⟩,h.2.2.2.2.1⟩ | 5,h=>⟨h.1,h.2.1,h.2.2.1⟩ | 6,h=>⟨h.1,h.2.1⟩ | 7,h=>⟨h.1,h.2.1⟩ | 8,h=>⟨⟨h.1,h.2.1,⟨h.2.2.1,h.2.2.2.1⟩,h.2.2.2.2.1⟩,⟨h.2.2.2.2.2.1,h.2.2.2.2.2.2.1⟩,h.2.2.2.2.2.2.2.1⟩ | 9,h=>⟨h.1,h.2.1,h.2.2.1⟩ | 10,h=>⟨h.1,h.2.1,h.2.2.1⟩ | 11,h=>⟨⟨h.1,h.2.1,⟨h.2.2.1,h.2.2.2.1⟩,h.2.2.2.2.1⟩,h.2.2.2.2.2.1,h.2.2.2.2.2.2.1⟩ | 12,h=>⟨⟨h.1,h.2.1⟩,h.2.2.1⟩ | 13,h=>⟨h.1,h.2.1,h.2.2.1,h.2.2.2.1,h.2.2.2.2.1,h.2.2.2.2.2.1,h.2.2.2.2.2.2.1,h.2.2.2.2.2.2.2.1⟩ | 14,h=>⟨h.1,h.2.1,h.2.2.1,h.2.2.2.1,h.2.2.2.2.1,h.2.2.2.2.2.1,h.2.2.2.2.2.2.1,h.2.2.2.2.2.2.2.1,h.2.2.2.2.2.2.2.2.1,h.2.2.2.2.2.2.2.2.2.1,h.2.2.2.2.2.2.2.2.2.2.1,h.2.2.2.2.2.2.2.2.2.2.2.1,h.2.2.2.2.2.2.2.2.2.2.2.2.1,h.2.2.2.2.2.2.2.2.2.2.2.2.2.1,h.2.2.2.2.2.2.2.2.2.2.2.2.2.2.1,h.2.2.2.2.2.2.2.2.2.2.2.2.2.2.2.1,h.2.2.2.2.2.2.2.2.2.2.2.2.2.2.2.2.1,h.2.2.2.2.2.2.2.2.2.2.2.2.2.2.2.2.2.1,h.2.2.2.2.2.2.2.2.2.2.2.2.2.2.2.2.2.2.1,h.2.2.2.2.2.2.2.2.2.2.2.2.2.2.2.2.2.2.2.1,h.2.2.2.2.2.2.2.2.2.2.2.2.2.2.2.2.2.2.2.2.1,h.2.2.2.2.2.2.2.2.2.2.2.2.2.2.2.2.2.2.2.2.2.1,h.2.2.2.2.2.2.2.2.2.2.2.2.2.2.2.2.2.2.2.2.2.2.1,h.2.2.2.2.2.2.2.2.2.2.2.2.2.2.2.2.2.2.2.2.2.2.2.1,h.2.2.2.2.2.2.2.2.2.2.2.2.2.2.2.2.2.2.2.2.2.2.2.2.1,h.2.2.2.2.2.2.2.2.2.2.2.2.2.2.2.2.2.2.2.2.2.2.2.2.2.1,h.2.2.2.2.2.2.2.2.2.2.2.2.2.2.2.2.2.2.2.2.2.2.2.2.2.2.1,h.2.2.2.2.2.2.2.2.2.2.2.2.2.2.2.2.2.2.2.2.2.2.2.2.2.2.2.1,h.2.2.2.2.2.2.2.2.2.2.2.2.2.2.2.2.2.2.2.2.2.2.2.2.2.2.2.2.1,h.2.2.2.2.2.2.2.2.2.2.2.2.2.2.2.2.2.2.2.2.2.2.2.2.2.2.2.2.2.1,h.2.2.2.2.2.2.2.2.2.2.2.2.2.2.2.2.2.2.2.2.2.2.2.2.2.2.2.2.2.2.1,h.2.2.2.2.2.2.2.2.2.2.2.2.2.2.2.2.2.2.2.2.2.2.2.2.2.2.2.2.2.2.2.1,h.2.2.2.2.2.2.2.2.2.2.2.2.2.2.2.2.2.2.2.2.2.2.2.2.2.2.2.2.2.2.2.2.1,h.2.2.2.2.2.2.2.2.2.2.2.2.2.2.2.2.2.2.2.2.2.2.2.2.2.2.2.2.2.2.2.2.2.1,h.2.2.2.2.2.2.2.2.2.2.2.2.2.2.2.2.2.2.2.2.2.2.2.2.2.2.2.2.2.2.2.2.2.2.1,h.2.2.2.2.2.2.2.2.2.2.2.2.2.2.2.2.2.2.2.2.2.2.2.2.2.2.2.2.2.2.2.2.2.2.2.1,h.2.2.2.2.2.2.2.2.2.2.2.2.2.2.2.2.2.2.2.2.2.2.2.2.2.2.2.2.2.2.2.2.2.2.2.2.1,h.2.2.2.2.2.2.2.2.2.2.2.2.2.2.2.2.2.2.2.2.2.2.2.2.2.2.2.2.2.2.2.2.2.2.2.2.2.1,h.2.2.2.2.2.2.2.2.2.2.2.2.2.2.2.2.2.2.2.2.2.2.2.2.2.2.2.2.2.2.2.2.2.2.2.2.2.2.1,h.2.2.2.2.2.2.2.2.2.2.2.2.2.2.2.2.2.2.2.2.2.2.2.2.2.2.2.2.2.2.2.2.2.2.2.2.2.2.2.1,h.2.2.2.2.2.2.2.2.2.2.2.2.2.2.2.2.2.2.2.2.2.2.2.2.2.2.2.2.2.2.2.2.2.2.2.2.2.2.2.2.1,h.2.2.2.2.2.2.2.2.2.2.2.2.2.2.2.2.2.2.2.2.2.2.2.2.2.2.2.2.2.2.2.2.2.2.2.2.2.2.2.2.2.1,h.2.2.2.2.2.2.2.2.2.2.2.2.2.2.2.2.2.2.2.2.2.2.2.2.2.2.2.2.2.2.2.2.2.2.2.2.2.2.2.2.2.2.1,h.2.2.2.2.2.2.2.2.2.2.2.2.2.2.2.2.2.2.2.2.2.2.2.2.2.2.2.2.2.2.2.2.2.2.2.2.2.2.2.2.2.2.2.1,h.2.2.2.2.2.2.2.2.2.2.2.2.2.2.2.2.2.2.2.2.2.2.2.2.2.2.2.2.2.2.2.2.2.2.2.2.2.2.2.2.2.2.2.2.1,h.2.2.2.2.2.2.2.2.2.2.2.2.2.2.2.2.2.2.2.2.2.2.2.2.2.2.2.2.2.2.2.2.2.2.2.2.2.2.2.2.2.2.2.2.2.1,h.2.2.2.2.2.2.2.2.2.2.2.2.2.2.2.2.2.2.2.2.2.2.2.2.2.2.2.2.2.2.2.2.2.2.2.2.2.2.2.2.2.2.2.2.2.2.1,h.2.2.2.2.2.2.2.2.2.2.2.2.2.2.2.2.2.2.2.2.2.2.2.2.2.2.2.2.2.2.2.2.2.2.2.2.2.2.2.2.2.2.2.2.2.2.2.1,h.2.2.2.2.2.2.2.2.2.2.2.2.2.2.2.2.2.2.2.2.2.2.2.2.2.2.2.2.2.2.2.2.2.2.2.2.2.2.2.2.2.2.2.2.2.2.2.2.1,h.2.2.2.2.2.2.2.2.2.2.2.2.2.2.2.2.2.2.2.2.2.2.2.2.2.2.2.2.2.2.2.2.2.2.2.2.2.2.2.2.2.2.2.2.2.2.2.2.2.1,h.2.2.2.2.2.2.2.2.2.2.2.2.2.2.2.2.2.2.2.2.2.2.2.2.2.2.2.2.2.2.2.2.2.2.2.2.2.2.2.2.2.2.2.2.2.2.2.2.2.2.1,h.2.2.2.2.2.2.2.2.2.2.2.2.2.2.2.2.2.2.2.2.2.2.2.2.2.2.2.2.2.2.2.2.2.2.2.2.2.2.2.2.2.2.2.2.2.2.2.2.2.2.2.1,h.2.2.2.2.2.2.2.2.2.2.2.2.2.2.2.2.2.2.2.2.2.2.2.2.2.2.2.2.2.2.2.2.2.2.2.2.2.2.2.2.2.2.2.2.2.2.2.2.2.2.2.2.1,h.2.2.2.2.2.2.2.2.2.2.2.2.2.2.2.2.2.2.2.2.2.2.2.2.2.2.2.2.2.2.2.2.2.2.2.2.2.2.2.2.2.2.2.2.2.2.2.2.2.2.2.2.2.1,h.2.2.2.2.2.2.2.2.2.2.2.2.2.2.2.2.2.2.2.2.2.2.2.2.2.2.2.2.2.2.2.2.2.2.2.2.2.2.2.2.2.2.2.2.2.2.2.2.2.2.2.2.2.2.1,h.2.2.2.2.2.2.2.2.2.2.2.2.2.2.2.2.2.2.2.2.2.2.2.2.2.2.2.2.2.2.2.2.2.2.2.2.2.2.2.2.2.2.2.2.2.2.2.2.2.2.2.2.2.2.2.1,h.2.2.2.2.2.2.2.2.2.2.2.2.2.2.2.2.2.2.2.2.2.2.2.2.2.2.2.2.2.2.2.2.2.2.2.2.2.2.2.2.2.2.2.2.2.2.2.2.2.2.2.2.2.2.2.2.1,h.2.2.2.2.2.2.2.2.2.2.2.2.2.2.2.2.2.2.2.2.2.2.2.2.2.2.2.2.2.2.2.2.2.2.2.2.2.2.2.2.2.2.2.2.2.2.2.2.2.2.2.2.2.2.2.2.2.1,h.2.2.2.2.2.2.2.2.2.2.2.2.2.2.2.2.2.2.2.2.2.2.2.2.2.2.2.2.2.2.2.2.2.2.2.2.2.2.2.2.2.2.2.2.2.2.2.2.2.2.2.2.2.2.2.2.2.2.1,h.2.2.2.2.2.2.2.2.2.2.2.2.2.2.2.2.2.2.2.2.2.2.2.2.2.2.2.2.2.2.2.2.2.2.2.2.2.2.2.2.2.2.2.2.2.2.2.2.2.2.2.2.2.2.2.2.2.2.2.1,h.2.2.2.2.2.2.2.2.2.2.2.2.2.2.2.2.2.2.2.2.2.2.2.2.2.2.2.2.2.2.2.2.2.2.2.2.2.2.2.2.2.2.2.2.2.2.2.2.2.2.2.2.2.2.2.2.2.2.2.2.1,h.2.2.2.2.2.2.2.2.2.2.2.2.2.2.2.2.2.2.2.2.2.2.2.2.2.2.2.2.2.2.2.2.2.2.2.2.2.2.2.2.2.2.2.2.2.2.2.2.2.2.2.2.2.2.2.2.2.2.2.2.2.1,h.2.2.2.2.2.2.2.2.2.2.2.2.2.2.2.2.2.2.2.2.2.2.2.2.2.2.2.2.2.2.2.2.2.2.2.2.2.2.2.2.2.2.2.2.2.2.2.2.2.2.2.2.2.2.2.2.2.2.2.2.2.2.1,h.2.2.2.2.2.2.2.2.2.2.2.2.2.2.2.2.2.2.2.2.2.2.2.2.2.2.2.2.2.2.2.2.2.2.2.2.2.2.2.2.2.2.2.2.2.2.2.2.2.2.2.2.2.2.2.2.2.2.2.2.2.2.2.1⟩ | 15,h=>⟨h.1,h.2.1,h.2.2.1⟩ | 16,h=>⟨⟨h.1,h.2.1,h.2.2.1,h.2.2.2.1,h.2.2.2.2.1,h.2.2.2.2.2.1,h.2.2.2.2.2.2.1,h.2.2.2.2.2.2.2.1,h.2.2.2.2.2.2.2.2.1,h.2.2.2.2.2.2.2.2.2.1,h.2.2.2.2.2.2.2.2.2.2.1⟩,⟨h.2.2.2.2.2.2.2.2.2.2.2.1,h.2.2.2.2.2.2.2.2.2.2.2.2.1,h.2.2.2.2.2.2.2.2.2.2.2.2.2.1⟩⟩ | 17,h=>⟨h.1,h.2.1⟩ | 18,h=>⟨h.1,h.2.1,h.2.2.1,h.2.2.2.1⟩ | 19,h=>⟨h.1,h.2.1⟩ | 20,h=>⟨h.1,h.2.1,h.2.2.1⟩ | 21,h=>⟨h.1,h.2.1,⟨h.2.2.1,h.2.2.2.1,h.2.2.2.2.1⟩,h.2.2.2.2.2.1,h.2.2.2.2.2.2.1,h.2.2.2.2.2.2.2.1,h.2.2.2.2.2.2.2.2.1,h.2.2.2.2.2.2.2.2.2.1,h.2.2.2.2.2.2.2.2.2.2.1,h.2.2.2.2.2.2.2.2.2.2.2.1,h.2.2.2.2.2.2.2.2.2.2.2.2.1⟩ | 22,h=>⟨h.1,h.2.1,h.2.2.1,h.2.2.2.1,h.2.2.2.2.1,h.2.2.2.2.2.1,h.2.2.2.2.2.2.1,h.2.2.2.2.2.2.2.1,⟨h.2.2.2.2.2.2.2.2.1,h.2.2.2.2.2.2.2.2.2.1,⟨h.2.2.2.2.2.2.2.2.2.2.1,h.2.2.2.2.2.2.2.2.2.2.2.1,h.2.2.2.2.2.2.2.2.2.2.2.2.1⟩,h.2.2.2.2.2.2.2.2.2.2.2.2.2.1,h.2.2.2.2.2.2.2.2.2.2.2.2.2.2.1,h.2.2.2.2.2.2.2.2.2.2.2.2.2.2.2.1,h.2.2.2.2.2.2.2.2.2.2.2.2.2.2.2.2.1,h.2.2.2.2.2.2.2.2.2.2.2.2.2.2.2.2.2.1,h.2.2.2.2.2.2.2.2.2.2.2.2.2.2.2.2.2.2.1,h.2.2.2.2.2.2.2.2.2.2.2.2.2.2.2.2.2.2.2.1,h.2.2.2.2.2.2.2.2.2.2.2.2.2.2.2.2.2.2.2.2.1⟩,h.2.2.2.2.2.2.2.2.2.2.2.2.2.2.2.2.2.2.2.2.2.1⟩ | 23,h=>⟨h.1,h.2.1,h.2.2.1⟩ | 24,h=>⟨h.1,h.2.1,h.2.2.1,h.2.2.2.1,h.2.2.2.2.1,h.2.2.2.2.2.1,h.2.2.2.2.2.2.1,h.2.2.2.2.2.2.2.1,h.2.2.2.2.2.2.2.2.1,h.2.2.2.2.2.2.2.2.2.1,h.2.2.2.2.2.2.2.2.2.2.1,h.2.2.2.2.2.2.2.2.2.2.2.1,h.2.2.2.2.2.2.2.2.2.2.2.2.1,h.2.2.2.2.2.2.2.2.2.2.2.2.2.1,h.2.2.2.2.2.2.2.2.2.2.2.2.2.2.1,h.2.2.2.2.2.2.2.2.2.2.2.2.2.2.2.1,h.2.2.2.2.2.2.2.2.2.2.2.2.2.2.2.2.1,h.2.2.2.2.2.2.2.2.2.2.2.2.2.2.2.2.2.1,h.2.2.2.2.2.2.2.2.2.2.2.2.2.2.2.2.2.2.1,h.2.2.2.2.2.2.2.2.2.2.2.2.2.2.2.2.2.2.2.1⟩|_+25,h=>h.1
def teDeq:(n:Nat)->Option (DecidableEq (teS n)) | 1=>some (inferInstanceAs (DecidableEq Yz)) | 2=>some (inferInstanceAs (DecidableEq Xq)) | 5=>some (inferInstanceAs (DecidableEq Yk)) | 7=>some (inferInstanceAs (DecidableEq Yd)) | 19=>some (inferInstanceAs (DecidableEq Xn)) | 21=>some (inferInstanceAs (DecidableEq Yl)) | 20=>some (inferInstanceAs (DecidableEq Zb))|_=>none
def teTy(n:Nat):Option Ty:=aH_ n [(2,.int .i64),(3,.int .i64),(4,.bool),(5,.int .u8),(6,.int .u8),(9,.str),(10,.str),(11,.str),(12,.int .u64),(21,.int .i32),(22,.sl (.st 0)),(23,.sl (.st 1)),(24,.sl (.st 2)),(26,.st 3),(27,.sl (.int .i64)),(29,.st 4),(30,.sl (.st 5)),(32,.st 6),(33,.sl (.st 7)),(35,.st 8),(39,.st 7),(42,.int .i64),(54,.st 20),(56,.st 21),(59,.sl (.st 21)),(64,.sl (.st 22)),(69,.st 22),(77,.sl .str),(79,.st 0),(81,.st 2),(83,.st 5),(96,.st 11),(120,.st 1),(135,.st 9),(137,.st 10),(158,.st 19),(184,.st 16),(193,.sl (.st 10)),(205,.st 12),(209,.st 15),(235,.sl (.int .u8)),(258,.sl (.st 16)),(265,.int .u64),(267,.int .u64),(296,.st 18),(299,.int .i64),(306,.int .u32),(308,.st 24),(310,.sl (.st 23)),(313,.st 23),(315,.sl (.int .u32)),(330,.int .u64),(337,.st 13),(353,.st 14),(365,.int .u8),(368,.int .i32)]
abbrev globPT:Ty := .st 24
abbrev glob0T:Ty := .st 14
def teGl:Nat->Option (Σ t:Ty,Den teS t) | 0=>some ⟨.st 24,globP⟩ | 3=>some ⟨.st 14,glob0⟩|_=>none
abbrev nodeN:Nat:=2
abbrev snapN:Nat:=8
abbrev op17N:Nat:=22
def teSb(n:Nat):Bool:=Nat.beq n 323
def te:TE:=⟨teS,teCs,teUn,teBd,λ n x=>by match n with | 0=>rfl | 1=>rfl | 2=>rfl | 3=>rfl | 4=>rfl | 5=>rfl | 6=>rfl | 7=>rfl | 8=>rfl | 9=>rfl | 10=>rfl | 11=>rfl | 12=>rfl | 13=>rfl | 14=>rfl | 15=>rfl | 16=>rfl | 17=>rfl | 18=>rfl | 19=>rfl | 20=>rfl | 21=>rfl | 22=>rfl | 23=>rfl | 24=>rfl|n+25=>rfl,λ n x=>by match n with | 0=>rfl | 1=>rfl | 2=>rfl | 3=>rfl | 4=>rfl | 5=>rfl | 6=>rfl | 7=>rfl | 8=>rfl | 9=>rfl | 10=>rfl | 11=>rfl | 12=>rfl | 13=>rfl | 14=>rfl | 15=>rfl | 16=>rfl | 17=>rfl | 18=>rfl | 19=>rfl | 20=>rfl | 21=>rfl | 22=>rfl | 23=>rfl | 24=>rfl|n+25=>rfl,teDeq,teTy,λ n=>by match n with | 0=>exact List.cons_ne_nil _ _ | 1=>exact List.cons_ne_nil _ _ | 2=>exact List.cons_ne_nil _ _ | 3=>exact List.cons_ne_nil _ _ | 4=>exact List.cons_ne_nil _ _ | 5=>exact List.cons_ne_nil _ _ | 6=>exact List.cons_ne_nil _ _ | 7=>exact List.cons_ne_nil _ _ | 8=>exact List.cons_ne_nil _ _ | 9=>exact List.cons_ne_nil _ _ | 10=>exact List.cons_ne_nil _ _ | 11=>exact List.cons_ne_nil _ _ | 12=>exact List.cons_ne_nil _ _ | 13=>exact List.cons_ne_nil _ _ | 14=>exact List.cons_ne_nil _ _ | 15=>exact List.cons_ne_nil _ _ | 16=>exact List.cons_ne_nil _ _ | 17=>exact List.cons_ne_nil _ _ | 18=>exact List.cons_ne_nil _ _ | 19=>exact List.cons_ne_nil _ _ | 20=>exact List.cons_ne_nil _ _ | 21=>exact List.cons_ne_nil _ _ | 22=>exact List.cons_ne_nil _ _ | 23=>exact List.cons_ne_nil _ _ | 24=>exact List.cons_ne_nil _ _|n+25=>exact List.cons_ne_nil _ _,teGl,teSb⟩
theorem api_Snap_ext(x y:Yd):(x=y)=(x.Yb=y.Yb/\x.Yq=y.Yq):=by cases x;cases y;simp
theorem eqd_api_Snap(x y:Yd):((x.Yb==y.Yb)&&(((⟨x.Yq.toArray⟩:ByteArray).toList==(⟨y.Yq.toArray⟩:ByteArray).toList)&&true))=true↔x=y:=by simp[api_Snap_ext]
theorem uM_:aP_ Tryz.prog te 39 7:=by
 intro d x y l m hl hm;obtain rfl:=qSj hl;obtain rfl:=qSj hm;refine jU_ 10 rfl (by kernel_rfl) (b:=((x.Yb==y.Yb)&&(((⟨x.Yq.toArray⟩:ByteArray).toList==(⟨y.Yq.toArray⟩:ByteArray).toList)&&true))) (by kernel_rfl) ?_;rw[Bool.eq_iff_iff];exact(eqd_api_Snap x y).trans (@decide_eq_true_iff _ (d x y)).symm
theorem rH_(x y:Zb):(x=y)=(x.Yo=y.Yo/\x.Xo=y.Xo/\x.Zw=y.Zw):=by cases x;cases y;simp
theorem eqd_api_Qid(x y:Zb):((x.Yo==y.Yo)&&((x.Xo==y.Xo)&&((x.Zw==y.Zw)&&true)))=true↔x=y:=by simp[rH_]
theorem wg_:aP_ Tryz.prog te 54 20:=by
 intro d x y l m hl hm;obtain rfl:=qSj hl;obtain rfl:=qSj hm;refine jU_ 10 rfl (by kernel_rfl) (b:=((x.Yo==y.Yo)&&((x.Xo==y.Xo)&&((x.Zw==y.Zw)&&true)))) (by kernel_rfl) ?_;rw[Bool.eq_iff_iff];exact(eqd_api_Qid x y).trans (@decide_eq_true_iff _ (d x y)).symm
theorem api_Dir_ext(x y:Yl):(x=y)=(x.Yo=y.Yo/\x.Zp=y.Zp/\x.Zx=y.Zx/\x.Xv=y.Xv/\x.Xu=y.Xu/\x.Xa=y.Xa/\x.Xi=y.Xi/\x.Xy=y.Xy/\x.Yw=y.Yw/\x.Yv=y.Yv/\x.Yg=y.Yg):=by cases x;cases y;simp
theorem eqd_api_Dir(x y:Yl):((x.Yo==y.Yo)&&((x.Zp==y.Zp)&&(((x.Zx.Yo==y.Zx.Yo)&&((x.Zx.Xo==y.Zx.Xo)&&((x.Zx.Zw==y.Zx.Zw)&&true)))&&((x.Xv==y.Xv)&&((x.Xu==y.Xu)&&((x.Xa==y.Xa)&&((x.Xi==y.Xi)&&(((⟨x.Xy.toArray⟩:ByteArray).toList==(⟨y.Xy.toArray⟩:ByteArray).toList)&&(((⟨x.Yw.toArray⟩:ByteArray).toList==(⟨y.Yw.toArray⟩:ByteArray).toList)&&(((⟨x.Yv.toArray⟩:ByteArray).toList==(⟨y.Yv.toArray⟩:ByteArray).toList)&&(((⟨x.Yg.toArray⟩:ByteArray).toList==(⟨y.Yg.toArray⟩:ByteArray).toList)&&true)))))))))))=true↔x=y:=by simp[api_Dir_ext,rH_]
theorem wh_:aP_ Tryz.prog te 56 21:=by
 intro d x y l m hl hm;obtain rfl:=qSj hl;obtain rfl:=qSj hm;refine jU_ 10 rfl (by kernel_rfl) (b:=((x.Yo==y.Yo)&&((x.Zp==y.Zp)&&(((x.Zx.Yo==y.Zx.Yo)&&((x.Zx.Xo==y.Zx.Xo)&&((x.Zx.Zw==y.Zx.Zw)&&true)))&&((x.Xv==y.Xv)&&((x.Xu==y.Xu)&&((x.Xa==y.Xa)&&((x.Xi==y.Xi)&&(((⟨x.Xy.toArray⟩:ByteArray).toList==(⟨y.Xy.toArray⟩:ByteArray).toList)&&(((⟨x.Yw.toArray⟩:ByteArray).toList==(⟨y.Yw.toArray⟩:ByteArray).toList)&&(((⟨x.Yv.toArray⟩:ByteArray).toList==(⟨y.Yv.toArray⟩:ByteArray).toList)&&(((⟨x.Yg.toArray⟩:ByteArray).toList==(⟨y.Yg.toArray⟩:ByteArray).toList)&&true)))))))))))) (by kernel_rfl) ?_;rw[Bool.eq_iff_iff]
 exact(eqd_api_Dir x y).trans (@decide_eq_true_iff _ (d x y)).symm
theorem api_Node_ext(x y:Xq):(x=y)=(x.Id_=y.Id_/\x.Xw=y.Xw/\x.Xo=y.Xo/\x.Xy=y.Xy/\x.Xv=y.Xv/\x.Yw=y.Yw/\x.Yv=y.Yv/\x.Yg=y.Yg/\x.Xu=y.Xu/\x.Xa=y.Xa/\x.Xl=y.Xl):=by cases x;cases y;simp
theorem eqd_api_Node(x y:Xq):((x.Id_==y.Id_)&&((x.Xw==y.Xw)&&((x.Xo==y.Xo)&&(((⟨x.Xy.toArray⟩:ByteArray).toList==(⟨y.Xy.toArray⟩:ByteArray).toList)&&((x.Xv==y.Xv)&&(((⟨x.Yw.toArray⟩:ByteArray).toList==(⟨y.Yw.toArray⟩:ByteArray).toList)&&(((⟨x.Yv.toArray⟩:ByteArray).toList==(⟨y.Yv.toArray⟩:ByteArray).toList)&&(((⟨x.Yg.toArray⟩:ByteArray).toList==(⟨y.Yg.toArray⟩:ByteArray).toList)&&((x.Xu==y.Xu)&&((x.Xa==y.Xa)&&(((⟨x.Xl.toArray⟩:ByteArray).toList==(⟨y.Xl.toArray⟩:ByteArray).toList)&&true)))))))))))=true↔x=y:=by simp[api_Node_ext]
theorem uN_:aP_ Tryz.prog te 81 2:=by
 intro d x y l m hl hm;obtain rfl:=qSj hl;obtain rfl:=qSj hm;refine jU_ 10 rfl (by kernel_rfl) (b:=((x.Id_==y.Id_)&&((x.Xw==y.Xw)&&((x.Xo==y.Xo)&&(((⟨x.Xy.toArray⟩:ByteArray).toList==(⟨y.Xy.toArray⟩:ByteArray).toList)&&((x.Xv==y.Xv)&&(((⟨x.Yw.toArray⟩:ByteArray).toList==(⟨y.Yw.toArray⟩:ByteArray).toList)&&(((⟨x.Yv.toArray⟩:ByteArray).toList==(⟨y.Yv.toArray⟩:ByteArray).toList)&&(((⟨x.Yg.toArray⟩:ByteArray).toList==(⟨y.Yg.toArray⟩:ByteArray).toList)&&((x.Xu==y.Xu)&&((x.Xa==y.Xa)&&(((⟨x.Xl.toArray⟩:ByteArray).toList==(⟨y.Xl.toArray⟩:ByteArray).toList)&&true)))))))))))) (by kernel_rfl) ?_;rw[Bool.eq_iff_iff]
 exact(eqd_api_Node x y).trans (@decide_eq_true_iff _ (d x y)).symm
theorem wi_(x y:Yk):(x=y)=(x.Yq=y.Yq/\x.Yu=y.Yu/\x.Xl=y.Xl):=by cases x;cases y;simp
theorem wj_(x y:Yk):(((⟨x.Yq.toArray⟩:ByteArray).toList==(⟨y.Yq.toArray⟩:ByteArray).toList)&&((x.Yu==y.Yu)&&(((⟨x.Xl.toArray⟩:ByteArray).toList==(⟨y.Xl.toArray⟩:ByteArray).toList)&&true)))=true↔x=y:=by simp[wi_]
theorem tu_:aP_ Tryz.prog te 83 5:=by
 intro d x y l m hl hm;obtain rfl:=qSj hl;obtain rfl:=qSj hm;refine jU_ 10 rfl (by kernel_rfl) (b:=(((⟨x.Yq.toArray⟩:ByteArray).toList==(⟨y.Yq.toArray⟩:ByteArray).toList)&&((x.Yu==y.Yu)&&(((⟨x.Xl.toArray⟩:ByteArray).toList==(⟨y.Xl.toArray⟩:ByteArray).toList)&&true)))) (by kernel_rfl) ?_;rw[Bool.eq_iff_iff];exact(wj_ x y).trans (@decide_eq_true_iff _ (d x y)).symm
theorem wk_(x y:Yz):(x=y)=(x.Ys=y.Ys/\x.Xb=y.Xb/\x.Zq=y.Zq):=by cases x;cases y;simp
theorem wl_(x y:Yz):(((⟨x.Ys.toArray⟩:ByteArray).toList==(⟨y.Ys.toArray⟩:ByteArray).toList)&&((x.Xb==y.Xb)&&((x.Zq==y.Zq)&&true)))=true↔x=y:=by simp[wk_]
theorem si_:aP_ Tryz.prog te 120 1:=by
 intro d x y l m hl hm;obtain rfl:=qSj hl;obtain rfl:=qSj hm;refine jU_ 10 rfl (by kernel_rfl) (b:=(((⟨x.Ys.toArray⟩:ByteArray).toList==(⟨y.Ys.toArray⟩:ByteArray).toList)&&((x.Xb==y.Xb)&&((x.Zq==y.Zq)&&true)))) (by kernel_rfl) ?_;rw[Bool.eq_iff_iff];exact(wl_ x y).trans (@decide_eq_true_iff _ (d x y)).symm
theorem uO_(x y:Xn):(x=y)=(x.Zs=y.Zs/\x.Zr=y.Zr):=by cases x;cases y;simp
theorem uP_(x y:Xn):((x.Zs==y.Zs)&&(((⟨x.Zr.toArray⟩:ByteArray).toList==(⟨y.Zr.toArray⟩:ByteArray).toList)&&true))=true↔x=y:=by simp[uO_]
theorem rq_:aP_ Tryz.prog te 158 19:=by
 intro d x y l m hl hm;obtain rfl:=qSj hl;obtain rfl:=qSj hm;refine jU_ 10 rfl (by kernel_rfl) (b:=((x.Zs==y.Zs)&&(((⟨x.Zr.toArray⟩:ByteArray).toList==(⟨y.Zr.toArray⟩:ByteArray).toList)&&true))) (by kernel_rfl) ?_;rw[Bool.eq_iff_iff];exact(uP_ x y).trans (@decide_eq_true_iff _ (d x y)).symm
def eqL:List (Nat×Nat):=[(39,7),(54,20),(56,21),(81,2),(83,5),(120,1),(158,19)]
theorem ag_:∀p∈eqL,aP_ Tryz.prog te p.1 p.2:=by
 intro p hp;simp only[eqL,List.mem_cons,List.not_mem_nil,or_false]at hp;rcases hp with rfl|rfl|rfl|rfl|rfl|rfl|rfl
 .exact uM_
 .exact wg_
 .exact wh_
 .exact uN_
 .exact tu_
 .exact si_
 .exact rq_
abbrev OKF(f:FuncId)(C:Con te):Prop:=Con.OK Tryz.prog te f C/\dy_ Tryz.prog f=true
end
open Go.ChangeShapes Go.WideShapes Go.ChangeAt Go.ChangeMaps
abbrev laidAll : List (String × DataW Unit) := [("math/bits.deBruijn32tab", Rows.laid_math_bits_deBruijn32tab), ("math/bits.deBruijn64tab", Rows.laid_math_bits_deBruijn64tab), ("internal/strconv.uint64pow10", Rows.laid_internal_strconv_uint64pow10), ("filespace/hash.rounds", Rows.laid_filespace_hash_rounds)]
def powL:List Int:=[1,10,100,1000,10000,100000,1000000,10000000,100000000,1000000000,10000000000,100000000000,1000000000000,10000000000000,100000000000000,1000000000000000,10000000000000000,100000000000000000,1000000000000000000,10000000000000000000]
theorem tab_block{W:World}{name:String}{k:IntKind}{zs:List Int}{n:Nat}(h:Lib.TabIs Tryz.prog W name k zs)(hn:(Tryz.prog).globalNamed name=some n):∃e c,W.heap[n]? = some (.cells (zs.map λ z=>Value.int k z).toArray e c):=by
 unfold Lib.TabIs World.var? at h;rw[hn]at h;simp only[qBs]at h;split at h
 .rename_i cs e c hh;obtain rfl:=qSj h;exact⟨e,c,hh⟩
 .cases h
theorem tab_glo{W:World}{name:String}{k:IntKind}{zs:List Int}{n:Nat}(h:Lib.TabIs Tryz.prog W name k zs)(hn:(Tryz.prog).globalNamed name=some n){t:Ty}{x:Den te.S t}(hr:RD te (fb_ W) (te.flat t) (te.fl t x) (zs.map (Value.int k))) :
  (fb_ W).F n/\∃r,RD te (fb_ W) (te.flat t) (te.fl t x) r/\(∀j u,r[j]? = some u->(fb_ W).w.cell? ⟨n,j,none⟩=some u)/\∃e c,(fb_ W).w.heap[n]? = some (.cells r.toArray e c):=by
 obtain⟨e,c,hh⟩:=tab_block h hn;refine⟨?_,zs.map (Value.int k),hr,λ j u hu => ?_,e,c,hh⟩
 .show n<W.heap.size;rcases Nat.lt_or_ge n W.heap.size with h'|h'
  .exact h'
  .rw[Array.getElem?_eq_none h']at hh;cases hh
 .show W.cell? ⟨n,j,none⟩=some u;rw[cell_of_row W n j _ e c hh,List.getElem?_toArray];exact hu
theorem seat_glob{W:World}(h:laidMetH Tryz.prog laidAll W):Glo te (fb_ W):=by
 have hm:=(laidMetH_iff.1 h).1
 have h1 : laidMet Tryz.prog (("filespace/hash.rounds", Lib.tabData .u32 glob0.l) :: []) W := by
  have := hm.filter (fun x => x.1 == "filespace/hash.rounds")
  have e : ((laidAll.filter fun x => x.2.handleName?.isNone).filter fun x => x.1 == "filespace/hash.rounds") = [("filespace/hash.rounds", Lib.tabData .u32 glob0.l)] := by kernel_rfl
  rw[e]at this;exact this
 have h2 : laidMet Tryz.prog (("internal/strconv.uint64pow10", Lib.tabData .u64 powL) :: []) W := by
  have := hm.filter (fun x => x.1 == "internal/strconv.uint64pow10")
  have e : ((laidAll.filter fun x => x.2.handleName?.isNone).filter fun x => x.1 == "internal/strconv.uint64pow10") = [("internal/strconv.uint64pow10", Lib.tabData .u64 powL)] := by kernel_rfl
  rw[e]at this;exact this
 have hT:=Lib.tabIs_of_head (P:=Tryz.prog) (g:=3) (t:=353) (e:=306) (n:=64) (by kernel_rfl) (by kernel_rfl) (by kernel_rfl) (by kernel_rfl) (by kernel_rfl) (by kernel_rfl) h1;have hP:=Lib.tabIs_of_head (P:=Tryz.prog) (g:=0) (t:=308) (e:=267) (n:=20) (by kernel_rfl) (by kernel_rfl) (by kernel_rfl) (by kernel_rfl) (by kernel_rfl) (by kernel_rfl) h2;intro n t x e;rcases n with _|_|_|_|n
 .have e2:(⟨globPT,globP⟩:Sigma λ t:Ty=>Den te.S t)=⟨t,x⟩:=qSj e;cases e2
  exact tab_glo hP (by kernel_rfl) (.int (.int (.int (.int (.int (.int (.int (.int (.int (.int (.int (.int (.int (.int (.int (.int (.int (.int (.int (.int .nil))))))))))))))))))))
 .cases e
 .cases e
 .have e2:(⟨glob0T,glob0⟩:Sigma λ t:Ty=>Den te.S t)=⟨t,x⟩:=qSj e;cases e2
  exact tab_glo hT (by kernel_rfl) (.int (.int (.int (.int (.int (.int (.int (.int (.int (.int (.int (.int (.int (.int (.int (.int (.int (.int (.int (.int (.int (.int (.int (.int (.int (.int (.int (.int (.int (.int (.int (.int (.int (.int (.int (.int (.int (.int (.int (.int (.int (.int (.int (.int (.int (.int (.int (.int (.int (.int (.int (.int (.int (.int (.int (.int (.int (.int (.int (.int (.int (.int (.int (.int .nil))))))))))))))))))))))))))))))))))))))))))))))))))))))))))))))))
 .cases e
theorem door_met(os:Os)(args:Array Value):laidMetH Tryz.prog laidAll ((World.doorLaid Tryz.prog 29 os).forCall (λ _ _=>0) ⟨#[],args,[]⟩).memory :=
 laidMetH_of_parts3 (fuel:=8) (laidMet_of_run' 8 (by kernel_rfl) (by kernel_rfl)) (by kernel_rfl) (by kernel_rfl)
end Go.Proofs.YtebokaoegomboaaGreatDoor
namespace Go
namespace Rt
open Go.RowKit Go.Shelf Go.Sort Go.Proofs Go.Lib
section
variable{P:Program}{E:TE}{z:Fz}{g:Ga}{w w' w0:World}{Bs:List Nat}{F0:Nat->Prop}
theorem splice_nil(cs:List Value)(o:Nat):splice cs o []=cs:=by
 simp[splice]
theorem splice_cons(cs:List Value)(o:Nat)(v:Value)(vs:List Value)(h:o<cs.length):splice (cs.set o v) (o+1) vs=splice cs o (v::vs):=by
 unfold splice;rw[List.take_set,List.take_succ_eq_append_getElem h,List.drop_set_of_lt (by omega),List.set_append_right _ _ (by rw[List.length_take];omega),List.length_take,Nat.min_eq_left (by omega)];simp;rw[show o+1+vs.length=o+(vs.length+1)by omega]
theorem setCell_heap{b o:Nat}{e:TypeId}{cs:List Value}{v:Value}(h:w.heap[b]? = some (.cells cs.toArray e (0,0))):(w.setCell ⟨b,o,none⟩ v).heap[b]? = some (.cells (cs.set o v).toArray e (0,0)):=by
 unfold World.setCell;simp only[Array.getElem?_modify,if_true,h,Option.map_some,Option.isSome_none,Bool.false_eq_true,if_false];simp
theorem setCell_else{b o k:Nat}{v:Value}(h:k≠b):(w.setCell ⟨b,o,none⟩ v).heap[k]? = w.heap[k]? := by
 unfold World.setCell;simp only[Array.getElem?_modify];rw[if_neg λ e=>h e.symm]
theorem setCell_grow{b o:Nat}{v:Value}:Grow w (w.setCell ⟨b,o,none⟩ v):=⟨rfl,rfl,rfl,by simp[World.setCell]⟩
theorem fA_{b:Nat}{e:TypeId}:∀(vs:List Value) (o:Nat) (cs:List Value) (w:World),w.heap[b]? = some (.cells cs.toArray e (0,0))->o+vs.length<=cs.length->(w.setCells b o vs).heap[b]? = some (.cells (splice cs o vs).toArray e (0,0))/\Grow w (w.setCells b o vs)/\∀k,k≠b->(w.setCells b o vs).heap[k]? = w.heap[k]?
 | [],o,cs,w,h,hl=>⟨by rw[splice_nil];exact h,Grow.refl w,λ _ _=>rfl⟩
 | v::vs,o,cs,w,h,hl=>by
  simp only[qLc]at hl;obtain⟨h1,h2,h3⟩:=fA_ vs (o+1) (cs.set o v) (w.setCell ⟨b,o,none⟩ v) (setCell_heap h) (by simp;omega);rw[splice_cons _ _ _ _ (by omega)]at h1;exact⟨h1,setCell_grow.trans h2,λ k hk=>(h3 k hk).trans (setCell_else hk)⟩
def IV(xs:List Int):List Value:=xs.map (Value.int .i64)
theorem bq_(xs:List Int):(IV xs).length=xs.length:=by simp[IV]
theorem mJ_{xs:List Int}:∀v∈IV xs,v.oneCell'=true:=λ v hv=>by
 obtain⟨x,_,rfl⟩:=List.mem_map.1 hv;rfl
def RowI(w:World)(e:TypeId)(xs:List Int)(A:Option Addr)(cap:Nat):Prop:=(A=none/\cap=0/\xs=[])\/∃b cs,A=some ⟨b,0,none⟩/\w.heap[b]? = some (.cells (cs:List Value).toArray e (0,0))/\xs.length<=cap/\cap<=maxLen/\cs.length=cap/\cs.take xs.length=IV xs
theorem rows_IV{xs:List Int}{rows:List (List Value)}(h:Rows E z (.int .i64) xs rows)(hl:rows.length=xs.length):rows.flatten=IV xs:=by
 have:rows=xs.map λ x=>[Value.int .i64 x]:=by
  apply List.ext_getElem?;intro i;rw[List.getElem?_map];rcases Nat.lt_or_ge i xs.length with hi|hi
  .have hx:=List.getElem?_eq_getElem hi;have hr:=List.getElem?_eq_getElem (show i<rows.length by omega);obtain⟨vs,h1,h2⟩:=RD.int_inv (show RD E z [.int .i64] (xs[i],()) rows[i]from h i _ _ hx hr);rw[hr,hx,h1,h2.nil_inv];rfl
  .rw[List.getElem?_eq_none (by omega),List.getElem?_eq_none hi];rfl
 rw[this];clear this h hl
 induction xs with
 | nil=>rfl
 | cons x xs ih=>simp only[List.map_cons,List.flatten_cons,ih];rfl
theorem rowI_of{id:Nat}{e:TypeId}{xs:List Int}(h:ObjR P E z g w id (.row e (.int .i64) xs [])):∃l,g id=some l/\l.n=xs.length/\RowI w e xs l.A l.cap:=by
 obtain⟨l,rows,h1,hn,hc,hown,hlen,hrl,hrows,_⟩:=h;have hc1:l.c=1:=hc;rw[hc1,rows_IV hrows (by omega)]at hown;refine⟨l,h1,hn,?_⟩;obtain⟨_,h2⟩:=hown;rcases h2 with⟨h2,h3⟩|⟨b,cap,cur,hv,_,hh,hnc,hcm,hcs,htk⟩
 .injection h2 with e1 e2 e3;exact .inl ⟨e1,e3,List.length_eq_zero_iff.1 (by omega)⟩
 .injection hv with e1 _ e3;subst e3;exact .inr ⟨b,cur.toList,e1,by simpa using hh,by omega,hcm,by simpa using hcs,by rw[Nat.mul_one,hn]at htk;exact htk⟩
theorem rowI_mk{id:Nat}{e:TypeId}{xs:List Int}{A:Option Addr}{cap:Nat}(h:RowI w e xs A cap)(hg:g id=some ⟨A,xs.length,cap,1,0,0⟩):ObjR P E z g w id (.row e (.int .i64) xs []):=by
 have hfl:(xs.map λ x=>[Value.int .i64 x]).flatten=IV xs:=by
  clear h hg
  induction xs with
  | nil=>rfl
  | cons x xs ih=>simp only[List.map_cons,List.flatten_cons,ih];rfl
 refine⟨_,xs.map λ x=>[Value.int .i64 x],hg,rfl,rfl,?_,by simp,λ r hr => ?_,λ i x r hx hr => ?_,λ p hp=>nomatch hp⟩
 .rw[hfl];refine⟨by simp[bq_],?_⟩;rcases h with⟨rfl,rfl,rfl⟩|⟨b,cs,rfl,hh,h1,h2,h3,h4⟩
  .exact .inl ⟨rfl,rfl⟩
  .exact .inr ⟨b,cap,cs.toArray,rfl,Nat.zero_le _,hh,h1,h2,by simpa using h3,by rw[Nat.mul_one];exact h4⟩
 .obtain⟨x,_,rfl⟩:=List.mem_map.1 hr;rfl
 .rw[List.getElem?_map]at hr;rw[hx]at hr;obtain rfl:=qSj hr;exact RD.int .nil
theorem RowI.cell{e:TypeId}{xs:List Int}{b cap:Nat}(h:RowI w e xs (some ⟨b,0,none⟩) cap){j:Nat}{v:Value}(hj:(IV xs)[j]? = some v):w.cell? ⟨b,0+j,none⟩=some v:=by
 rcases h with⟨h,_⟩|⟨b',cs,h0,hh,h1,h2,h3,h4⟩
 .cases h
 .injection h0 with h0;injection h0 with h0;subst h0;rw[Nat.zero_add,cell_of_row w b j _ e (0,0) hh];rw[←h4,List.getElem?_take]at hj;split at hj
  .simpa using hj
  .cases hj
theorem HR.rowI{e:TypeId}{xs zs:List Int}{i i':Nat}{H H':Nat->Option (Obj E)}{A A':Option Addr}{cap':Nat}{l:Loc}(h:HR P E Bs F0 w0 w z g H)(hi:H i=some (.row e (.int .i64) xs []))(hl:g i=some l)(hA:l.A=A)(hn:g i'=none)
  (hb:Grow w w') (hk:∀k,k<w.heap.size->¬cB_ A k->w'.heap[k]? = w.heap[k]?) (hr:RowI w' e zs A' cap') (hf:∀k,cB_ A' k->cB_ A k\/w.heap.size<=k)
  (hH:∀j o,H' j=some o->j=i'/\o = .row e (.int .i64) zs []):HR P E Bs F0 w0 w' z (g.put i' ⟨A',zs.length,cap',1,0,0⟩) H':=by
 refine h.turn (Ga.le_put hn) (i:=i) (i':=i') (C:=cB_ A) (λ q ⟨a,ha,hq⟩=>⟨_,hi,l,a,hl,hA.trans ha,hq⟩) hb hk (o' := .row e (.int .i64) zs []) (rowI_mk hr (Ga.put_self _ _ _)) (λ q hq => ?_) λ j p hj => .inl (hH j p hj)
 obtain⟨l2,a2,h5,h6,rfl⟩:=hq;rw[Ga.put_self]at h5;obtain rfl:=qSj h5;exact hf _ ⟨a2,h6,rfl⟩
theorem tv_(k:Nat):(Builtin.zeroCells (Value.int .i64 0).cells k).size=k:=by simp[Builtin.zeroCells,Value.cells]
theorem tw_{e:TypeId}{xs:List Int}{Z:Array Value}{G:Nat}(h1:xs.length+Z.size=G)(h2:G<=maxLen):RowI (w.drew.alloc (.cells ((IV xs).toArray++Z) e)) e xs (some ⟨w.heap.size,0,none⟩) G :=
 .inr ⟨w.heap.size,IV xs++Z.toList,rfl,by refine(MapKept.heap_alloc w.drew _).1.trans ?_;congr 3;apply Array.ext';simp,by omega,h2,by simp[bq_];exact h1,by rw[List.take_append_of_le_length (by rw[bq_];exact Nat.le_refl _),List.take_of_length_le (by rw[bq_];exact Nat.le_refl _)]⟩
theorem tx_(o:Go.Obj):Grow w (w.drew.alloc o):=(show Grow w w.drew from⟨rfl,rfl,rfl,Nat.le_refl _⟩).trans (Grow.of_below (Ext.one w.drew _).below)
theorem insert_run{ρ:Ren}(L:Lays2.n21 P ρ){xs ys:List Int}{A:Option Addr}{cap vb vc:Nat}{i:Nat}(hx:RowI w (ρ.t 3) xs A cap)(hy:RowI w (ρ.t 3) ys (some ⟨vb,0,none⟩) vc)(hm:0<ys.length)(hi:i<=xs.length)(hbig:(xs.length+ys.length)*8<=140737488355328)(hap:¬cB_ A vb) :
  Ret P (ρ.f 21) #[.slice A xs.length cap,.int .i64 (i:Int),.slice (some ⟨vb,0,none⟩) ys.length vc] w λ v w'=>∃A' cap',v = .slice A' (xs.take i++(ys++xs.drop i)).length cap'/\RowI w' (ρ.t 3) (xs.take i++(ys++xs.drop i)) A' cap'/\Grow w w'/\(∀k,k<w.heap.size->¬cB_ A k->w'.heap[k]? = w.heap[k]?)/\∀k,cB_ A' k->cB_ A k\/w.heap.size<=k:=by
 have hlen:(xs.take i++(ys++xs.drop i)).length=xs.length+ys.length:=by simp;omega
 have hyc:=λ j v (h:(IV ys)[j]? = some v)=>hy.cell h
 have hml:xs.length+ys.length<=maxLen:=by unfold maxLen;omega
 rcases hx with⟨rfl,rfl,rfl⟩|⟨b,cs,rfl,hh,h1,h2,h3,h4⟩
 .obtain rfl:i=0:=by simpa using hi
  have:=Any2.slices_Insert_int_end_grow L none 0 0 vb 0 ys.length vc [] (IV ys) w hm (Nat.le_refl _) (by omega) (by simpa using hbig) rfl (bq_ _) (λ _=>rfl) (λ _ h=>nomatch h) hyc mJ_;refine Calls.mono this λ e w' ⟨he,hw⟩=>⟨_,he,some ⟨w.heap.size,0,none⟩,grownCap w (0+ys.length) 0 (ρ.t 3),by rw[hlen];rfl,?_,?_,λ k hk _ => ?_,λ k ⟨a,ha,hk⟩ => ?_⟩
  .subst hw;have:=grownCap_ge w (0+ys.length) 0 (ρ.t 3);rw[show([]:List Int).take 0++(ys++([]:List Int).drop 0)=ys by simp];refine tw_ (xs:=ys) ?_ (grownCap_le_maxLen _ _ _ _ (show 0+ys.length<=maxLen by rw[Nat.zero_add];simpa using hml));rw[tv_]
   revert this;generalize grownCap w (0+ys.length) 0 (ρ.t 3)=G;omega
  .subst hw;exact tx_ _
  .subst hw;exact(MapKept.heap_alloc w.drew _).2 k hk
  .obtain rfl:=qSj ha;exact .inr (by subst hk;exact Nat.le_refl _)
 .have hbw:b<w.heap.size:=by
   rcases Nat.lt_or_ge b w.heap.size with h'|h'
   .exact h'
   .rw[Array.getElem?_eq_none h']at hh;cases hh
  have hxc:∀j v,(IV xs)[j]? = some v->w.cell? ⟨b,0+j,none⟩=some v:=λ j v h=>RowI.cell (.inr ⟨b,cs,rfl,hh,h1,h2,h3,h4⟩) h
  have hvb:vb≠b:=λ h=>hap ⟨_,rfl,h⟩
  have hsome:∀j,j<cap->(w.cell? ⟨b,0+j,none⟩).isSome=true:=λ j hj=>by
   rw[Nat.zero_add,cell_of_row w b j _ _ (0,0) hh];simp;omega
  have hfz:∀j,w.frozen? ⟨b,j,none⟩=false:=λ j=>by unfold World.frozen?;simp only[hh];simp
  have hkk:∀{w':World},(∀k,k≠b->w'.heap[k]? = w.heap[k]?)->∀k,k<w.heap.size->¬cB_ (some ⟨b,0,none⟩) k->w'.heap[k]? = w.heap[k]? := λ h k _ hk=>h k λ e=>hk ⟨_,rfl,e⟩
  have hcap63:cap<=9223372036854775807:=by unfold maxLen at h2;omega
  have hcs:cs=IV xs++cs.drop xs.length:=by rw[←h4,List.take_append_drop]
  rcases Nat.lt_or_ge i xs.length with hlt|hge
  .rcases Nat.lt_or_ge cap (xs.length+ys.length)with hroom|hroom
   .have:=Any2.slices_Insert_int_grow L b 0 xs.length cap i vb 0 ys.length vc (IV xs) (IV ys) w hlt hm h1 hroom hbig (bq_ _) (bq_ _) hxc hyc mJ_ mJ_;obtain⟨G,hG⟩:∃G,G=grownCap w (xs.length+ys.length) cap (ρ.t 3):=⟨_,rfl⟩;have hGn:xs.length+ys.length<=G:=by rw[hG];exact grownCap_ge w _ _ _
    have hGm:G<=maxLen:=by rw[hG];exact grownCap_le_maxLen _ _ _ _ hml
    rw[←hG]at this;obtain⟨row,hrow⟩:∃row:List Value,row.toArray=((IV xs).take i).toArray++Builtin.zeroCells (Value.int .i64 0).cells (xs.length+ys.length-i)++Builtin.zeroCells (Value.int .i64 0).cells (G-(xs.length+ys.length)):=⟨_,Array.toArray_toList⟩;have hrl:row.length=G:=by
     have:=congrArg Array.size hrow;simp[Builtin.zeroCells,Value.cells,bq_]at this;omega
    have hrt:row.take i=(IV xs).take i:=by
     have:=congrArg Array.toList hrow;simp only[Array.toList_append,List.append_assoc]at this;rw[this,List.take_append_of_le_length (by simp[bq_];omega),List.take_of_length_le (by rw[List.length_take];omega)]
    rw[←hrow]at this;refine Calls.mono this λ e w' ⟨he,hw⟩ => ?_
    have a1:=MapKept.heap_alloc w (.cells row.toArray (ρ.t 3));obtain⟨a2,a3,a4⟩:=fA_ (b:=w.heap.size) (e:=ρ.t 3) (IV ys) i row ((w.alloc (.cells row.toArray (ρ.t 3))).drew) a1.1 (by rw[bq_,hrl];omega);obtain⟨a5,a6,a7⟩:=fA_ (b:=w.heap.size) (e:=ρ.t 3) ((IV xs).drop i) (i+ys.length) _ (((w.alloc (.cells row.toArray (ρ.t 3))).drew.setCells w.heap.size i (IV ys)).drew) a2 (by simp[splice,bq_,hrl];omega);rw[←hw]at a5 a6 a7;refine⟨_,he,some ⟨w.heap.size,0,none⟩,G,by rw[hlen],.inr ⟨w.heap.size,_,rfl,a5,by rw[hlen];exact hGn,hGm,?_,?_⟩,?_,λ k hk _ => ?_,λ k ⟨a,ha,hk⟩ => ?_⟩
    .simp[splice,bq_,hrl];omega
    .rw[hlen];simp only[splice,hrt,bq_,List.length_drop];have e1:((IV xs).take i++IV ys++row.drop (i+ys.length)).take (i+ys.length)=(IV xs).take i++IV ys:=by
      rw[List.take_append_of_le_length (by simp[bq_];omega),List.take_of_length_le (by simp[bq_];omega)]
     rw[e1,List.take_append_of_le_length (by simp[bq_];omega),List.take_of_length_le (by simp[bq_];omega)];simp[IV]
    .exact(Grow.of_below (Ext.one w _).below).trans ((show Grow (w.alloc _) (w.alloc _).drew from⟨rfl,rfl,rfl,Nat.le_refl _⟩).trans (a3.trans ((show Grow (World.setCells _ _ _ _) (World.setCells _ _ _ _).drew from⟨rfl,rfl,rfl,Nat.le_refl _⟩).trans a6)))
    .have hne:k≠w.heap.size:=by omega
     exact(a7 k hne).trans ((a4 k hne).trans (a1.2 k hk))
    .obtain rfl:=qSj ha;exact .inr (by subst hk;exact Nat.le_refl _)
   .have hy':=hy;rcases hy' with⟨h,_⟩|⟨vb',vs,e0,hvh,v1,v2,v3,v4⟩
    .cases h
    .injection e0 with e0;injection e0 with e0;subst e0;have hsh:∀{q:Nat} {l:List Value},w.heap[q]? = some (.cells l.toArray (ρ.t 3) (0,0))->w.shape? q=some (ρ.t 3,l.length):=λ h=>by unfold World.shape?;simp[h]
     have hfz2:∀j,w.frozen? ⟨vb,j,none⟩=false:=λ j=>by unfold World.frozen?;simp only[hvh];simp
     have:=Any2.slices_Insert_int_shift L b 0 xs.length cap i vb 0 ys.length vc (IV xs) (IV ys) w hlt hm hroom hcap63 hvb (bq_ _) (bq_ _) hxc (λ j hj=>hsome j (by omega)) (λ j _=>hfz _) hyc mJ_ mJ_ _ _ _ _ (hsh hvh) (hsh hh) (by omega) (hfz2 _) (hfz2 _);refine Calls.mono this λ e w' ⟨he,hw⟩ => ?_
     obtain⟨a2,a3,a4⟩:=fA_ (b:=b) (e:=ρ.t 3) ((IV xs).drop i) (0+(i+ys.length)) cs w.drew hh (by simp[bq_];omega);obtain⟨a5,a6,a7⟩:=fA_ (b:=b) (e:=ρ.t 3) (IV ys) (0+i) _ _ a2 (by simp[splice,bq_];omega);rw[←hw]at a5 a6 a7;refine⟨_,he,some ⟨b,0,none⟩,cap,by rw[hlen],.inr ⟨b,_,rfl,a5,by rw[hlen];exact hroom,h2,?_,?_⟩,?_,hkk λ k hk => ?_,λ k hk => .inl hk⟩
     .simp[splice,bq_];omega
     .rw[hlen];simp only[splice,bq_,Nat.zero_add,List.length_drop];have e0:∀(l:List Value),((cs.take (i+ys.length))++l).take i=(IV xs).take i:=λ l=>by
       rw[List.take_append_of_le_length (by simp;omega),List.take_take,Nat.min_eq_left (by omega),←h4,List.take_take,Nat.min_eq_left (by omega)]
      have e2:((cs.take (i+ys.length))++(IV xs).drop i++cs.drop (i+ys.length+(xs.length-i))).drop (i+ys.length)=(IV xs).drop i++cs.drop (i+ys.length+(xs.length-i)):=by
       rw[List.append_assoc];exact List.drop_left' (by simp;omega)
      rw[e2,List.append_assoc (cs.take _),e0,List.append_assoc,←List.append_assoc (IV ys),←List.append_assoc,List.take_append_of_le_length (by simp[bq_];omega),List.take_of_length_le (by simp[bq_];omega)];simp[IV]
     .exact(show Grow w w.drew from⟨rfl,rfl,rfl,Nat.le_refl _⟩).trans (a3.trans a6)
     .exact(a7 k hk).trans (a4 k hk)
  .obtain rfl:i=xs.length:=by omega
   rcases Nat.lt_or_ge cap (xs.length+ys.length)with hroom|hroom
   .have:=Any2.slices_Insert_int_end_grow L (some ⟨b,0,none⟩) xs.length cap vb 0 ys.length vc (IV xs) (IV ys) w hm h1 hroom hbig (bq_ _) (bq_ _) (λ h=>nomatch h) (λ a ha j v hj=>by obtain rfl:=qSj ha;rw[Addr.add_lit];exact hxc j v hj) hyc mJ_;obtain⟨G,hG⟩:∃G,G=grownCap w (xs.length+ys.length) cap (ρ.t 3):=⟨_,rfl⟩;have hGn:xs.length+ys.length<=G:=by rw[hG];exact grownCap_ge w _ _ _
    have hGm:G<=maxLen:=by rw[hG];exact grownCap_le_maxLen _ _ _ _ hml
    rw[←hG]at this;have e0:IV xs++IV ys=IV (xs++ys):=by simp[IV]
    have e1:xs.take xs.length++(ys++xs.drop xs.length)=xs++ys:=by simp
    rw[e0]at this;rw[e1];refine Calls.mono this λ e w' ⟨he,hw⟩=>⟨_,he,some ⟨w.heap.size,0,none⟩,G,by rw[qLa],?_,?_,λ k hk _ => ?_,λ k ⟨a,ha,hk⟩ => ?_⟩
    .subst hw;exact tw_ (by rw[tv_,qLa];omega) hGm
    .subst hw;exact tx_ _
    .subst hw;exact(MapKept.heap_alloc w.drew _).2 k hk
    .obtain rfl:=qSj ha;exact .inr (by subst hk;exact Nat.le_refl _)
   .have:=Any2.slices_Insert_int_end_room L b 0 xs.length cap vb 0 ys.length vc (IV ys) w hm hroom hcap63 (bq_ _) (λ j hj=>by rw[Nat.add_assoc];exact hsome _ (by omega)) (λ j _=>hfz _) hyc mJ_;refine Calls.mono this λ e w' ⟨he,hw⟩ => ?_
    obtain⟨a2,a3,a4⟩:=fA_ (b:=b) (e:=ρ.t 3) (IV ys) (0+xs.length) cs w hh (by simp[bq_];omega);rw[←hw]at a2 a3 a4;refine⟨_,he,some ⟨b,0,none⟩,cap,by rw[hlen],.inr ⟨b,_,rfl,a2,by rw[hlen];exact hroom,h2,?_,?_⟩,a3,hkk a4,λ k hk => .inl hk⟩
    .simp[splice,bq_];omega
    .rw[hlen];simp only[splice,Nat.zero_add];rw[List.take_append_of_le_length (by simp[bq_];omega),List.take_of_length_le (by simp only[qLa,List.length_take,bq_];omega),h4];simp[IV]
theorem insN_some{α:Type}{by_:Nat}{xs ys zs:List α}{i:Int}(h:insN by_ xs i ys=some zs):0<ys.length/\0<=i/\i<=(xs.length:Int)/\(xs.length+ys.length)*by_<=140737488355328/\zs=xs.take i.toNat++(ys++xs.drop i.toNat):=by
 cases ys with
 | nil=>cases h
 | cons y l =>
  simp only[insN]at h;split at h
  .rename_i hc;obtain rfl:=qSj h;exact⟨Nat.succ_pos _,hc.1,hc.2.1,hc.2.2,rfl⟩
  .cases h
theorem delN_some{α:Type}{xs zs:List α}{i j:Int}(h:delN xs i j=some zs):xs≠[]/\0<=i/\i<=j/\j<=(xs.length:Int)/\zs=xs.take i.toNat++xs.drop j.toNat:=by
 cases xs with
 | nil=>cases h
 | cons x l =>
  simp only[delN,delI]at h;split at h
  .rename_i hc;obtain rfl:=qSj h;exact⟨(λ e=>nomatch e),hc.1,hc.2.1,hc.2.2,rfl⟩
  .cases h
def conIns(E:TE)(e:TypeId):Con E:=aj_ E [.g (.sl (.int .i64)) [some e],.d (.int .i64),.g (.sl (.int .i64)) [some e]] [(.sl (.int .i64),[some e])] false λ a=>insN (α:=Int) 8 a.1 a.2.1 a.2.2.1
theorem conIns_ok{ρ:Ren}(L:Lays2.n21 P ρ):Con.OK P E (ρ.f 21) (conIns E (ρ.t 3)):=by
 intro R a k r hr;obtain⟨y,h1,h2⟩:=bind_some hr;refine⟨_,_,h2,?_⟩;obtain⟨xs,i,ys,u⟩:=a;obtain⟨hm,hi0,hi1,hbig,rfl⟩:=insN_some (show insN 8 xs i ys=some y from h1);intro w z g Bs svs vs hav hH hfr hv;obtain rfl:=qSj (show some [V1.one (.own 0),.one (.dt (.int .i64) i),.one (.own 1)]=some svs from hav);cases hv with
 | cons v1 hv=>cases hv with
  | cons v2 hv=>cases hv with
   | cons v3 hv =>
    cases hv
    have hx:=hH.hold 0 (.row (ρ.t 3) (.int .i64) xs []) rfl;have hy:=hH.hold 1 (.row (ρ.t 3) (.int .i64) ys []) rfl;obtain⟨l0,g0,n0,r0⟩:=rowI_of hx;obtain⟨l1,g1,n1,r1⟩:=rowI_of hy;obtain⟨l0',e0,rfl⟩:=v1;rw[g0]at e0;obtain rfl:=qSj e0;obtain⟨l1',e1,rfl⟩:=v3;rw[g1]at e1;obtain rfl:=qSj e1;obtain⟨vs2,e2,_⟩:=RD.int_inv (show RD E z [.int .i64] (i,()) _ from v2);obtain⟨rfl,_⟩:=List.cons.inj e2;rcases r1 with⟨_,_,rfl⟩|r1'
    .cases hm
    .have r1'':=r1';obtain⟨vb,cs,hA1,_⟩:=r1'';have hap:¬cB_ l0.A vb:=fun⟨a0,ha0,hb0⟩=>hH.apart 0 1 _ _ vb (by decide) rfl rfl ⟨l0,a0,g0,ha0,hb0⟩ ⟨l1,_,g1,hA1,rfl⟩
     have hrun:=insert_run L r0 (by rw[←hA1];exact .inr r1') hm (i:=i.toNat) (by omega) hbig hap;rw[n0,n1,hA1];rw[Int.toNat_of_nonneg hi0]at hrun;refine hrun.mono λ v w' ⟨A',cap',hv',hr',hg',hk',hf'⟩ => ?_
     subst hv';refine⟨z,g.put 2 ⟨A',_,cap',1,0,0⟩,[.one (.own 2)],Fz.Le.refl z,λ _=>rfl,Ga.le_put (hfr 2 (Nat.le_refl _)),rfl,⟨_,Ga.put_self _ _ _,rfl⟩,?_⟩;refine hH.rowI (i:=0) (xs:=xs) rfl g0 rfl (hfr 2 (Nat.le_refl _)) hg' hk' hr' hf' λ j o hj => ?_
     rcases b2_ (H:=λ _=>none) (i:=2) (p := .row (ρ.t 3) (.int .i64) (xs.take i.toNat++(ys++xs.drop i.toNat)) []) hj with h|⟨_,h⟩
     .exact h
     .cases h
theorem mapBlock_row{b:Nat}{e:TypeId}{cs:Array Value}{f:Array Value->Array Value}(h:w.heap[b]? = some (.cells cs e (0,0))):(mapBlock w b f).heap[b]? = some (.cells (f cs) e (0,0))/\Grow w (mapBlock w b f)/\∀k,k≠b->(mapBlock w b f).heap[k]? = w.heap[k]? := by
 refine⟨?_,⟨rfl,rfl,rfl,by simp[mapBlock]⟩,λ k hk => ?_⟩
 .unfold mapBlock;simp only[Array.getElem?_modify,if_true,h,Option.map_some,onCells]
 .unfold mapBlock;simp only[Array.getElem?_modify];rw[if_neg λ e=>hk e.symm]
theorem delete_run{ρ:Ren}(L:Lays2.n23 P ρ){xs:List Int}{A:Option Addr}{cap:Nat}{i j:Nat}(hx:RowI w (ρ.t 3) xs A cap)(hne:xs≠[])(hij:i<=j)(hj:j<=xs.length) :
  Ret P (ρ.f 23) #[.slice A xs.length cap,.int .i64 (i:Int),.int .i64 (j:Int)] w λ v w'=>∃A' cap',v = .slice A' (xs.take i++xs.drop j).length cap'/\RowI w' (ρ.t 3) (xs.take i++xs.drop j) A' cap'/\Grow w w'/\(∀k,k<w.heap.size->¬cB_ A k->w'.heap[k]? = w.heap[k]?)/\∀k,cB_ A' k->cB_ A k\/w.heap.size<=k:=by
 rcases hx with⟨_,_,h⟩|⟨b,cs,rfl,hh,h1,h2,h3,h4⟩
 .exact absurd h hne
 .have hlen:(xs.take i++xs.drop j).length=xs.length-(j-i):=by simp;omega
  have hH:Holds (Value.int .i64) w b 0 xs.toArray:=λ q hq=>by
   have hq':q<xs.length:=by simpa using hq
   refine⟨?_,by unfold World.frozen?;simp only[hh];simp⟩;refine RowI.cell (xs:=xs) (.inr ⟨b,cs,rfl,hh,h1,h2,h3,h4⟩) ?_;rw[IV,List.getElem?_map,List.getElem?_eq_getElem hq',getElem!_pos xs.toArray q hq];simp
  have:=Any.slices_Delete_int L b 0 cap i j xs w hH h1 (by unfold maxLen at h2;omega) hij hj;refine Calls.mono this λ e w' ⟨he,q,hw⟩ => ?_
  obtain⟨d,hd⟩:∃d:Array Int,d=(xs.take i++xs.drop j++List.replicate (j-i) 0).toArray:=⟨_,rfl⟩;rw[←hd]at hw;obtain⟨m1,m2,m3⟩:=mapBlock_row (w:=Go.Sort.ahead w q) (f:=putCells (Value.int .i64) 0 d) hh;rw[show mapBlock (Go.Sort.ahead w q) b (putCells (Value.int .i64) 0 d)=w' from hw.symm]at m1 m2 m3;subst hd;refine⟨_,he,some ⟨b,0,none⟩,cap,by rw[hlen],.inr ⟨b,_,rfl,by rw[Array.toArray_toList];exact m1,by rw[hlen];omega,h2,by simp[putCells,h3],?_⟩,⟨m2.os,m2.tape,m2.output,m2.size⟩,λ k _ hk=>(m3 k λ e=>hk ⟨_,rfl,e⟩),λ k hk => .inl hk⟩;rw[hlen]
  apply List.ext_getElem?;intro t;rw[List.getElem?_take];split
  .rename_i ht;simp only[putCells,Array.toList_mapIdx,List.getElem?_mapIdx];have htc:t<cs.length:=by omega
   rw[List.getElem?_eq_getElem htc];have hsz:t<(xs.take i++xs.drop j++List.replicate (j-i) 0).toArray.size:=by simp;omega
   have hge:∀(d:Array Int) (h:t<d.size),d[t]! = d[t]:=λ d h=>getElem!_pos d t h
   rw[Option.map_some,if_pos ⟨Nat.zero_le _,by rw[Nat.zero_add];exact hsz⟩,Nat.sub_zero,hge _ hsz,IV,List.getElem?_map,List.getElem?_eq_getElem (by omega)];simp only[List.getElem_toArray,Option.map_some];rw[List.getElem_append_left (by omega)]
  .rw[List.getElem?_eq_none (by rw[bq_,hlen];omega)]
def conDel(E:TE)(e:TypeId):Con E:=aj_ E [.g (.sl (.int .i64)) [some e],.d (.int .i64),.d (.int .i64)] [(.sl (.int .i64),[some e])] false λ a=>delN (α:=Int) a.1 a.2.1 a.2.2.1
theorem conDel_ok{ρ:Ren}(L:Lays2.n23 P ρ):Con.OK P E (ρ.f 23) (conDel E (ρ.t 3)):=by
 intro R a k r hr;obtain⟨y,h1,h2⟩:=bind_some hr;refine⟨_,_,h2,?_⟩;obtain⟨xs,i,j,u⟩:=a;obtain⟨hne,hi0,hij,hj,rfl⟩:=delN_some (show delN xs i j=some y from h1);intro w z g Bs svs vs hav hH hfr hv;obtain rfl:=qSj (show some [V1.one (.own 0),.one (.dt (.int .i64) i),.one (.dt (.int .i64) j)]=some svs from hav);cases hv with
 | cons v1 hv=>cases hv with
  | cons v2 hv=>cases hv with
   | cons v3 hv =>
    cases hv
    have hx:=hH.hold 0 (.row (ρ.t 3) (.int .i64) xs []) rfl;obtain⟨l0,g0,n0,r0⟩:=rowI_of hx;obtain⟨l0',e0,rfl⟩:=v1;rw[g0]at e0;obtain rfl:=qSj e0;obtain⟨vs2,e2,_⟩:=RD.int_inv (show RD E z [.int .i64] (i,()) _ from v2);obtain⟨rfl,_⟩:=List.cons.inj e2;obtain⟨vs3,e3,_⟩:=RD.int_inv (show RD E z [.int .i64] (j,()) _ from v3);obtain⟨rfl,_⟩:=List.cons.inj e3;have hrun:=delete_run L r0 hne (i:=i.toNat) (j:=j.toNat) (by omega) (by omega);rw[Int.toNat_of_nonneg hi0,Int.toNat_of_nonneg (by omega)]at hrun;rw[n0];refine hrun.mono λ v w' ⟨A',cap',hv',hr',hg',hk',hf'⟩ => ?_
    subst hv';refine⟨z,g.put 1 ⟨A',_,cap',1,0,0⟩,[.one (.own 1)],Fz.Le.refl z,λ _=>rfl,Ga.le_put (hfr 1 (Nat.le_refl _)),rfl,⟨_,Ga.put_self _ _ _,rfl⟩,?_⟩;refine hH.rowI (i:=0) (xs:=xs) rfl g0 rfl (hfr 1 (Nat.le_refl _)) hg' hk' hr' hf' λ j' o hj' => ?_
    rcases b2_ (H:=λ _=>none) (i:=1) (p := .row (ρ.t 3) (.int .i64) (xs.take i.toNat++xs.drop j.toNat) []) hj' with h|⟨_,h⟩
    .exact h
    .cases h
end
end Rt
end Go
namespace Go.Proofs
open Go.Shelf
def Tryz.laysDelete_ren:Go.Shelf.Ren:=⟨λ | 23=>269|n=>n,λ | 22=>27 | 3=>3 | 4=>4 | 0=>0|n=>n,fun|n=>n⟩
theorem Tryz.laysDelete:Go.Proofs.Lays2.n23 Tryz.prog Tryz.laysDelete_ren:={
 mixed:=by kernel_rfl
 f23:=Tryz.func269.trans (congrArg some (by kernel_rfl))
 t0:=Tryz.underlying0
 a0:=Tryz.isAgg0
 z0:=Tryz.sizeOf0
 v0:=Tryz.zeroValue0
 t3:=Tryz.underlying3
 a3:=Tryz.isAgg3
 z3:=Tryz.sizeOf3
 v3:=Tryz.zeroValue3
 t4:=Tryz.underlying4
 a4:=Tryz.isAgg4
 z4:=Tryz.sizeOf4
 v4:=Tryz.zeroValue4
 t22:=Tryz.underlying27
 a22:=Tryz.isAgg27
 z22:=Tryz.sizeOf27
 v22:=Tryz.zeroValue27
 i3:=by kernel_rfl }
end Go.Proofs
namespace Go.Proofs.YtebokaoegomboaaGreatDoor
open Go.Shelf Go.RowKit Go.Rt
theorem fDelete:Tryz.laysDelete_ren.f 23=269:=by kernel_rfl
theorem tDelete:Tryz.laysDelete_ren.t 3=3:=by kernel_rfl
def rr_:Con te:=conDel te 3
theorem pc_:Con.OK Tryz.prog te 269 rr_/\dy_ Tryz.prog 269=true:=by
 refine⟨?_,by kernel_rfl⟩;have h:=conDel_ok (E:=te) Tryz.laysDelete;rw[fDelete,tDelete]at h;exact h
end Go.Proofs.YtebokaoegomboaaGreatDoor
namespace Go.Proofs
open Go.Shelf
def Tryz.laysFormatInt_ren:Go.Shelf.Ren:=⟨λ | 173=>133 | 246=>196 | 283=>265 | 284=>266 | 285=>267 | 286=>268 | 129=>320 | 317=>321 | 318=>322 | 319=>323 | 320=>324 | 337=>352 | 338=>353|n=>n,λ | 2=>2 | 3=>3 | 9=>9 | 4=>4 | 171=>266 | 0=>0 | 53=>267 | 37=>235 | 5=>5 | 173=>270 | 212=>308 | 51=>306 | 20=>20 | 213=>309 | 46=>265 | 232=>350 | 233=>351|n=>n,λ | 17=>0 | 18=>1 | 19=>2|n=>n⟩
theorem Tryz.laysFormatInt:Go.Proofs.LaysM.n173 Tryz.prog Tryz.laysFormatInt_ren:={
 mixed:=by kernel_rfl
 f129:=Tryz.func320.trans (congrArg some (by kernel_rfl))
 f173:=Tryz.func133.trans (congrArg some (by kernel_rfl))
 f246:=Tryz.func196.trans (congrArg some (by kernel_rfl))
 f283:=Tryz.func265.trans (congrArg some (by kernel_rfl))
 f284:=Tryz.func266.trans (congrArg some (by kernel_rfl))
 f285:=Tryz.func267.trans (congrArg some (by kernel_rfl))
 f286:=Tryz.func268.trans (congrArg some (by kernel_rfl))
 f317:=Tryz.func321.trans (congrArg some (by kernel_rfl))
 f318:=Tryz.func322.trans (congrArg some (by kernel_rfl))
 f319:=Tryz.func323.trans (congrArg some (by kernel_rfl))
 f320:=Tryz.func324.trans (congrArg some (by kernel_rfl))
 f337:=Tryz.func352.trans (congrArg some (by kernel_rfl))
 f338:=Tryz.func353.trans (congrArg some (by kernel_rfl))
 t0:=Tryz.underlying0
 a0:=Tryz.isAgg0
 z0:=Tryz.sizeOf0
 v0:=Tryz.zeroValue0
 t2:=Tryz.underlying2
 a2:=Tryz.isAgg2
 z2:=Tryz.sizeOf2
 v2:=Tryz.zeroValue2
 t3:=Tryz.underlying3
 a3:=Tryz.isAgg3
 z3:=Tryz.sizeOf3
 v3:=Tryz.zeroValue3
 t4:=Tryz.underlying4
 a4:=Tryz.isAgg4
 z4:=Tryz.sizeOf4
 v4:=Tryz.zeroValue4
 t5:=Tryz.underlying5
 a5:=Tryz.isAgg5
 z5:=Tryz.sizeOf5
 v5:=Tryz.zeroValue5
 t9:=Tryz.underlying9
 a9:=Tryz.isAgg9
 z9:=Tryz.sizeOf9
 v9:=Tryz.zeroValue9
 t20:=Tryz.underlying20
 a20:=Tryz.isAgg20
 z20:=Tryz.sizeOf20
 v20:=Tryz.zeroValue20
 t37:=Tryz.underlying235
 a37:=Tryz.isAgg235
 z37:=Tryz.sizeOf235
 v37:=Tryz.zeroValue235
 t46:=Tryz.underlying265
 a46:=Tryz.isAgg265
 z46:=Tryz.sizeOf265
 v46:=Tryz.zeroValue265
 t51:=Tryz.underlying306
 a51:=Tryz.isAgg306
 z51:=Tryz.sizeOf306
 v51:=Tryz.zeroValue306
 t53:=Tryz.underlying267
 a53:=Tryz.isAgg267
 z53:=Tryz.sizeOf267
 v53:=Tryz.zeroValue267
 t171:=Tryz.underlying266
 a171:=Tryz.isAgg266
 z171:=Tryz.sizeOf266
 v171:=Tryz.zeroValue266
 t173:=Tryz.underlying270
 a173:=Tryz.isAgg270
 z173:=Tryz.sizeOf270
 v173:=Tryz.zeroValue270
 t212:=Tryz.underlying308
 a212:=Tryz.isAgg308
 z212:=Tryz.sizeOf308
 v212:=Tryz.zeroValue308
 t213:=Tryz.underlying309
 a213:=Tryz.isAgg309
 z213:=Tryz.sizeOf309
 t232:=Tryz.underlying350
 a232:=Tryz.isAgg350
 z232:=Tryz.sizeOf350
 v232:=Tryz.zeroValue350
 t233:=Tryz.underlying351
 a233:=Tryz.isAgg351
 z233:=Tryz.sizeOf351
 v233:=Tryz.zeroValue351
 g17:=by kernel_rfl
 g18:=by kernel_rfl
 g19:=by kernel_rfl
 i0:=by kernel_rfl
 i2:=by kernel_rfl
 i3:=by kernel_rfl
 i4:=by kernel_rfl
 i5:=by kernel_rfl
 i9:=by kernel_rfl
 i20:=by kernel_rfl
 i37:=by kernel_rfl
 i46:=by kernel_rfl
 i51:=by kernel_rfl
 i53:=by kernel_rfl
 i171:=by kernel_rfl
 i173:=by kernel_rfl
 i212:=by kernel_rfl
 i232:=by kernel_rfl
 i233:=by kernel_rfl
 m17:=by kernel_rfl
 m18:=by kernel_rfl
 m19:=by kernel_rfl }
end Go.Proofs
namespace Go.Proofs.YtebokaoegomboaaGreatDoor
open Go.Shelf Go.RowKit Go.Rt
theorem fFormatInt:Tryz.laysFormatInt_ren.f 173=133:=by kernel_rfl
theorem digF_eq:∀(f u:Nat),u<10^(f+1)->digF (f+1) u=Lib.decDigits u
 | 0,u,h=>by
  have h1:u<10:=by simpa using h
  rw[Lib.decDigits,dif_pos h1];unfold digF;rw[if_pos h1]
 | f+1,u,h=>by
  rw[Lib.decDigits,digF];by_cases h1:u<10
  .rw[if_pos h1,dif_pos h1]
  .rw[if_neg h1,dif_neg h1,digF_eq f (u/10) (by rw[Nat.pow_succ]at h;omega)]
theorem pow10_in {w : World} {z : Fz} (hz : z.In w) (hg : Glo te z) : Lib.TabIs Tryz.prog w "internal/strconv.uint64pow10" .u64 Lib.pow10Tab := by
 obtain⟨hF,r,hr,_,e,c,hh⟩:=hg 0 globPT globP rfl;obtain⟨v1,e1,hr⟩:=RD.int_inv hr;obtain⟨v2,e2,hr⟩:=RD.int_inv hr;obtain⟨v3,e3,hr⟩:=RD.int_inv hr;obtain⟨v4,e4,hr⟩:=RD.int_inv hr;obtain⟨v5,e5,hr⟩:=RD.int_inv hr;obtain⟨v6,e6,hr⟩:=RD.int_inv hr;obtain⟨v7,e7,hr⟩:=RD.int_inv hr;obtain⟨v8,e8,hr⟩:=RD.int_inv hr;obtain⟨v9,e9,hr⟩:=RD.int_inv hr;obtain⟨v10,e10,hr⟩:=RD.int_inv hr;obtain⟨v11,e11,hr⟩:=RD.int_inv hr;obtain⟨v12,e12,hr⟩:=RD.int_inv hr;obtain⟨v13,e13,hr⟩:=RD.int_inv hr;obtain⟨v14,e14,hr⟩:=RD.int_inv hr;obtain⟨v15,e15,hr⟩:=RD.int_inv hr;obtain⟨v16,e16,hr⟩:=RD.int_inv hr;obtain⟨v17,e17,hr⟩:=RD.int_inv hr
 obtain⟨v18,e18,hr⟩:=RD.int_inv hr;obtain⟨v19,e19,hr⟩:=RD.int_inv hr;obtain⟨v20,e20,hr⟩:=RD.int_inv hr;have e21:=hr.nil_inv;subst e21 e20 e19 e18 e17 e16 e15 e14 e13 e12 e11 e10 e9 e8 e7 e6 e5 e4 e3 e2 e1;have hw:=(hz _ hF).2.trans hh;unfold Lib.TabIs World.var?
 have hn : (Tryz.prog).globalNamed "internal/strconv.uint64pow10" = some 0 := by kernel_rfl
 rw[hn];simp only[qBs,hw];have ht:Lib.pow10Tab=[1,10,100,1000,10000,100000,1000000,10000000,100000000,1000000000,10000000000,100000000000,1000000000000,10000000000000,100000000000000,1000000000000000,10000000000000000,100000000000000000,1000000000000000000,10000000000000000000]:=by decide +kernel
 rw[ht];rfl
theorem pM_(x0 x1:Int)(r:Str)(hF:fg_ x0 x1=some r)(w0:World)(z:Fz)(hz:z.In w0)(hg:Glo te z):Ret Tryz.prog 133 #[.int .i64 x0,.int .i64 x1] w0 λ v w=>v=S r/\Ext w0 w:=by
 unfold fg_ at hF;split at hF
 .rename_i h;obtain⟨rfl,h1,h2⟩:=h;obtain rfl:=qSj hF;have hh:=Any.strconv_FormatInt_10 Tryz.laysFormatInt x0 (by omega) h2 w0 (pow10_in hz hg);rw[fFormatInt]at hh;refine Calls.mono hh λ e w ⟨he,k,os,hb⟩=>⟨_,he,?_,⟨os,(w0.drewN k).drawn,hb⟩⟩
  rw[digF_eq 19 _ (by omega)];unfold Lib.itoa;rw[if_neg (by omega)];rfl
 .cases hF
def ob_:Con te:=aj_ te [.d (.int .i64),.d (.int .i64)] [(.str,[])] false λ a=>fg_ a.1 a.2.1
theorem mK_:Con.OK Tryz.prog te 133 ob_/\dy_ Tryz.prog 133=true:=by
 refine⟨λ R a k r hr => ?_,by kernel_rfl⟩;obtain⟨y,h1,h2⟩:=bind_some hr;exact⟨_,_,h2,qi_ (y:=y) rfl rfl rfl rfl rfl λ w z hz hg=>pM_ a.1 a.2.1 y h1 w z hz hg⟩
end Go.Proofs.YtebokaoegomboaaGreatDoor
namespace Go.Proofs
open Go.Shelf
def Tryz.laysInsert_ren:Go.Shelf.Ren:=⟨λ | 21=>245 | 27=>302 | 28=>303 | 35=>338 | 39=>361|n=>n,λ | 22=>27 | 3=>3 | 4=>4 | 0=>0|n=>n,fun|n=>n⟩
theorem Tryz.laysInsert:Go.Proofs.Lays2.n21 Tryz.prog Tryz.laysInsert_ren:={
 mixed:=by kernel_rfl
 f21:=Tryz.func245.trans (congrArg some (by kernel_rfl))
 f27:=Tryz.func302.trans (congrArg some (by kernel_rfl))
 f28:=Tryz.func303.trans (congrArg some (by kernel_rfl))
 f35:=Tryz.func338.trans (congrArg some (by kernel_rfl))
 f39:=Tryz.func361.trans (congrArg some (by kernel_rfl))
 t0:=Tryz.underlying0
 a0:=Tryz.isAgg0
 z0:=Tryz.sizeOf0
 v0:=Tryz.zeroValue0
 t3:=Tryz.underlying3
 a3:=Tryz.isAgg3
 z3:=Tryz.sizeOf3
 v3:=Tryz.zeroValue3
 t4:=Tryz.underlying4
 a4:=Tryz.isAgg4
 z4:=Tryz.sizeOf4
 v4:=Tryz.zeroValue4
 t22:=Tryz.underlying27
 a22:=Tryz.isAgg27
 z22:=Tryz.sizeOf27
 v22:=Tryz.zeroValue27
 i3:=by kernel_rfl }
end Go.Proofs
namespace Go.Proofs.YtebokaoegomboaaGreatDoor
open Go.Shelf Go.RowKit Go.Rt
theorem fInsert:Tryz.laysInsert_ren.f 21=245:=by kernel_rfl
theorem tInsert:Tryz.laysInsert_ren.t 3=3:=by kernel_rfl
def rs_:Con te:=conIns te 3
theorem pd_:Con.OK Tryz.prog te 245 rs_/\dy_ Tryz.prog 245=true:=by
 refine⟨?_,by kernel_rfl⟩;have h:=conIns_ok (E:=te) Tryz.laysInsert;rw[fInsert,tInsert]at h;exact h
end Go.Proofs.YtebokaoegomboaaGreatDoor
namespace Go.Proofs
open Go.Shelf
def Tryz.laysRepeat_ren:Go.Shelf.Ren:=⟨λ | 105=>304 | 212=>339 | 99=>340 | 165=>341 | 166=>342 | 170=>343 | 169=>344 | 263=>362 | 264=>363 | 206=>364 | 240=>365 | 241=>366 | 276=>371 | 277=>372|n=>n,λ | 9=>9 | 3=>3 | 4=>4 | 20=>20 | 0=>0 | 46=>265 | 109=>318 | 5=>5 | 72=>323 | 76=>327 | 51=>306 | 146=>343 | 53=>267 | 148=>345 | 70=>321 | 37=>235 | 75=>326 | 127=>347 | 164=>355 | 80=>256|n=>n,fun|n=>n⟩
theorem Tryz.laysRepeat:Go.Proofs.Lays.n105 Tryz.prog Tryz.laysRepeat_ren:={
 mixed:=by kernel_rfl
 f99:=Tryz.func340.trans (congrArg some (by kernel_rfl))
 f105:=Tryz.func304.trans (congrArg some (by kernel_rfl))
 f165:=Tryz.func341.trans (congrArg some (by kernel_rfl))
 f166:=Tryz.func342.trans (congrArg some (by kernel_rfl))
 f169:=Tryz.func344.trans (congrArg some (by kernel_rfl))
 f170:=Tryz.func343.trans (congrArg some (by kernel_rfl))
 f206:=Tryz.func364.trans (congrArg some (by kernel_rfl))
 f212:=Tryz.func339.trans (congrArg some (by kernel_rfl))
 f240:=Tryz.func365.trans (congrArg some (by kernel_rfl))
 f241:=Tryz.func366.trans (congrArg some (by kernel_rfl))
 f263:=Tryz.func362.trans (congrArg some (by kernel_rfl))
 f264:=Tryz.func363.trans (congrArg some (by kernel_rfl))
 f276:=Tryz.func371.trans (congrArg some (by kernel_rfl))
 f277:=Tryz.func372.trans (congrArg some (by kernel_rfl))
 t0:=Tryz.underlying0
 a0:=Tryz.isAgg0
 z0:=Tryz.sizeOf0
 v0:=Tryz.zeroValue0
 t3:=Tryz.underlying3
 a3:=Tryz.isAgg3
 z3:=Tryz.sizeOf3
 v3:=Tryz.zeroValue3
 t4:=Tryz.underlying4
 a4:=Tryz.isAgg4
 z4:=Tryz.sizeOf4
 v4:=Tryz.zeroValue4
 t5:=Tryz.underlying5
 a5:=Tryz.isAgg5
 z5:=Tryz.sizeOf5
 v5:=Tryz.zeroValue5
 t9:=Tryz.underlying9
 a9:=Tryz.isAgg9
 z9:=Tryz.sizeOf9
 v9:=Tryz.zeroValue9
 t20:=Tryz.underlying20
 a20:=Tryz.isAgg20
 z20:=Tryz.sizeOf20
 v20:=Tryz.zeroValue20
 t37:=Tryz.underlying235
 a37:=Tryz.isAgg235
 z37:=Tryz.sizeOf235
 v37:=Tryz.zeroValue235
 t46:=Tryz.underlying265
 a46:=Tryz.isAgg265
 z46:=Tryz.sizeOf265
 v46:=Tryz.zeroValue265
 t51:=Tryz.underlying306
 a51:=Tryz.isAgg306
 z51:=Tryz.sizeOf306
 v51:=Tryz.zeroValue306
 t53:=Tryz.underlying267
 a53:=Tryz.isAgg267
 z53:=Tryz.sizeOf267
 v53:=Tryz.zeroValue267
 t70:=Tryz.underlying321
 a70:=Tryz.isAgg321
 z70:=Tryz.sizeOf321
 v70:=Tryz.zeroValue321
 t72:=Tryz.underlying323
 a72:=Tryz.isAgg323
 z72:=Tryz.sizeOf323
 v72:=Tryz.zeroValue323
 t75:=Tryz.underlying326
 a75:=Tryz.isAgg326
 z75:=Tryz.sizeOf326
 v75:=Tryz.zeroValue326
 t76:=Tryz.underlying327
 a76:=Tryz.isAgg327
 z76:=Tryz.sizeOf327
 v76:=Tryz.zeroValue327
 t109:=Tryz.underlying318
 a109:=Tryz.isAgg318
 z109:=Tryz.sizeOf318
 v109:=Tryz.zeroValue318
 t127:=Tryz.underlying347
 a127:=Tryz.isAgg347
 z127:=Tryz.sizeOf347
 v127:=Tryz.zeroValue347
 t146:=Tryz.underlying343
 a146:=Tryz.isAgg343
 z146:=Tryz.sizeOf343
 v146:=Tryz.zeroValue343
 t148:=Tryz.underlying345
 a148:=Tryz.isAgg345
 z148:=Tryz.sizeOf345
 v148:=Tryz.zeroValue345
 t164:=Tryz.underlying355
 a164:=Tryz.isAgg355
 z164:=Tryz.sizeOf355
 v164:=Tryz.zeroValue355 }
end Go.Proofs
namespace Go.Proofs.YtebokaoegomboaaGreatDoor
open Go.Shelf Go.RowKit Go.Rt
theorem Tryz.extraRepeat:Builder.Extra Tryz.prog Tryz.laysRepeat_ren where
 sizeBuilder:=by kernel_rfl
 liesBuilder:=by kernel_rfl
 t5:=Tryz.laysRepeat.t5
 a5:=Tryz.laysRepeat.a5
 z5:=Tryz.laysRepeat.z5
 v5:=Tryz.laysRepeat.v5
 infoByte:=by kernel_rfl
 cellsByte:=by kernel_rfl
 sizeByte:=by kernel_rfl
 neB5:=by decide
theorem fRepeat:Tryz.laysRepeat_ren.f 105=304:=by kernel_rfl
theorem ty_(l:List UInt8):∀c,Lib.repeatL l c=(List.replicate c l).flatten
 | 0=>rfl
 | c+1=>by rw[Lib.repeatL,ty_ l c,List.replicate_succ,List.flatten_cons]
theorem sj_(x0:Str)(x1:Int)(r:Str)(hF:strings_Repeat x0 x1=some r)(w0:World):Ret Tryz.prog 304 #[S x0,.int .i64 x1] w0 λ v w=>v=S r/\Ext w0 w:=by
 unfold strings_Repeat at hF;split at hF
 .rename_i h;obtain⟨h0,h1,h2⟩:=h;simp only[qOi]at hF;subst hF;obtain⟨c,rfl⟩:∃c:Nat,x1=(c:Int):=⟨x1.toNat,by omega⟩;have hh:=Any.strings_Repeat Tryz.laysRepeat Tryz.extraRepeat ⟨x0.toArray⟩ c w0 (by omega) (by rw[size_mk];simpa using h2);rw[fRepeat]at hh;refine Calls.mono hh λ e w ⟨he,hb⟩=>⟨_,he,?_,Ext.of_below hb⟩
  simp[S,ty_]
 .cases hF
def qo_:Con te:=aj_ te [.d .str,.d (.int .i64)] [(.str,[])] false λ a=>strings_Repeat a.1 a.2.1
theorem oc_:Con.OK Tryz.prog te 304 qo_/\dy_ Tryz.prog 304=true:=by
 refine⟨λ R a k r hr => ?_,by kernel_rfl⟩;obtain⟨y,h1,h2⟩:=bind_some hr;exact⟨_,_,h2,callOK_flat (y:=y) rfl rfl rfl rfl rfl λ w=>sj_ a.1 a.2.1 y h1 w⟩
end Go.Proofs.YtebokaoegomboaaGreatDoor
namespace Go.Proofs
open Go.Shelf
def Tryz.laysBString_ren:Go.Shelf.Ren:=⟨λ | 169=>344|n=>n,λ | 70=>321 | 9=>9 | 0=>0 | 72=>323 | 37=>235 | 127=>347 | 3=>3 | 5=>5|n=>n,fun|n=>n⟩
theorem Tryz.laysBString:Go.Proofs.Lays.n169 Tryz.prog Tryz.laysBString_ren:={
 mixed:=by kernel_rfl
 f169:=Tryz.func344.trans (congrArg some (by kernel_rfl))
 t0:=Tryz.underlying0
 a0:=Tryz.isAgg0
 z0:=Tryz.sizeOf0
 v0:=Tryz.zeroValue0
 t3:=Tryz.underlying3
 a3:=Tryz.isAgg3
 z3:=Tryz.sizeOf3
 v3:=Tryz.zeroValue3
 t9:=Tryz.underlying9
 a9:=Tryz.isAgg9
 z9:=Tryz.sizeOf9
 v9:=Tryz.zeroValue9
 t37:=Tryz.underlying235
 a37:=Tryz.isAgg235
 z37:=Tryz.sizeOf235
 v37:=Tryz.zeroValue235
 t70:=Tryz.underlying321
 a70:=Tryz.isAgg321
 z70:=Tryz.sizeOf321
 v70:=Tryz.zeroValue321
 t72:=Tryz.underlying323
 a72:=Tryz.isAgg323
 z72:=Tryz.sizeOf323
 v72:=Tryz.zeroValue323
 t127:=Tryz.underlying347
 a127:=Tryz.isAgg347
 z127:=Tryz.sizeOf347
 v127:=Tryz.zeroValue347 }
end Go.Proofs
