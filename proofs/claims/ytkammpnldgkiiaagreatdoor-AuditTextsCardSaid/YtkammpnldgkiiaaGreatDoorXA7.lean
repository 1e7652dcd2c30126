/-
 What the statements of this seat hang on,part 7: Te Ch ShCt LCt ShFi LFi LGa LGb ShGr LGr ShIb LIb ShIx LIx ShSb LSb K1 K2 K3 K4 K5 K6 K7 K8 K9 K10 K11 K12.
-/
import Derived.Test.YtkammpnldgkiiaaGreatDoorXA6
import Derived.Test.YtkammpnldgkiiaaGreatDoorProg
import Derived.KernelRfl
import Derived.Test.YtkammpnldgkiiaaGreatDoorRows
import Derived.LaidMore
import Derived.LaidSub
import Derived.Lib.LaidTab
import Derived.Stop.Joined
import Derived.Lay
import Derived.MakeChecks
import Derived.Shelf.Strings.Count
import Derived.Ground.NamesProg
import Derived.Lib.Agree
import Derived.Shelf.Strconv.Itoa4
import Derived.Shelf.Strings.Builder2
import Derived.Shelf.Strings.Search1
import Derived.Shelf.Strings.Search2
import Derived.Shelf.Strings.Builder1
namespace Go.Proofs.YtkammpnldgkiiaaGreatDoor
open Go.Rt Go.RowKit
noncomputable section
def teS:Nat->Type | 0=>Xm | 1=>Wg | 2=>Vn | 3=>Zt | 4=>Xi | 5=>Xo | 6=>Jj | 7=>Wb | 8=>Jh | 9=>Zm | 10=>Jq | 11=>Qk | 12=>Jg | 13=>We | 14=>Jf | 15=>Qt | 16=>Zi | 17=>Qn | 18=>Uu | 19=>Zy | 20=>Vg | 21=>Vm | 22=>Zz | 23=>Jm | 24=>Zp | 25=>Xr | 26=>Yy | 27=>Qp | 28=>Yh | 29=>Ys | 30=>Jp | 31=>Yg | 32=>Xu | 33=>Jb | 34=>Yj | 35=>Xv | 36=>Yp | 37=>Xs | 38=>Yi | 39=>Xj | 40=>Yu | 41=>Yo | 42=>Wt | 43=>Xx | 44=>Wm | 45=>Wn | 46=>Yz | 47=>Uz | 48=>Va | 49=>Vk | 50=>Xn | 51=>Xg | 52=>Wp | 53=>Vy | 54=>Xd | 55=>Qu | 56=>Yb | 57=>Yc | 58=>Yd | 59=>Xq | 60=>Xl | 61=>Wx | 62=>Wv | 63=>Xk | 64=>Vj | 65=>Xy | 66=>Qg|_=>Int
def teCs:Nat->List Ty | 0=>[.int .i64,.int .i64,.int .i64] | 1=>[.str,.str,.sl .str] | 2=>[.str,.int .i64,.int .i64] | 3=>[.int .i64,.int .i64,.int .i64,.str,.int .i64,.str,.str,.str,.int .i64,.int .i64,.str] | 4=>[.int .i64,.sl (.st 3)] | 5=>[.sl (.st 1),.sl (.st 2),.int .i64,.sl (.st 3),.sl (.int .i64)] | 6=>[.str,.int .i64,.str] | 7=>[.int .i64,.sl (.st 6)] | 8=>[.int .i64,.str] | 9=>[.sl (.st 1),.sl (.st 2),.int .i64,.sl (.st 3),.sl (.int .i64),.int .i64,.sl (.st 6),.sl (.st 8)] | 10=>[.str,.int .i64,.int .i64,.bool] | 11=>[.str,.int .i64,.int .i64,.bool,.str,.int .i64,.int .i64,.bool] | 12=>[.int .i64,.str,.int .i64,.int .i64,.bool,.str,.int .i64,.int .i64,.bool] | 13=>[.int .i64,.sl (.st 12)] | 14=>[.bool,.str,.sl .str] | 15=>[.int .i64,.str,.bool,.str,.sl .str,.str,.int .i64,.bool] | 16=>[.int .i64,.int .i64,.sl (.st 15)] | 17=>[.str,.str,.str] | 18=>[.sl (.st 17)] | 19=>[.str,.str,.bool] | 20=>[.str,.str,.str,.str,.sl (.st 19),.str] | 21=>[.str,.sl (.st 20),.int .i64] | 22=>[.sl (.st 18),.sl (.st 21)] | 23=>[.int .i64,.str,.int .i64,.int .i64,.int .i64,.sl (.st 19),.str,.str,.str,.int .i64] | 24=>[.str,.str,.sl (.sl (.st 19)),.int .i64,.sl (.st 23),.int .i64] | 25=>[.int .i64,.sl (.st 1),.sl (.st 2),.int .i64,.sl (.st 3),.sl (.int .i64),.sl (.st 1),.sl (.st 2),.int .i64,.sl (.st 3),.sl (.int .i64),.int .i64,.sl (.st 6),.sl (.st 8),.int .i64,.sl (.st 12),.int .i64,.int .i64,.sl (.st 15),.sl (.st 18),.sl (.st 21),.str,.str,.sl (.sl (.st 19)),.int .i64,.sl (.st 23),.int .i64,.str,.int .i64,.int .i64] | 26=>[.sl (.st 19)] | 27=>[.str,.str,.str] | 28=>[.int .i64,.str,.str,.int .i64,.str,.str,.str,.str,.str,.str,.int .i64,.str,.sl (.int .i64),.int .i64] | 29=>[.sl (.st 26),.int .i64,.sl (.st 28)] | 30=>[.int .i64,.str] | 31=>[.int .i64,.int .i64,.int .i64,.str,.str,.int .i64,.int .i64,.int .i64,.str,.sl .str,.str,.sl (.st 30),.bool] | 32=>[.int .i64,.int .i64,.sl (.st 31)] | 33=>[.int .i64,.str,.sl .str] | 34=>[.int .i64,.int .i64,.sl (.st 33)] | 35=>[.int .i64,.sl (.st 25),.sl (.st 26),.int .i64,.sl (.st 28),.int .i64,.int .i64,.sl (.st 31),.sl (.st 34)] | 36=>[.int .i64,.int .i64,.str,.bool,.bool,.int .i64,.int .i64] | 37=>[.int .i64,.int .i64,.int .i64] | 38=>[.int .i64,.int .i64,.int .i64,.int .i64,.int .i64,.int .i64,.int .i64,.int .i64,.int .i64,.str,.str,.str,.str] | 39=>[.int .i64,.int .i64,.int .i64,.int .i64,.int .i64,.int .i64,.int .i64,.str,.str,.str,.sl .str,.sl (.st 37),.int .i64,.int .i64,.int .i64,.int .i64,.int .i64,.int .i64,.str,.int .i64,.int .i64,.str,.int .i64,.int .i64,.int .i64,.int .i64,.int .i64,.int .i64,.int .i64,.int .i64,.int .i64,.str,.str,.str,.str,.int .i64,.int .i64,.int .i64,.str] | 40=>[.int .i64,.bool,.int .i64,.str,.sl (.st 36),.sl (.st 39)] | 41=>[.int .i64,.int .i64,.int .i64,.int .i64] | 42=>[.str,.sl (.st 36),.int .i64] | 43=>[.int .i64,.int .i64,.bool,.int .i64,.int .i64,.sl (.st 40),.sl (.st 41),.sl (.st 42)] | 44=>[.bool,.int .i64,.str,.str,.int .i64] | 45=>[.int .i64,.int .i64,.int .i64,.int .i64,.int .i64,.int .i64,.int .i64,.str,.str,.str,.sl .str,.sl (.st 37),.int .i64,.int .i64,.int .i64,.int .i64,.int .i64,.int .i64,.str,.int .i64,.int .i64,.str,.int .i64,.int .i64,.int .i64,.int .i64,.int .i64,.int .i64,.int .i64,.int .i64,.int .i64,.str,.str,.str,.str,.int .i64,.int .i64,.int .i64,.str,.int .i64] | 46=>[.bool,.int .i64,.str,.sl (.int .i64),.sl (.st 45),.str] | 47=>[.int .i64,.int .i64,.int .i64,.str] | 48=>[.int .i64,.int .i64,.int .i64] | 49=>[.int .i64,.sl (.st 47),.sl (.st 48)] | 50=>[.int .i64,.int .i64,.bool,.int .i64,.str,.str,.int .i64,.bool,.int .i64,.str,.sl (.int .i64),.sl (.st 45),.str,.int .i64,.sl (.st 47),.sl (.st 48),.str,.int .i64] | 51=>[.int .i64,.int .i64,.int .i64,.str,.str] | 52=>[.int .i64,.int .i64,.int .i64,.str,.str,.bool] | 53=>[.int .i64,.int .i64,.int .i64,.str,.str,.sl (.st 52)] | 54=>[.int .i64,.int .i64,.int .i64,.int .i64,.str,.str,.sl (.st 53)] | 55=>[.int .i64,.int .i64,.int .i64,.int .i64,.str,.str,.int .i64,.int .i64,.int .i64] | 56=>[.int .i64,.sl (.st 55)] | 57=>[.int .i64] | 58=>[.int .i64,.int .i64,.sl (.st 57)] | 59=>[.int .i64,.sl (.st 25),.sl (.st 26),.int .i64,.sl (.st 28),.int .i64,.int .i64,.sl (.st 31),.sl (.st 34),.sl (.st 43),.sl (.st 50),.sl (.st 54),.sl (.st 56),.sl (.st 58),.sl (.st 57),.int .i64] | 60=>[.int .i64,.sl (.st 25),.sl (.st 26),.int .i64,.sl (.st 28),.int .i64,.int .i64,.sl (.st 31),.sl (.st 34),.sl (.st 43),.int .i64,.int .i64,.bool,.int .i64,.str,.str,.int .i64,.bool,.int .i64,.str,.sl (.int .i64),.sl (.st 45),.str,.int .i64,.sl (.st 47),.sl (.st 48),.str,.int .i64] | 61=>[.str,.int .i64] | 62=>[.str,.bool] | 63=>[.int .i64,.int .i64,.int .i64,.int .i64,.int .i64,.int .i64,.int .i64,.int .i64,.str,.str,.str,.sl .str,.sl (.st 37),.int .i64,.int .i64,.int .i64,.int .i64,.int .i64,.int .i64,.str,.int .i64,.int .i64,.str,.int .i64,.int .i64,.int .i64,.int .i64,.int .i64,.int .i64,.int .i64,.int .i64,.int .i64,.str,.str,.str,.str,.int .i64,.int .i64,.int .i64,.str] | 64=>[.int .i64,.int .i64,.str,.str] | 65=>[.int .i64,.str] | 66=>[.int .u64,.int .u64,.int .u64,.int .u64,.int .u64,.int .u64,.int .u64,.int .u64,.int .u64,.int .u64,.int .u64,.int .u64,.int .u64,.int .u64,.int .u64,.int .u64,.int .u64,.int .u64,.int .u64,.int .u64]|_=>[.int .i64]
set_option maxHeartbeats 8000000 in
def teUn:(n:Nat)->teS n->HL teS (teCs n) | 0,d=>(d.Xw,d.A_,d.B_,()) | 1,d=>(d.Xh,d.Ue,d.Uq,()) | 2,d=>(d.Yn,d.Ya,d.Qj,()) | 3,d=>(d.Id_,d.Yx,d.Yw,d.Xh,d.Xe,d.Wc,d.Wd,d.Zu,d.Zv,d.Zh,d.Ye,()) | 4,d=>(d.Xp,d.Zo,()) | 5,d=>(d.Uv,d.Vf,d.Vp.Xp,d.Vp.Zo,d.Ul,()) | 6,d=>(d.Jy,d.Xw,d.Ye,()) | 7,d=>(d.Wr,d.Wa,()) | 8,d=>(d.Jc,d.Jy,()) | 9,d=>(d.Ya.Uv,d.Ya.Vf,d.Ya.Vp.Xp,d.Ya.Vp.Zo,d.Ya.Ul,d.Um.Wr,d.Um.Wa,d.Uw,()) | 10,d=>(d.Ye,d.Un,d.Ub,d.Qd,()) | 11,d=>(d.a0_.Ye,d.a0_.Un,d.a0_.Ub,d.a0_.Qd,d.a1_.Ye,d.a1_.Un,d.a1_.Ub,d.a1_.Qd,()) | 12,d=>(d.Id_,d.Us.a0_.Ye,d.Us.a0_.Un,d.Us.a0_.Ub,d.Us.a0_.Qd,d.Us.a1_.Ye,d.Us.a1_.Un,d.Us.a1_.Ub,d.Us.a1_.Qd,()) | 13,d=>(d.Xp,d.L_,()) | 14,d=>(d.Kk,d.Jk,d.Jo,()) | 15,d=>(d.Id_,d.Kv,d.Jd.Kk,d.Jd.Jk,d.Jd.Jo,d.Jk,d.Uy,d.Km,()) | 16,d=>(d.Xp,d.Ql,d.L_,()) | 17,d=>(d.Kq,d.Kn,d.Kd,()) | 18,d=>(d.Kw,()) | 19,d=>(d.Xh,d.Ui,d.Qs,()) | 20,d=>(d.Kr,d.Kt,d.Kl,d.Xa,d.Uo,d.Ye,()) | 21,d=>(d.Xh,d.Qa,d.Uy,()) | 22,d=>(d.Qe,d.Uc,()) | 23,d=>(d.Id_,d.Ky,d.Kp,d.Kh,d.Kb,d.Ks,d.Ka,d.Jr,d.Yn,d.Wo,()) | 24,d=>(d.Ud,d.Jv,d.Qz,d.Xp,d.Qv,d.Zf,()) | 25,d=>(d.Xw,d.Ya.Uv,d.Ya.Vf,d.Ya.Vp.Xp,d.Ya.Vp.Zo,d.Ya.Ul,d.Vc.Ya.Uv,d.Vc.Ya.Vf,d.Vc.Ya.Vp.Xp,d.Vc.Ya.Vp.Zo,d.Vc.Ya.Ul,d.Vc.Um.Wr,d.Vc.Um.Wa,d.Vc.Uw,d.Qw.Xp,d.Qw.L_,d.Ur.Xp,d.Ur.Ql,d.Ur.L_,d.Ut.Qe,d.Ut.Uc,d.Uh.Ud,d.Uh.Jv,d.Uh.Qz,d.Uh.Xp,d.Uh.Qv,d.Uh.Zf,d.Uf,d.Zq,d.Qf,()) | 26,d=>(d.Uo,()) | 27,d=>(d.Yf,d.Uf,d.Qb,()) | 28,d=>(d.Id_,d.Uf,d.Ud,d.Qy,d.Jn.Yf,d.Jn.Uf,d.Jn.Qb,d.Jx.Yf,d.Jx.Uf,d.Jx.Qb,d.Jr,d.Ye,d.Ju,d.Uy,()) | 29,d=>(d.Db_,d.Xp,d.Zb,()) | 30,d=>(d.Id_,d.Qm,()) | 31,d=>(d.Id_,d.Yx,d.Qy,d.Yn,d.Xh,d.Ns_,d.Jt,d.Jl,d.Js,d.Qi,d.Qm,d.Ym,d.Kg,()) | 32,d=>(d.Xp,d.Zq,d.L_,()) | 33,d=>(d.Id_,d.Xh,d.Kx,()) | 34,d=>(d.Id_,d.Xp,d.Qo,()) | 35,d=>(d.Vx,d.Yt,d.Yf.Db_,d.Yf.Xp,d.Yf.Zb,d.Xt.Xp,d.Xt.Zq,d.Xt.L_,d.Wf,()) | 36,d=>(d.Vs,d.Id_,d.Yn,d.Vd,d.Ja,d.Xe,d.Xp,()) | 37,d=>(d.Xa,d.Yw,d.Yq,()) | 38,d=>(d.Xa,d.Yr,d.Xb.Xa,d.Xb.Yw,d.Xb.Yq,d.Xe,d.Zv,d.Zh,d.Zg,d.Xh,d.Wc,d.Wd,d.Zu,()) | 39,d=>(d.Xw,d.Ww,d.Zl,d.Zs,d.Zx,d.Zn,d.Xc,d.Zj,d.Yn,d.Zd,d.Wk,d.Wi,d.Xb.Xa,d.Xb.Yw,d.Xb.Yq,d.Za,d.Xe,d.Vz,d.Xh,d.Zk,d.Zf,d.Ye,d.Xz.Xa,d.Xz.Yr,d.Xz.Xb.Xa,d.Xz.Xb.Yw,d.Xz.Xb.Yq,d.Xz.Xe,d.Xz.Zv,d.Xz.Zh,d.Xz.Zg,d.Xz.Xh,d.Xz.Wc,d.Xz.Wd,d.Xz.Zu,d.Wo,d.Wh,d.Vq,d.Xf,()) | 40,d=>(d.Id_,d.Up_,d.Xc,d.Xf,d.Yk,d.Ym,()) | 41,d=>(d.Vv,d.Id_,d.Xw,d.Vr,()) | 42,d=>(d.Xh,d.Yk,d.Vr,()) | 43,d=>(d.Yr,d.Vd,d.Vt,d.Xp,d.Ug,d.Vw,d.Vi,d.Qq,()) | 44,d=>(d.Up_,d.Wr,d.Wz,d.Wq,d.Vo,()) | 45,d=>(d.Zr.Xw,d.Zr.Ww,d.Zr.Zl,d.Zr.Zs,d.Zr.Zx,d.Zr.Zn,d.Zr.Xc,d.Zr.Zj,d.Zr.Yn,d.Zr.Zd,d.Zr.Wk,d.Zr.Wi,d.Zr.Xb.Xa,d.Zr.Xb.Yw,d.Zr.Xb.Yq,d.Zr.Za,d.Zr.Xe,d.Zr.Vz,d.Zr.Xh,d.Zr.Zk,d.Zr.Zf,d.Zr.Ye,d.Zr.Xz.Xa,d.Zr.Xz.Yr,d.Zr.Xz.Xb.Xa,d.Zr.Xz.Xb.Yw,d.Zr.Xz.Xb.Yq,d.Zr.Xz.Xe,d.Zr.Xz.Zv,d.Zr.Xz.Zh,d.Zr.Xz.Zg,d.Zr.Xz.Xh,d.Zr.Xz.Wc,d.Zr.Xz.Wd,d.Zr.Xz.Zu,d.Zr.Wo,d.Zr.Wh,d.Zr.Vq,d.Zr.Xf,d.Kf,()) | 46,d=>(d.Up_,d.Xc,d.Xf,d.Yk,d.Ws,d.Wu,()) | 47,d=>(d.Id_,d.Yw,d.At_,d.Ye,()) | 48,d=>(d.Id_,d.Yw,d.Vr,()) | 49,d=>(d.Wr,d.Wa,d.Ve,()) | 50,d=>(d.Ze,d.Vv,d.Zw.Up_,d.Zw.Wr,d.Zw.Wz,d.Zw.Wq,d.Zw.Vo,d.Yv.Up_,d.Yv.Xc,d.Yv.Xf,d.Yv.Yk,d.Yv.Ws,d.Yv.Wu,d.Zc.Wr,d.Zc.Wa,d.Zc.Ve,d.Yn,d.Wj,()) | 51,d=>(d.Yr,d.Id_,d.Zl,d.Yq,d.Xh,()) | 52,d=>(d.Vb.Yr,d.Vb.Id_,d.Vb.Zl,d.Vb.Yq,d.Vb.Xh,d.Kj,()) | 53,d=>(d.Uj.Yr,d.Uj.Id_,d.Uj.Zl,d.Uj.Yq,d.Uj.Xh,d.To_,()) | 54,d=>(d.Id_,d.Wj.Yr,d.Wj.Id_,d.Wj.Zl,d.Wj.Yq,d.Wj.Xh,d.Vl,()) | 55,d=>(d.Vs,d.Vb.Yr,d.Vb.Id_,d.Vb.Zl,d.Vb.Yq,d.Vb.Xh,d.Xe,d.Zk,d.Jz,()) | 56,d=>(d.Id_,d.L_,()) | 57,d=>(d.Xw,()) | 58,d=>(d.Jw,d.Yx,d.Kc,()) | 59,d=>(d.Yl.Vx,d.Yl.Yt,d.Yl.Yf.Db_,d.Yl.Yf.Xp,d.Yl.Yf.Zb,d.Yl.Xt.Xp,d.Yl.Xt.Zq,d.Yl.Xt.L_,d.Yl.Wf,d.Wl,d.Vh,d.Vu,d.Ya,d.Uk,d.Ua,d.Qh,()) | 60,d=>(d.W_.Vx,d.W_.Yt,d.W_.Yf.Db_,d.W_.Yf.Xp,d.W_.Yf.Zb,d.W_.Xt.Xp,d.W_.Xt.Zq,d.W_.Xt.L_,d.W_.Wf,d.X_,d.K_.Ze,d.K_.Vv,d.K_.Zw.Up_,d.K_.Zw.Wr,d.K_.Zw.Wz,d.K_.Zw.Wq,d.K_.Zw.Vo,d.K_.Yv.Up_,d.K_.Yv.Xc,d.K_.Yv.Xf,d.K_.Yv.Yk,d.K_.Yv.Ws,d.K_.Yv.Wu,d.K_.Zc.Wr,d.K_.Zc.Wa,d.K_.Zc.Ve,d.K_.Yn,d.K_.Wj,()) | 61,d=>(d.S_,d.E_,()) | 62,d=>(d.S_,d.Je,()) | 63,d=>(d.Vv,d.Wy.Xw,d.Wy.Ww,d.Wy.Zl,d.Wy.Zs,d.Wy.Zx,d.Wy.Zn,d.Wy.Xc,d.Wy.Zj,d.Wy.Yn,d.Wy.Zd,d.Wy.Wk,d.Wy.Wi,d.Wy.Xb.Xa,d.Wy.Xb.Yw,d.Wy.Xb.Yq,d.Wy.Za,d.Wy.Xe,d.Wy.Vz,d.Wy.Xh,d.Wy.Zk,d.Wy.Zf,d.Wy.Ye,d.Wy.Xz.Xa,d.Wy.Xz.Yr,d.Wy.Xz.Xb.Xa,d.Wy.Xz.Xb.Yw,d.Wy.Xz.Xb.Yq,d.Wy.Xz.Xe,d.Wy.Xz.Zv,d.Wy.Xz.Zh,d.Wy.Xz.Zg,d.Wy.Xz.Xh,d.Wy.Xz.Wc,d.Wy.Xz.Wd,d.Wy.Xz.Zu,d.Wy.Wo,d.Wy.Wh,d.Wy.Vq,d.Wy.Xf,()) | 64,d=>(d.Xw,d.Ji,d.Ux,d.Kz,()) | 65,d=>(d.Qc,d.Qx,()) | 66,d=>(d.a0_,d.a1_,d.a2_,d.a3_,d.a4_,d.a5_,d.a6_,d.a7_,d.a8_,d.a9_,d.Ke,d.Ki,d.Ko,d.Ku,d.Gz,d.Gq,d.Gx,d.Gj,d.Gk,d.Gv,())|_+67,d=>(d,())
set_option maxHeartbeats 8000000 in
def teBd:(n:Nat)->HL teS (teCs n)->teS n | 0,h=>⟨h.1,h.2.1,h.2.2.1⟩ | 1,h=>⟨h.1,h.2.1,h.2.2.1⟩ | 2,h=>⟨h.1,h.2.1,h.2.2.1⟩ | 3,h=>⟨h.1,h.2.1,h.2.2.1,h.2.2.2.1,h.2.2.2.2.1,h.2.2.2.2.2.1,h.2.2.2.2.2.2.1,h.2.2.2.2.2.2.2.1,h.2.2.2.2.2.2.2.2.1,h.2.2.2.2.2.2.2.2.2.1,h.2.2.2.2.2.2.2.2.2.2.1⟩ | 4,h=>⟨h.1,h.2.1⟩ | 5,h=>⟨h.1,h.2.1,⟨h.2.2.1,h.2.2.2.1⟩,h.2.2.2.2.1⟩ | 6,h=>⟨h.1,h.2.1,h.2.2.1⟩ | 7,h=>⟨h.1,h.2.1⟩ | 8,h=>⟨h.1,h.2.1⟩ | 9,h=>⟨⟨h.1,h.2.1,⟨h.2.2.1,h.2.2.2.1⟩,h.2.2.2.2.1⟩,⟨h.2.2.2.2.2.1,h.2.2.2.2.2.2.1⟩,h.2.2.2.2.2.2.2.1⟩ | 10,h=>⟨h.1,h.2.1,h.2.2.1,h.2.2.2.1⟩ | 11,h=>⟨⟨h.1,h.2.1,h.2.2.1,h.2.2.2.1⟩,⟨h.2.2.2.2.1,h.2.2.2.2.2.1,h.2.2.2.2.2.2.1,h.2.2.2.2.2.2.2.1⟩⟩ | 12,h=>⟨h.1,⟨⟨h.2.1,h.2.2.1,h.2.2.2.1,h.2.2.2.2.1⟩,⟨h.2.2.2.2.2.1,h.2.2.2.2.2.2.1,h.2.2.2.2.2.2.2.1,h.2.2.2.2.2.2.2.2.1⟩⟩⟩ | 13,h=>⟨h.1,h.2.1⟩ | 14,h=>⟨h.1,h.2.1,h.2.2.1⟩ | 15,h=>⟨h.1,h.2.1,⟨h.2.2.1,h.2.2.2.1,h.2.2.2.2.1⟩,h.2.2.2.2.2.1,h.2.2.2.2.2.2.1,h.2.2.2.2.2.2.2.1⟩ | 16,h=>⟨h.1,h.2.1,h.2.2.1⟩ | 17,h=>⟨h.1,h.2.1,h.2.2.1⟩ | 18,h=>⟨h.1⟩ | 19,h=>⟨h.1,h.2.1,h.2.2.1⟩ | 20,h=>⟨h.1,h.2.1,h.2.2.1,h.2.2.2.1,h.2.2.2.2.1,h.2.2.2.2.2.1⟩ | 21,h=>⟨h.1,h.2.1,h.2.2.1⟩ | 22,h=>⟨h.1,h.2.1⟩ | 23,h=>⟨h.1,h.2.1,h.2.2.1,h.2.2.2.1,h.2.2.2.2.1,h.2.2.2.2.2.1,h.2.2.2.2.2.2.1,h.2.2.2.2.2.2.2.1,h.2.2.2.2.2.2.2.2.1,h.2.2.2.2.2.2.2.2.2.1⟩ | 24,h=>⟨h.1,h.2.1,h.2.2.1,h.2.2.2.1,h.2.2.2.2.1,h.2.2.2.2.2.1⟩ | 25,h=>⟨h.1,⟨h.2.1,h.2.2.1,⟨h.2.2.2.1,h.2.2.2.2.1⟩,h.2.2.2.2.2.1⟩,⟨⟨h.2.2.2.2.2.2.1,h.2.2.2.2.2.2.2.1,⟨h.2.2.2.2.2.2.2.2.1,h.2.2.2.2.2.2.2.2.2.1⟩,h.2.2.2.2.2.2.2.2.2.2.1⟩,⟨h.2.2.2.2.2.2.2.2.2.2.2.1,h.2.2.2.2.2.2.2.2.2.2.2.2.1⟩,h.2.2.2.2.2.2.2.2.2.2.2.2.2.1⟩,⟨h.2.2.2.2.2.2.2.2.2.2.2.2.2.2.1,h.2.2.2.2.2.2.2.2.2.2.2.2.2.2.2.1⟩,⟨h.2.2.2.2.2.2.2.2.2.2.2.2.2.2.2.2.1,h.2.2.2.2.2.2.2.2.2.2.2.2.2.2.2.2.2.1,h.2.2.2.2.2.2.2.2.2.2.2.2.2.2.2.2.2.2.1⟩,⟨h.2.2.2.2.2.2.2.2.2.2.2.2.2.2.2.2.2.2.2.1,h.2.2.2.2.2.2.2.2.2.2.2.2.2.2.2.2.2.2.2.2.1⟩,⟨h.2.2.2.2.2.2.2.2.2.2.2.2.2.2.2.2.2.2.2.2.2.1,h.2.2.2.2.2.2.2.2.2.2.2.2.2.2.2.2.2.2.2.2.2.2.1,h.2.2.2.2.2.2.2.2.2.2.2.2.2.2.2.2.2.2.2.2.2.2.2.1,h.2.2.2.2.2.2.2.2.2.2.2.2.2.2.2.2.2.2.2.2.2.2.2.2.1,h.2.2.2.2.2.2.2.2.2.2.2.2.2.2.2.2.2.2.2.2.2.2.2.2.2.1,h.2.2.2.2.2.2.2.2.2.2.2.2.2.2.2.2.2.2.2.2.2.2.2.2.2.2.1⟩,h.2.2.2.2.2.2.2.2.2.2.2.2.2.2.2.2.2.2.2.2.2.2.2.2.2.2.2.1,h.2.2.2.2.2.2.2.2.2.2.2.2.2.2.2.2.2.2.2.2.2.2.2.2.2.2.2.2.1,h.2.2.2.2.2.2.2.2.2.2.2.2.2.2.2.2.2.2.2.2.2.2.2.2.2.2.2.2.2.1⟩ | 26,h=>⟨h.1⟩ | 27,h=>⟨h.1,h.2.1,h.2.2.1⟩ | 28,h=>⟨h.1,h.2.1,h.2.2.1,h.2.2.2.1,⟨h.2.2.2.2.1,h.2.2.2.2.2.1,h.2.2.2.2.2.2.1⟩,⟨h.2.2.2.2.2.2.2.1,h.2.2.2.2.2.2.2.2.1,h.2.2.2.2.2.2.2.2.2.1⟩,h.2.2.2.2.2.2.2.2.2.2.1,h.2.2.2.2.2.2.2.2.2.2.2.1,h.2.2.2.2.2.2.2.2.2.2.2.2.1,h.2.2.2.2.2.2.2.2.2.2.2.2.2.1⟩ | 29,h=>⟨h.1,h.2.1,h.2.2.1⟩ | 30,h=>⟨h.1,h.2.1⟩ | 31,h=>⟨h.1,h.2.1,h.2.2.1,h.2.2.2.1,h.2.2.2.2.1,h.2.2.2.2.2.1,h.2.2.2.2.2.2.1,h.2.2.2.2.2.2.2.1,h.2.2.2.2.2.2.2.2.1,h.2.2.2.2.2.2.2.2.2.1,h.2.2.2.2.2.2.2.2.2.2.1,h.2.2.2.2.2.2.2.2.2.2.2.1,h.2.2.2.2.2.2.2.2.2.2.2.2.1⟩ | 32,h=>⟨h.1,h.2.1,h.2.2.1⟩ | 33,h=>⟨h.1,h.2.1,h.2.2.1⟩ | 34,h=>⟨h.1,h.2.1,h.2.2.1⟩ | 35,h=>⟨h.1,h.2.1,⟨h.2.2.1,h.2.2.2.1,h.2.2.2.2.1⟩,⟨h.2.2.2.2.2.1,h.2.2.2.2.2.2.1,h.2.2.2.2.2.2.2.1⟩,h.2.2.2.2.2.2.2.2.1⟩ | 36,h=>⟨h.1,h.2.1,h.2.2.1,h.2.2.2.1,h.2.2.2.2.1,h.2.2.2.2.2.1,h.2.2.2.2.2.2.1⟩ | 37,h=>⟨h.1,h.2.1,h.2.2.1⟩ | 38,h=>⟨h.1,h.2.1,⟨h.2.2.1,h.2.2.2.1,h.2.2.2.2.1⟩,h.2.2.2.2.2.1,h.2.2.2.2.2.2.1,h.2.2.2.2.2.2.2.1,h.2.2.2.2.2.2.2.2.1,h.2.2.2.2.2.2.2.2.2.1,h.2.2.2.2.2.2.2.2.2.2.1,h.2.2.2.2.2.2.2.2.2.2.2.1,h.2.2.2.2.2.2.2.2.2.2.2.2.1⟩ | 39,h=>⟨h.1,h.2.1,h.2.2.1,h.2.2.2.1,h.2.2.2.2.1,h.2.2.2.2.2.1,h.2.2.2.2.2.2.1,h.2.2.2.2.2.2.2.1,h.2.2.2.2.2.2.2.2.1,h.2.2.2.2.2.2.2.2.2.1,h.2.2.2.2.2.2.2.2.2.2.1,h.2.2.2.2.2.2.2.2.2.2.2.1,⟨h.2.2.2.2.2.2.2.2.2.2.2.2.1,h.2.2.2.2.2.2.2.2.2.2.2.2.2.1,h.2.2.2.2.2.2.2.2.2.2.2.2.2.2.1⟩,h.2.2.2.2.2.2.2.2.2.2.2.2.2.2.2.1,h.2.2.2.2.2.2.2.2.2.2.2.2.2.2.2.2.1,h.2.2.2.2.2.2.2.2.2.2.2.2.2.2.2.2.2.1,h.2.2.2.2.2.2.2.2.2.2.2.2.2.2.2.2.2.2.1,h.2.2.2.2.2.2.2.2.2.2.2.2.2.2.2.2.2.2.2.1,h.2.2.2.2.2.2.2.2.2.2.2.2.2.2.2.2.2.2.2.2.1,h.2.2.2.2.2.2.2.2.2.2.2.2.2.2.2.2.2.2.2.2.2.1,⟨h.2.2.2.2.2.2.2.2.2.2.2.2.2.2.2.2.2.2.2.2.2.2.1,h.2.2.2.2.2.2.2.2.2.2.2.2.2.2.2.2.2.2.2.2.2.2.2.1,⟨h.2.2.2.2.2.2.2.2.2.2.2.2.2.2.2.2.2.2.2.2.2.2.2.2.1,h.2.2.2.2.2.2.2.2.2.2.2.2.2.2.2.2.2.2.2.2.2.2.2.2.2.1,h.2.2.2.2.2.2.2.2.2.2.2.2.2.2.2.2.2.2.2.2.2.2.2.2.2.2.1⟩,h.2.2.2.2.2.2.2.2.2.2.2.2.2.2.2.2.2.2.2.2.2.2.2.2.2.2.2.1,h.2.2.2.2.2.2.2.2.2.2.2.2.2.2.2.2.2.2.2.2.2.2.2.2.2.2.2.2.1,h.2.2.2.2.2.2.2.2.2.2.2.2.2.2.2.2.2.2.2.2.2.2.2.2.2.2.2.2.2.1,h.2.2.2.2.2.2.2.2.2.2.2.2.2.2.2.2.2.2.2.2.2.2.2.2.2.2.2.2.2.2.1,h.2.2.2.2.2.2.2.2.2.2.2.2.2.2.2.2.2.2.2.2.2.2.2.2.2.2.2.2.2.2.2.1,h.2.2.2.2.2.2.2.2.2.2.2.2.2.2.2.2.2.2.2.2.2.2.2.2.2.2.2.2.2.2.2.2.1,h.2.2.2.2.2.2.2.2.2.2.2.2.2.2.2.2.2.2.2.2.2.2.2.2.2.2.2.2.2.2.2.2.2.1,h.2.2.2.2.2.2.2.2.2.2.2.2.2.2.2.2.2.2.2.2.2.2.2.2.2.2.2.2.2.2.2.2.2.2.1⟩,h.2.2.2.2.2.2.2.2.2.2.2.2.2.2.2.2.2.2.2.2.2.2.2.2.2.2.2.2.2.2.2.2.2.2.2.1,h.2.2.2.2.2.2.2.2.2.2.2.2.2.2.2.2.2.2.2.2.2.2.2.2.2.2.2.2.2.2.2.2.2.2.2.2.1,h.2.2.2.2.2.2.2.2.2.2.2.2.2.2.2.2.2.2.2.2.2.2.2.2.2.2.2.2.2.2.2.2.2.2.2.2.2.1,h.2.2.2.2.2.2.2.2.2.2.2.2.2.2.2.2.2.2.2.2.2.2.2.2.2.2.2.2.2.2.2.2.2.2.2.2.2.2.1⟩ | 40,h=>⟨h.1,h.2.1,h.2.2.1,h.2.2.2.1,h.2.2.2.2.1,h.2.2.2.2.2.1⟩ | 41,h=>⟨h.1,h.2.1,h.2.2.1,h.2.2.2.1⟩ | 42,h=>⟨h.1,h.2.1,h.2.2.1⟩ | 43,h=>⟨h.1,h.2.1,h.2.2.1,h.2.2.2.1,h.2.2.2.2.1,h.2.2.2.2.2.1,h.2.2.2.2.2.2.1,h.2.2.2.2.2.2.2.1⟩ | 44,h=>⟨h.1,h.2.1,h.2.2.1,h.2.2.2.1,h.2.2.2.2.1⟩ | 45,h=>⟨⟨h.1,h.2.1,h.2.2.1,h.2.2.2.1,h.2.2.2.2.1,h.2.2.2.2.2.1,h.2.2.2.2.2.2.1,h.2.2.2.2.2.2.2.1,h.2.2.2.2.2.2.2.2.1,h.2.2.2.2.2.2.2.2.2.1,h.2.2.2.2.2.2.2.2.2.2.1,h.2.2.2.2.2.2.2.2.2.2.2.1,⟨h.2.2.2.2.2.2.2.2.2.2.2.2.1,h.2.2.2.2.2.2.2.2.2.2.2.2.2.1,h.2.2.2.2.2.2.2.2.2.2.2.2.2.2.1⟩,h.2.2.2.2.2.2.2.2.2.2.2.2.2.2.2.1,h.2.2.2.2.2.2.2.2.2.2.2.2.2.2.2.2.1,h.2.2.2.2.2.2.2.2.2.2.2.2.2.2.2.2.2.1,h.2.2.2.2.2.2.2.2.2.2.2.2.2.2.2.2.2.2.1,h.2.2.2.2.2.2.2.2.2.2.2.2.2.2.2.2.2.2.2.1,h.2.2.2.2.2.2.2.2.2.2.2.2.2.2.2.2.2.2.2.2.1,h.2.2.2.2.2.2.2.2.2.2.2.2.2.2.2.2.2.2.2.2.2.1,⟨h.2.2.2.2.2.2.2.2.2.2.2.2.2.2.2.2.2.2.2.2.2.2.1,h.2.2.2.2.2.2.2.2.2.2.2.2.2.2.2.2.2.2.2.2.2.2.2.1,⟨h.2.2.2.2.2.2.2.2.2.2.2.2.2.2.2.2.2.2.2.2.2.2.2.2.1,h.2.2.2.2.2.2.2.2.2.2.2.2.2.2.2.2.2.2.2.2.2.2.2.2.2.1,h.2.2.2.2.2.2.2.2.2.2.2.2.2.2.2.2.2.2.2.2.2.2.2.2.2.2.1⟩,h.2.2.2.2.2.2.2.2.2.2.2.2.2.2.2.2.2.2.2.2.2.2.2.2.2.2.2.1,h.2.2.2.2.2.2.2.2.2.2.2.2.2.2.2.2.2.2.2.2.2.2.2.2.2.2.2.2.1,h.2.2.2.2.2.2.2.2.2.2.2.2.2.2.2.2.2.2.2.2.2.2.2.2.2.2.2.2.2.1,h.2.2.2.2.2.2.2.2.2.2.2.2.2.2.2.2.2.2.2.2.2.2.2.2.2.2.2.2.2.2.1,h.2.2.2.2.2.2.2.2.2.2.2.2.2.2.2.2.2.2.2.2.2.2.2.2.2.2.2.2.2.2.2.1,h.2.2.2.2.2.2.2.2.2.2.2.2.2.2.2.2.2.2.2.2.2.2.2.2.2.2.2.2.2.2.2.2.1,h.2.2.2.2.2.2.2.2.2.2.2.2.2.2.2.2.2.2.2.2.2.2.2.2.2.2.2.2.2.2.2.2.2.1,h.2.2.2.2.2.2.2.2.2.2.2.2.2.2.2.2.2.2.2.2.2.2.2.2.2.2.2.2.2.2.2.2.2.2.1⟩,h.2.2.2.2.2.2.2.2.2.2.2.2.2.2.2.2.2.2.2.2.2.2.2.2.2.2.2.2.2.2.2.2.2.2.2.1,h.2.2.2.2.2.2.2.2.2.2.2.2.2.2.2.2.2.2.2.2.2.2.2.2.2.2.2.2.2.2.2.2.2.2.2.2.1,h.2.2.2.2.2.2.2.2.2.2.2.2.2.2.2.2.2.2.2.2.2.2.2.2.2.2.2.2.2.2.2.2.2.2.2.2.2.1,h.2.2.2.2.2.2.2.2.2.2.2.2.2.2.2.2.2.2.2.2.2.2.2.2.2.2.2.2.2.2.2.2.2.2.2.2.2.2.1⟩,h.2.2.2.2.2.2.2.2.2.2.2.2.2.2.2.2.2.2.2.2.2.2.2.2.2.2.2.2.2.2.2.2.2.2.2.2.2.2.2.1⟩ | 46,h=>⟨h.1,h.2.1,h.2.2.1,h.2.2.2.1,h.2.2.2.2.1,h.2.2.2.2.2.1⟩ | 47,h=>⟨h.1,h.2.1,h.2.2.1,h.2.2.2.1⟩ | 48,h=>⟨h.1,h.2.1,h.2.2.1⟩ | 49,h=>⟨h.1,h.2.1,h.2.2.1⟩ | 50,h=>⟨h.1,h.2.1,⟨h.2.2.1,h.2.2.2.1,h.2.2.2.2.1,h.2.2.2.2.2.1,h.2.2.2.2.2.2.1⟩,⟨h.2.2.2.2.2.2.2.1,h.2.2.2.2.2.2.2.2.1,h.2.2.2.2.2.2.2.2.2.1,h.2.2.2.2.2.2.2.2.2.2.1,h.2.2.2.2.2.2.2.2.2.2.2.1,h.2.2.2.2.2.2.2.2.2.2.2.2.1⟩,⟨h.2.2.2.2.2.2.2.2.2.2.2.2.2.1,h.2.2.2.2.2.2.2.2.2.2.2.2.2.2.1,h.2.2.2.2.2.2.2.2.2.2.2.2.2.2.2.1⟩,h.2.2.2.2.2.2.2.2.2.2.2.2.2.2.2.2.1,h.2.2.2.2.2.2.2.2.2.2.2.2.2.2.2.2.2.1⟩ | 51,h=>⟨h.1,h.2.1,h.2.2.1,h.2.2.2.1,h.2.2.2.2.1⟩ | 52,h=>⟨⟨h.1,h.2.1,h.2.2.1,h.2.2.2.1,h.2.2.2.2.1⟩,h.2.2.2.2.2.1⟩ | 53,h=>⟨⟨h.1,h.2.1,h.2.2.1,h.2.2.2.1,h.2.2.2.2.1⟩,h.2.2.2.2.2.1⟩ | 54,h=>⟨h.1,⟨h.2.1,h.2.2.1,h.2.2.2.1,h.2.2.2.2.1,h.2.2.2.2.2.1⟩,h.2.2.2.2.2.2.1⟩ | 55,h=>⟨h.1,⟨h.2.1,h.2.2.1,h.2.2.2.1,h.2.2.2.2.1,h.2.2.2.2.2.1⟩,h.2.2.2.2.2.2.1,h.2.2.2.2.2.2.2.1,h.2.2.2.2.2.2.2.2.1⟩ | 56,h=>⟨h.1,h.2.1⟩ | 57,h=>⟨h.1⟩ | 58,h=>⟨h.1,h.2.1,h.2.2.1⟩ | 59,h=>⟨⟨h.1,h.2.1,⟨h.2.2.1,h.2.2.2.1,h.2.2.2.2.1⟩,⟨h.2.2.2.2.2.1,h.2.2.2.2.2.2.1,h.2.2.2.2.2.2.2.1⟩,h.2.2.2.2.2.2.2.2.1⟩,h.2.2.2.2.2.2.2.2.2.1,h.2.2.2.2.2.2.2.2.2.2.1,h.2.2.2.2.2.2.2.2.2.2.2.1,h.2.2.2.2.2.2.2.2.2.2.2.2.1,h.2.2.2.2.2.2.2.2.2.2.2.2.2.1,h.2.2.2.2.2.2.2.2.2.2.2.2.2.2.1,h.2.2.2.2.2.2.2.2.2.2.2.2.2.2.2.1⟩ | 60,h=>⟨⟨h.1,h.2.1,⟨h.2.2.1,h.2.2.2.1,h.2.2.2.2.1⟩,⟨h.2.2.2.2.2.1,h.2.2.2.2.2.2.1,h.2.2.2.2.2.2.2.1⟩,h.2.2.2.2.2.2.2.2.1⟩,h.2.2.2.2.2.2.2.2.2.1,⟨h.2.2.2.2.2.2.2.2.2.2.1,h.2.2.2.2.2.2.2.2.2.2.2.1,⟨h.2.2.2.2.2.2.2.2.2.2.2.2.1,h.2.2.2.2.2.2.2.2.2.2.2.2.2.1,h.2.2.2.2.2.2.2.2.2.2.2.2.2.2.1,h.2.2.2.2.2.2.2.2.2.2.2.2.2.2.2.1,h.2.2.2.2.2.2.2.2.2.2.2.2.2.2.2.2.1⟩,⟨h.2.2.2.2.2.2.2.2.2.2.2.2.2.2.2.2.2.1,h.2.2.2.2.2.2.2.2.2.2.2.2.2.2.2.2.2.2.1,h.2.2.2.2.2.2.2.2.2.2.2.2.2.2.2.2.2.2.2.1,h.2.2.2.2.2.2.2.2.2.2.2.2.2.2.2.2.2.2.2.2.1,h.2.2.2.2.2.2.2.2.2.2.2.2.2.2.2.2.2.2.2.2.2.1,h.2.2.2.2.2.2.2.2.2.2.2.2.2.2.2.2.2.2.2.2.2.2.1⟩,⟨h.2.2.2.2.2.2.2.2.2.2.2.2.2.2.2.2.2.2.2.2.2.2.2.1,h.2.2.2.2.2.2.2.2.2.2.2.2.2.2.2.2.2.2.2.2.2.2.2.2.1,h.2.2.2.2.2.2.2.2.2.2.2.2.2.2.2.2.2.2.2.2.2.2.2.2.2.1⟩,h.2.2.2.2.2.2.2.2.2.2.2.2.2.2.2.2.2.2.2.2.2.2.2.2.2.2.1,h.2.2.2.2.2.2.2.2.2.2.2.2.2.2.2.2.2.2.2.2.2.2.2.2.2.2.2.1⟩⟩ | 61,h=>⟨h.1,h.2.1⟩ | 62,h=>⟨h.1,h.2.1⟩ | 63,h=>⟨h.1,⟨h.2.1,h.2.2.1,h.2.2.2.1,h.2.2.2.2.1,h.2.2.2.2.2.1,h.2.2.2.2.2.2.1,h.2.2.2.2.2.2.2.1,h.2.2.2.2.2.2.2.2.1,h.2.2.2.2.2.2.2.2.2.1,h.2.2.2.2.2.2.2.2.2.2.1,h.2.2.2.2.2.2.2.2.2.2.2.1,h.2.2.2.2.2.2.2.2.2.2.2.2.1,⟨h.2.2.2.2.2.2.2.2.2.2.2.2.2.1,h.2.2.2.2.2.2.2.2.2.2.2.2.2.2.1,h.2.2.2.2.2.2.2.2.2.2.2.2.2.2.2.1⟩,h.2.2.2.2.2.2.2.2.2.2.2.2.2.2.2.2.1,h.2.2.2.2.2.2.2.2.2.2.2.2.2.2.2.2.2.1,h.2.2.2.2.2.2.2.2.2.2.2.2.2.2.2.2.2.2.1,h.2.2.2.2.2.2.2.2.2.2.2.2.2.2.2.2.2.2.2.1,h.2.2.2.2.2.2.2.2.2.2.2.2.2.2.2.2.2.2.2.2.1,h.2.2.2.2.2.2.2.2.2.2.2.2.2.2.2.2.2.2.2.2.2.1,h.2.2.2.2.2.2.2.2.2.2.2.2.2.2.2.2.2.2.2.2.2.2.1,⟨h.2.2.2.2.2.2.2.2.2.2.2.2.2.2.2.2.2.2.2.2.2.2.2.1,h.2.2.2.2.2.2.2.2.2.2.2.2.2.2.2.2.2.2.2.2.2.2.2.2.1,⟨h.2.2.2.2.2.2.2.2.2.2.2.2.2.2.2.2.2.2.2.2.2.2.2.2.2.1,h.2.2.2.2.2.2.2.2.2.2.2.2.2.2.2.2.2.2.2.2.2.2.2.2.2.2.1,h.2.2.2.2.2.2.2.2.2.2.2.2.2.2.2.2.2.2.2.2.2.2.2.2.2.2.2.1⟩,h.2.2.2.2.2.2.2.2.2.2.2.2.2.2.2.2.2.2.2.2.2.2.2.2.2.2.2.2.1,h.2.2.2.2.2.2.2.2.2.2.2.2.2.2.2.2.2.2.2.2.2.2.2.2.2.2.2.2.2.1,h.2.2.2.2.2.2.2.2.2.2.2.2.2.2.2.2.2.2.2.2.2.2.2.2.2.2.2.2.2.2.1,h.2.2.2.2.2.2.2.2.2.2.2.2.2.2.2.2.2.2.2.2.2.2.2.2.2.2.2.2.2.2.2.1,h.2.2.2.2.2.2.2.2.2.2.2.2.2.2.2.2.2.2.2.2.2.2.2.2.2.2.2.2.2.2.2.2.1,h.2.2.2.2.2.2.2.2.2.2.2.2.2.2.2.2.2.2.2.2.2.2.2.2.2.2.2.2.2.2.2.2.2.1,h.2.2.2.2.2.2.2.2.2.2.2.2.2.2.2.2.2.2.2.2.2.2.2.2.2.2.2.2.2.2.2.2.2.2.1,h.2.2.2.2.2.2.2.2.2.2.2.2.2.2.2.2.2.2.2.2.2.2.2.2.2.2.2.2.2.2.2.2.2.2.2.1⟩,h.2.2.2.2.2.2.2.2.2.2.2.2.2.2.2.2.2.2.2.2.2.2.2.2.2.2.2.2.2.2.2.2.2.2.2.2.1,h.2.2.2.2.2.2.2.2.2.2.2.2.2.2.2.2.2.2.2.2.2.2.2.2.2.2.2.2.2.2.2.2.2.2.2.2.2.1,h.2.2.2.2.2.2.2.2.2.2.2.2.2.2.2.2.2.2.2.2.2.2.2.2.2.2.2.2.2.2.2.2.2.2.2.2.2.2.1,h.2.2.2.2.2.2.2.2.2.2.2.2.2.2.2.2.2.2.2.2.2.2.2.2.2.2.2.2.2.2.2.2.2.2.2.2.2.2.2.1⟩⟩ | 64,h=>⟨h.1,h.2.1,h.2.2.1,h.2.2.2.1⟩ | 65,h=>⟨h.1,h.2.1⟩ | 66,h=>⟨h.1,h.2.1,h.2.2.1,h.2.2.2.1,h.2.2.2.2.1,h.2.2.2.2.2.1,h.2.2.2.2.2.2.1,h.2.2.2.2.2.2.2.1,h.2.2.2.2.2.2.2.2.1,h.2.2.2.2.2.2.2.2.2.1,h.2.2.2.2.2.2.2.2.2.2.1,h.2.2.2.2.2.2.2.2.2.2.2.1,h.2.2.2.2.2.2.2.2.2.2.2.2.1,h.2.2.2.2.2.2.2.2.2.2.2.2.2.1,h.2.2.2.2.2.2.2.2.2.2.2.2.2.2.1,h.2.2.2.2.2.2.2.2.2.2.2.2.2.2.2.1,h.2.2.2.2.2.2.2.2.2.2.2.2.2.2.2.2.1,h.2.2.2.2.2.2.2.2.2.2.2.2.2.2.2.2.2.1,h.2.2.2.2.2.2.2.2.2.2.2.2.2.2.2.2.2.2.1,h.2.2.2.2.2.2.2.2.2.2.2.2.2.2.2.2.2.2.2.1⟩|_+67,h=>h.1
def teDeq:(n:Nat)->Option (DecidableEq (teS n)) | 19=>some (inferInstanceAs (DecidableEq Zy)) | 37=>some (inferInstanceAs (DecidableEq Xs)) | 38=>some (inferInstanceAs (DecidableEq Yi)) | 51=>some (inferInstanceAs (DecidableEq Xg)) | 65=>some (inferInstanceAs (DecidableEq Xy))|_=>none
def teTy(n:Nat):Option Ty:=an_ n [(2,.int .i64),(3,.int .i64),(4,.bool),(5,.int .u8),(6,.int .u8),(9,.str),(10,.str),(11,.str),(12,.int .u64),(21,.int .i32),(23,.st 0),(27,.sl .str),(29,.sl (.st 25)),(30,.sl (.st 26)),(31,.sl (.st 28)),(33,.st 29),(34,.sl (.st 31)),(36,.st 32),(37,.sl (.st 34)),(39,.st 35),(40,.sl (.st 43)),(41,.sl (.st 50)),(42,.sl (.st 54)),(43,.sl (.st 56)),(44,.sl (.st 58)),(45,.sl (.st 57)),(47,.st 59),(48,.int .i64),(51,.sl (.st 0)),(58,.st 19),(59,.sl (.st 19)),(61,.st 26),(64,.sl (.st 40)),(65,.sl (.st 41)),(66,.sl (.st 42)),(68,.st 43),(70,.sl (.int .i64)),(71,.sl (.st 45)),(73,.st 46),(74,.sl (.st 39)),(78,.sl (.st 1)),(79,.sl (.st 2)),(80,.sl (.st 3)),(82,.st 4),(84,.st 5),(85,.sl (.st 6)),(87,.st 7),(88,.sl (.st 8)),(90,.st 9),(91,.sl (.st 12)),(93,.st 13),(94,.sl (.st 15)),(96,.st 16),(97,.sl (.st 18)),(98,.sl (.st 21)),(100,.st 22),(101,.sl (.sl (.st 19))),(102,.sl (.st 23)),(104,.st 24),(106,.st 25),(108,.st 44),(110,.sl (.st 47)),(111,.sl (.st 48)),(113,.st 49),(116,.st 50),(117,.sl (.st 33)),(119,.st 34),(125,.st 51),(126,.sl (.st 53)),(128,.st 54),(131,.sl (.st 55)),(133,.st 56),(146,.sl (.st 37)),(148,.st 37),(150,.st 38),(152,.st 39),(155,.st 45),(156,.sl (.st 30)),(158,.st 31),(160,.st 60),(165,.sl (.st 64)),(167,.st 64),(174,.st 2),(177,.st 41),(184,.sl (.st 36)),(186,.st 40),(189,.st 48),(193,.st 47),(197,.st 8),(203,.int .u64),(206,.sl (.int .u8)),(213,.st 1),(220,.st 3),(221,.sl (.st 20)),(223,.st 21),(247,.st 58),(251,.st 57),(266,.st 66),(267,.int .u32),(269,.int .u64),(301,.st 42),(304,.st 36),(313,.sl (.st 52)),(315,.st 53),(318,.st 52),(321,.st 55),(322,.sl (.sl (.int .i64))),(362,.sl (.st 63)),(366,.st 63),(380,.st 27),(382,.st 28),(433,.st 65),(440,.st 61),(455,.sl (.st 51)),(463,.sl (.sl .str)),(484,.st 30),(486,.st 33),(492,.st 10),(493,.st 11),(495,.st 12),(501,.st 15),(507,.st 23),(554,.st 6),(577,.st 62),(622,.sl (.st 17)),(624,.st 18),(627,.st 17),(630,.st 20)]
abbrev globPT:Ty := .st 66
def teGl:Nat->Option (Σ t:Ty,Den teS t) | 0=>some ⟨.st 66,globP⟩|_=>none
def teSb(n:Nat):Bool:=Nat.beq n 472
def te:TE:=⟨teS,teCs,teUn,teBd,λn x=>by match n with | 0=>rfl | 1=>rfl | 2=>rfl | 3=>rfl | 4=>rfl | 5=>rfl | 6=>rfl | 7=>rfl | 8=>rfl | 9=>rfl | 10=>rfl | 11=>rfl | 12=>rfl | 13=>rfl | 14=>rfl | 15=>rfl | 16=>rfl | 17=>rfl | 18=>rfl | 19=>rfl | 20=>rfl | 21=>rfl | 22=>rfl | 23=>rfl | 24=>rfl | 25=>rfl | 26=>rfl | 27=>rfl | 28=>rfl | 29=>rfl | 30=>rfl | 31=>rfl | 32=>rfl | 33=>rfl | 34=>rfl | 35=>rfl | 36=>rfl | 37=>rfl | 38=>rfl | 39=>rfl | 40=>rfl | 41=>rfl | 42=>rfl | 43=>rfl | 44=>rfl | 45=>rfl | 46=>rfl | 47=>rfl | 48=>rfl | 49=>rfl | 50=>rfl | 51=>rfl | 52=>rfl | 53=>rfl | 54=>rfl | 55=>rfl | 56=>rfl | 57=>rfl | 58=>rfl | 59=>rfl | 60=>rfl | 61=>rfl | 62=>rfl | 63=>rfl | 64=>rfl | 65=>rfl | 66=>rfl|n+67=>rfl,λn x=>by match n with | 0=>rfl | 1=>rfl | 2=>rfl | 3=>rfl | 4=>rfl | 5=>rfl | 6=>rfl | 7=>rfl | 8=>rfl | 9=>rfl | 10=>rfl | 11=>rfl | 12=>rfl | 13=>rfl | 14=>rfl | 15=>rfl | 16=>rfl | 17=>rfl | 18=>rfl | 19=>rfl | 20=>rfl | 21=>rfl | 22=>rfl | 23=>rfl | 24=>rfl | 25=>rfl | 26=>rfl | 27=>rfl | 28=>rfl | 29=>rfl | 30=>rfl | 31=>rfl | 32=>rfl | 33=>rfl | 34=>rfl | 35=>rfl | 36=>rfl | 37=>rfl | 38=>rfl | 39=>rfl | 40=>rfl | 41=>rfl | 42=>rfl | 43=>rfl | 44=>rfl | 45=>rfl | 46=>rfl | 47=>rfl | 48=>rfl | 49=>rfl | 50=>rfl | 51=>rfl | 52=>rfl | 53=>rfl | 54=>rfl | 55=>rfl | 56=>rfl | 57=>rfl | 58=>rfl | 59=>rfl | 60=>rfl | 61=>rfl | 62=>rfl | 63=>rfl | 64=>rfl | 65=>rfl | 66=>rfl|n+67=>rfl,teDeq,teTy,λn=>by match n with | 0=>exact List.cons_ne_nil _ _ | 1=>exact List.cons_ne_nil _ _ | 2=>exact List.cons_ne_nil _ _ | 3=>exact List.cons_ne_nil _ _ | 4=>exact List.cons_ne_nil _ _ | 5=>exact List.cons_ne_nil _ _ | 6=>exact List.cons_ne_nil _ _ | 7=>exact List.cons_ne_nil _ _ | 8=>exact List.cons_ne_nil _ _ | 9=>exact List.cons_ne_nil _ _ | 10=>exact List.cons_ne_nil _ _ | 11=>exact List.cons_ne_nil _ _ | 12=>exact List.cons_ne_nil _ _ | 13=>exact List.cons_ne_nil _ _ | 14=>exact List.cons_ne_nil _ _ | 15=>exact List.cons_ne_nil _ _ | 16=>exact List.cons_ne_nil _ _ | 17=>exact List.cons_ne_nil _ _ | 18=>exact List.cons_ne_nil _ _ | 19=>exact List.cons_ne_nil _ _ | 20=>exact List.cons_ne_nil _ _ | 21=>exact List.cons_ne_nil _ _ | 22=>exact List.cons_ne_nil _ _ | 23=>exact List.cons_ne_nil _ _ | 24=>exact List.cons_ne_nil _ _ | 25=>exact List.cons_ne_nil _ _ | 26=>exact List.cons_ne_nil _ _ | 27=>exact List.cons_ne_nil _ _ | 28=>exact List.cons_ne_nil _ _ | 29=>exact List.cons_ne_nil _ _ | 30=>exact List.cons_ne_nil _ _ | 31=>exact List.cons_ne_nil _ _ | 32=>exact List.cons_ne_nil _ _ | 33=>exact List.cons_ne_nil _ _ | 34=>exact List.cons_ne_nil _ _ | 35=>exact List.cons_ne_nil _ _ | 36=>exact List.cons_ne_nil _ _ | 37=>exact List.cons_ne_nil _ _ | 38=>exact List.cons_ne_nil _ _ | 39=>exact List.cons_ne_nil _ _ | 40=>exact List.cons_ne_nil _ _ | 41=>exact List.cons_ne_nil _ _ | 42=>exact List.cons_ne_nil _ _ | 43=>exact List.cons_ne_nil _ _ | 44=>exact List.cons_ne_nil _ _ | 45=>exact List.cons_ne_nil _ _ | 46=>exact List.cons_ne_nil _ _ | 47=>exact List.cons_ne_nil _ _ | 48=>exact List.cons_ne_nil _ _ | 49=>exact List.cons_ne_nil _ _ | 50=>exact List.cons_ne_nil _ _ | 51=>exact List.cons_ne_nil _ _ | 52=>exact List.cons_ne_nil _ _ | 53=>exact List.cons_ne_nil _ _ | 54=>exact List.cons_ne_nil _ _ | 55=>exact List.cons_ne_nil _ _ | 56=>exact List.cons_ne_nil _ _ | 57=>exact List.cons_ne_nil _ _ | 58=>exact List.cons_ne_nil _ _ | 59=>exact List.cons_ne_nil _ _ | 60=>exact List.cons_ne_nil _ _ | 61=>exact List.cons_ne_nil _ _ | 62=>exact List.cons_ne_nil _ _ | 63=>exact List.cons_ne_nil _ _ | 64=>exact List.cons_ne_nil _ _ | 65=>exact List.cons_ne_nil _ _ | 66=>exact List.cons_ne_nil _ _|n+67=>exact List.cons_ne_nil _ _,teGl,teSb⟩
theorem api_Chan_ext(x y:Xg):(x=y)=(x.Yr=y.Yr/\x.Id_=y.Id_/\x.Zl=y.Zl/\x.Yq=y.Yq/\x.Xh=y.Xh):=by cases x;cases y;simp
theorem eqd_api_Chan(x y:Xg):((x.Yr==y.Yr)&&((x.Id_==y.Id_)&&((x.Zl==y.Zl)&&(((⟨x.Yq.toArray⟩:ByteArray).toList==(⟨y.Yq.toArray⟩:ByteArray).toList)&&(((⟨x.Xh.toArray⟩:ByteArray).toList==(⟨y.Xh.toArray⟩:ByteArray).toList)&&true)))))=true↔x=y:=by simp[api_Chan_ext]
theorem nJ_:ap_ Tryz.prog te 125 51:=by
 intro d x y l m hl hm;obtain rfl:=qSj hl;obtain rfl:=qSj hm;refine ky_ 10 rfl (by kernel_rfl) (b:=((x.Yr==y.Yr)&&((x.Id_==y.Id_)&&((x.Zl==y.Zl)&&(((⟨x.Yq.toArray⟩:ByteArray).toList==(⟨y.Yq.toArray⟩:ByteArray).toList)&&(((⟨x.Xh.toArray⟩:ByteArray).toList==(⟨y.Xh.toArray⟩:ByteArray).toList)&&true)))))) (by kernel_rfl) ?_;rw[Bool.eq_iff_iff];exact(eqd_api_Chan x y).trans (@decide_eq_true_iff _ (d x y)).symm
theorem lC_(x y:Xs):(x=y)=(x.Xa=y.Xa/\x.Yw=y.Yw/\x.Yq=y.Yq):=by cases x;cases y;simp
theorem eqd_api_Qid(x y:Xs):((x.Xa==y.Xa)&&((x.Yw==y.Yw)&&((x.Yq==y.Yq)&&true)))=true↔x=y:=by simp[lC_]
theorem oY_:ap_ Tryz.prog te 148 37:=by
 intro d x y l m hl hm;obtain rfl:=qSj hl;obtain rfl:=qSj hm;refine ky_ 10 rfl (by kernel_rfl) (b:=((x.Xa==y.Xa)&&((x.Yw==y.Yw)&&((x.Yq==y.Yq)&&true)))) (by kernel_rfl) ?_;rw[Bool.eq_iff_iff];exact(eqd_api_Qid x y).trans (@decide_eq_true_iff _ (d x y)).symm
theorem api_Dir_ext(x y:Yi):(x=y)=(x.Xa=y.Xa/\x.Yr=y.Yr/\x.Xb=y.Xb/\x.Xe=y.Xe/\x.Zv=y.Zv/\x.Zh=y.Zh/\x.Zg=y.Zg/\x.Xh=y.Xh/\x.Wc=y.Wc/\x.Wd=y.Wd/\x.Zu=y.Zu):=by cases x;cases y;simp
theorem eqd_api_Dir(x y:Yi):((x.Xa==y.Xa)&&((x.Yr==y.Yr)&&(((x.Xb.Xa==y.Xb.Xa)&&((x.Xb.Yw==y.Xb.Yw)&&((x.Xb.Yq==y.Xb.Yq)&&true)))&&((x.Xe==y.Xe)&&((x.Zv==y.Zv)&&((x.Zh==y.Zh)&&((x.Zg==y.Zg)&&(((⟨x.Xh.toArray⟩:ByteArray).toList==(⟨y.Xh.toArray⟩:ByteArray).toList)&&(((⟨x.Wc.toArray⟩:ByteArray).toList==(⟨y.Wc.toArray⟩:ByteArray).toList)&&(((⟨x.Wd.toArray⟩:ByteArray).toList==(⟨y.Wd.toArray⟩:ByteArray).toList)&&(((⟨x.Zu.toArray⟩:ByteArray).toList==(⟨y.Zu.toArray⟩:ByteArray).toList)&&true)))))))))))=true↔x=y:=by simp[api_Dir_ext,lC_]
theorem oZ_:ap_ Tryz.prog te 150 38:=by
 intro d x y l m hl hm;obtain rfl:=qSj hl;obtain rfl:=qSj hm;refine ky_ 10 rfl (by kernel_rfl) (b:=((x.Xa==y.Xa)&&((x.Yr==y.Yr)&&(((x.Xb.Xa==y.Xb.Xa)&&((x.Xb.Yw==y.Xb.Yw)&&((x.Xb.Yq==y.Xb.Yq)&&true)))&&((x.Xe==y.Xe)&&((x.Zv==y.Zv)&&((x.Zh==y.Zh)&&((x.Zg==y.Zg)&&(((⟨x.Xh.toArray⟩:ByteArray).toList==(⟨y.Xh.toArray⟩:ByteArray).toList)&&(((⟨x.Wc.toArray⟩:ByteArray).toList==(⟨y.Wc.toArray⟩:ByteArray).toList)&&(((⟨x.Wd.toArray⟩:ByteArray).toList==(⟨y.Wd.toArray⟩:ByteArray).toList)&&(((⟨x.Zu.toArray⟩:ByteArray).toList==(⟨y.Zu.toArray⟩:ByteArray).toList)&&true)))))))))))) (by kernel_rfl) ?_;rw[Bool.eq_iff_iff]
 exact(eqd_api_Dir x y).trans (@decide_eq_true_iff _ (d x y)).symm
theorem o0_(x y:Xy):(x=y)=(x.Qc=y.Qc/\x.Qx=y.Qx):=by cases x;cases y;simp
theorem o1_(x y:Xy):((x.Qc==y.Qc)&&(((⟨x.Qx.toArray⟩:ByteArray).toList==(⟨y.Qx.toArray⟩:ByteArray).toList)&&true))=true↔x=y:=by simp[o0_]
theorem kZ_:ap_ Tryz.prog te 433 65:=by
 intro d x y l m hl hm;obtain rfl:=qSj hl;obtain rfl:=qSj hm;refine ky_ 10 rfl (by kernel_rfl) (b:=((x.Qc==y.Qc)&&(((⟨x.Qx.toArray⟩:ByteArray).toList==(⟨y.Qx.toArray⟩:ByteArray).toList)&&true))) (by kernel_rfl) ?_;rw[Bool.eq_iff_iff];exact(o1_ x y).trans (@decide_eq_true_iff _ (d x y)).symm
def eqL:List (Nat×Nat):=[(125,51),(148,37),(150,38),(433,65)]
theorem ad_:∀p∈eqL,ap_ Tryz.prog te p.1 p.2:=by
 intro p hp;simp only[eqL,List.mem_cons,List.not_mem_nil,or_false]at hp;rcases hp with rfl|rfl|rfl|rfl
 .exact nJ_
 .exact oY_
 .exact oZ_
 .exact kZ_
abbrev OKF(f:FuncId)(C:Con te):Prop:=Con.OK Tryz.prog te f C/\bo_ Tryz.prog f=true
end
open Go.ChangeShapes Go.WideShapes Go.ChangeAt Go.ChangeMaps
abbrev laidAll : List (String × DataW Unit) := [("math/bits.deBruijn32tab", Rows.laid_math_bits_deBruijn32tab), ("math/bits.deBruijn64tab", Rows.laid_math_bits_deBruijn64tab), ("internal/strconv.uint64pow10", Rows.laid_internal_strconv_uint64pow10), ("unicode/utf8.acceptRanges", Rows.laid_unicode_utf8_acceptRanges), ("filespace/hash.rounds", Rows.laid_filespace_hash_rounds), ("unicode/utf8.first", Rows.laid_unicode_utf8_first)]
def powL:List Int:=[1,10,100,1000,10000,100000,1000000,10000000,100000000,1000000000,10000000000,100000000000,1000000000000,10000000000000,100000000000000,1000000000000000,10000000000000000,100000000000000000,1000000000000000000,10000000000000000000]
theorem tab_block{W:World}{name:String}{k:IntKind}{zs:List Int}{n:Nat}(h:Lib.TabIs Tryz.prog W name k zs)(hn:(Tryz.prog).globalNamed name=some n):∃e c,W.heap[n]? = some (.cells (zs.map λz=>Value.int k z).toArray e c):=by
 unfold Lib.TabIs World.var? at h;rw[hn]at h;simp only[Option.bind_some]at h;split at h
 .rename_i cs e c hh;obtain rfl:=qSj h;exact⟨e,c,hh⟩
 .cases h
theorem tab_glo{W:World}{name:String}{k:IntKind}{zs:List Int}{n:Nat}(h:Lib.TabIs Tryz.prog W name k zs)(hn:(Tryz.prog).globalNamed name=some n){t:Ty}{x:Den te.S t}(hr:RD te (cr_ W) (te.flat t) (te.fl t x) (zs.map (Value.int k))) :
  (cr_ W).F n/\∃r,RD te (cr_ W) (te.flat t) (te.fl t x) r/\(∀j u,r[j]? = some u->(cr_ W).w.cell? ⟨n,j,none⟩=some u)/\∃e c,(cr_ W).w.heap[n]? = some (.cells r.toArray e c):=by
 obtain⟨e,c,hh⟩:=tab_block h hn;refine⟨?_,zs.map (Value.int k),hr,λj u hu => ?_,e,c,hh⟩
 .show n<W.heap.size;rcases Nat.lt_or_ge n W.heap.size with h'|h'
  .exact h'
  .rw[Array.getElem?_eq_none h']at hh;cases hh
 .show W.cell? ⟨n,j,none⟩=some u;rw[cell_of_row W n j _ e c hh,List.getElem?_toArray];exact hu
theorem seat_glob{W:World}(h:laidMetH Tryz.prog laidAll W):Glo te (cr_ W):=by
 have hm:=(laidMetH_iff.1 h).1
 have h2 : laidMet Tryz.prog (("internal/strconv.uint64pow10", Lib.tabData .u64 powL) :: []) W := by
  have := hm.filter (fun x => x.1 == "internal/strconv.uint64pow10")
  have e : ((laidAll.filter fun x => x.2.handleName?.isNone).filter fun x => x.1 == "internal/strconv.uint64pow10") = [("internal/strconv.uint64pow10", Lib.tabData .u64 powL)] := by kernel_rfl
  rw[e]at this;exact this
 have hP:=Lib.tabIs_of_head (P:=Tryz.prog) (g:=0) (t:=266) (e:=203) (n:=20) (by kernel_rfl) (by kernel_rfl) (by kernel_rfl) (by kernel_rfl) (by kernel_rfl) (by kernel_rfl) h2;intro n t x e;rcases n with _|n
 .have e2:(⟨globPT,globP⟩:Sigma λt:Ty=>Den te.S t)=⟨t,x⟩:=qSj e;cases e2
  exact tab_glo hP (by kernel_rfl) (.int (.int (.int (.int (.int (.int (.int (.int (.int (.int (.int (.int (.int (.int (.int (.int (.int (.int (.int (.int .nil))))))))))))))))))))
 .cases e
theorem door_met(os:Os)(args:Array Value):laidMetH Tryz.prog laidAll ((World.laidAll Tryz.prog os laidAll).forCall (λ_ _=>0) ⟨#[],args,[]⟩).memory:=by
 rw[MakeChecks.laidMetH_plain _ _ _ (by kernel_rfl)];exact laidMet_laidAll _ (by kernel_rfl) (by kernel_rfl)
end Go.Proofs.YtkammpnldgkiiaaGreatDoor
namespace Go.Proofs
open Go.Shelf
def Tryz.laysCount_ren:Go.Shelf.Ren:=⟨λ | 138=>450 | 195=>566 | 218=>568 | 143=>451 | 219=>569 | 217=>642 | 225=>643 | 224=>644 | 267=>645 | 266=>740 | 314=>741|n=>n,λ | 9=>9 | 3=>3 | 4=>4 | 5=>5 | 0=>0 | 46=>269 | 146=>907 | 51=>267|n=>n,λ | 1=>3|n=>n⟩
theorem Tryz.laysCount:Go.Proofs.Lays.n138 Tryz.prog Tryz.laysCount_ren:={
 mixed:=by kernel_rfl
 f138:=Tryz.func450.trans (congrArg some (by kernel_rfl))
 f143:=Tryz.func451.trans (congrArg some (by kernel_rfl))
 f195:=Tryz.func566.trans (congrArg some (by kernel_rfl))
 f217:=Tryz.func642.trans (congrArg some (by kernel_rfl))
 f218:=Tryz.func568.trans (congrArg some (by kernel_rfl))
 f219:=Tryz.func569.trans (congrArg some (by kernel_rfl))
 f224:=Tryz.func644.trans (congrArg some (by kernel_rfl))
 f225:=Tryz.func643.trans (congrArg some (by kernel_rfl))
 f266:=Tryz.func740.trans (congrArg some (by kernel_rfl))
 f267:=Tryz.func645.trans (congrArg some (by kernel_rfl))
 f314:=Tryz.func741.trans (congrArg some (by kernel_rfl))
 t0:=Tryz.underlying0
 a0:=Tryz.isAgg0
 z0:=Tryz.sizeOf0
 v0:=Tryz.zeroValue0
 t3:=Tryz.underlying3
 a3:=Tryz.isAgg3
 z3:=Tryz.sizeOf3
 v3:=Tryz.zeroValue3
 t4:=Tryz.underlying4
 a4:=Tryz.isAgg4
 z4:=Tryz.sizeOf4
 v4:=Tryz.zeroValue4
 t5:=Tryz.underlying5
 a5:=Tryz.isAgg5
 z5:=Tryz.sizeOf5
 v5:=Tryz.zeroValue5
 t9:=Tryz.underlying9
 a9:=Tryz.isAgg9
 z9:=Tryz.sizeOf9
 v9:=Tryz.zeroValue9
 t46:=Tryz.underlying269
 a46:=Tryz.isAgg269
 z46:=Tryz.sizeOf269
 v46:=Tryz.zeroValue269
 t51:=Tryz.underlying267
 a51:=Tryz.isAgg267
 z51:=Tryz.sizeOf267
 v51:=Tryz.zeroValue267
 t146:=Tryz.underlying907
 a146:=Tryz.isAgg907
 z146:=Tryz.sizeOf907
 v146:=Tryz.zeroValue907
 g1:=by kernel_rfl }
end Go.Proofs
namespace Go.Proofs.YtkammpnldgkiiaaGreatDoor
open Go.Shelf Go.RowKit Go.Rt
theorem fCount:Tryz.laysCount_ren.f 138=450:=by kernel_rfl
theorem nK_(x0 x1:Str)(r:Int)(hF:strings_Count x0 x1=some r)(w0:World):Ret Tryz.prog 450 #[S x0,S x1] w0 λv w=>v = .int .i64 r/\Ext w0 w:=by
 unfold strings_Count at hF;split at hF
 .rename_i c;simp only[qOi]at hF;subst hF;have hh:=Any.strings_Count_one Tryz.laysCount ⟨x0.toArray⟩ c w0;rw[fCount]at hh;refine Calls.mono hh λe w ⟨he,hb⟩=>⟨_,he,?_,?_⟩
  .simp[Lib.countByte]
  .subst hb;exact Ext.refl _
 .cases hF
def fz_:Con te:=ae_ te [.d .str,.d .str] [(.int .i64,[])] false λa=>strings_Count a.1 a.2.1
theorem ey_:Con.OK Tryz.prog te 450 fz_/\bo_ Tryz.prog 450=true:=by
 refine⟨λR a k r hr => ?_,by kernel_rfl⟩;obtain⟨y,h1,h2⟩:=bind_some hr;exact⟨_,_,h2,hj_ (y:=y) rfl rfl rfl rfl rfl λw=>nK_ a.1 a.2.1 y h1 w⟩
end Go.Proofs.YtkammpnldgkiiaaGreatDoor
namespace Go.Proofs
open Go.Shelf
def Tryz.laysFormatInt_ren:Go.Shelf.Ren:=⟨λ | 173=>14 | 246=>35 | 283=>68 | 284=>69 | 285=>70 | 286=>71 | 129=>114 | 317=>113 | 318=>115 | 319=>116 | 320=>117 | 337=>177 | 338=>178|n=>n,λ | 2=>2 | 3=>3 | 9=>9 | 4=>4 | 171=>202 | 0=>0 | 53=>203 | 37=>206 | 5=>5 | 173=>207 | 212=>266 | 51=>267 | 20=>20 | 213=>268 | 46=>269 | 232=>434 | 233=>435|n=>n,λ | 17=>0 | 18=>1 | 19=>2|n=>n⟩
theorem Tryz.laysFormatInt:Go.Proofs.LaysM.n173 Tryz.prog Tryz.laysFormatInt_ren:={
 mixed:=by kernel_rfl
 f129:=Tryz.func114.trans (congrArg some (by kernel_rfl))
 f173:=Tryz.func14.trans (congrArg some (by kernel_rfl))
 f246:=Tryz.func35.trans (congrArg some (by kernel_rfl))
 f283:=Tryz.func68.trans (congrArg some (by kernel_rfl))
 f284:=Tryz.func69.trans (congrArg some (by kernel_rfl))
 f285:=Tryz.func70.trans (congrArg some (by kernel_rfl))
 f286:=Tryz.func71.trans (congrArg some (by kernel_rfl))
 f317:=Tryz.func113.trans (congrArg some (by kernel_rfl))
 f318:=Tryz.func115.trans (congrArg some (by kernel_rfl))
 f319:=Tryz.func116.trans (congrArg some (by kernel_rfl))
 f320:=Tryz.func117.trans (congrArg some (by kernel_rfl))
 f337:=Tryz.func177.trans (congrArg some (by kernel_rfl))
 f338:=Tryz.func178.trans (congrArg some (by kernel_rfl))
 t0:=Tryz.underlying0
 a0:=Tryz.isAgg0
 z0:=Tryz.sizeOf0
 v0:=Tryz.zeroValue0
 t2:=Tryz.underlying2
 a2:=Tryz.isAgg2
 z2:=Tryz.sizeOf2
 v2:=Tryz.zeroValue2
 t3:=Tryz.underlying3
 a3:=Tryz.isAgg3
 z3:=Tryz.sizeOf3
 v3:=Tryz.zeroValue3
 t4:=Tryz.underlying4
 a4:=Tryz.isAgg4
 z4:=Tryz.sizeOf4
 v4:=Tryz.zeroValue4
 t5:=Tryz.underlying5
 a5:=Tryz.isAgg5
 z5:=Tryz.sizeOf5
 v5:=Tryz.zeroValue5
 t9:=Tryz.underlying9
 a9:=Tryz.isAgg9
 z9:=Tryz.sizeOf9
 v9:=Tryz.zeroValue9
 t20:=Tryz.underlying20
 a20:=Tryz.isAgg20
 z20:=Tryz.sizeOf20
 v20:=Tryz.zeroValue20
 t37:=Tryz.underlying206
 a37:=Tryz.isAgg206
 z37:=Tryz.sizeOf206
 v37:=Tryz.zeroValue206
 t46:=Tryz.underlying269
 a46:=Tryz.isAgg269
 z46:=Tryz.sizeOf269
 v46:=Tryz.zeroValue269
 t51:=Tryz.underlying267
 a51:=Tryz.isAgg267
 z51:=Tryz.sizeOf267
 v51:=Tryz.zeroValue267
 t53:=Tryz.underlying203
 a53:=Tryz.isAgg203
 z53:=Tryz.sizeOf203
 v53:=Tryz.zeroValue203
 t171:=Tryz.underlying202
 a171:=Tryz.isAgg202
 z171:=Tryz.sizeOf202
 v171:=Tryz.zeroValue202
 t173:=Tryz.underlying207
 a173:=Tryz.isAgg207
 z173:=Tryz.sizeOf207
 v173:=Tryz.zeroValue207
 t212:=Tryz.underlying266
 a212:=Tryz.isAgg266
 z212:=Tryz.sizeOf266
 v212:=Tryz.zeroValue266
 t213:=Tryz.underlying268
 a213:=Tryz.isAgg268
 z213:=Tryz.sizeOf268
 t232:=Tryz.underlying434
 a232:=Tryz.isAgg434
 z232:=Tryz.sizeOf434
 v232:=Tryz.zeroValue434
 t233:=Tryz.underlying435
 a233:=Tryz.isAgg435
 z233:=Tryz.sizeOf435
 v233:=Tryz.zeroValue435
 g17:=by kernel_rfl
 g18:=by kernel_rfl
 g19:=by kernel_rfl
 i0:=by kernel_rfl
 i2:=by kernel_rfl
 i3:=by kernel_rfl
 i4:=by kernel_rfl
 i5:=by kernel_rfl
 i9:=by kernel_rfl
 i20:=by kernel_rfl
 i37:=by kernel_rfl
 i46:=by kernel_rfl
 i51:=by kernel_rfl
 i53:=by kernel_rfl
 i171:=by kernel_rfl
 i173:=by kernel_rfl
 i212:=by kernel_rfl
 i232:=by kernel_rfl
 i233:=by kernel_rfl
 m17:=by kernel_rfl
 m18:=by kernel_rfl
 m19:=by kernel_rfl }
end Go.Proofs
namespace Go.Proofs.YtkammpnldgkiiaaGreatDoor
open Go.Shelf Go.RowKit Go.Rt
theorem fFormatInt:Tryz.laysFormatInt_ren.f 173=14:=by kernel_rfl
theorem digF_eq:∀(f u:Nat),u<10^(f+1)->digF (f+1) u=Lib.decDigits u
 | 0,u,h=>by
  have h1:u<10:=by simpa using h
  rw[Lib.decDigits,dif_pos h1];unfold digF;rw[if_pos h1]
 | f+1,u,h=>by
  rw[Lib.decDigits,digF];by_cases h1:u<10
  .rw[if_pos h1,dif_pos h1]
  .rw[if_neg h1,dif_neg h1,digF_eq f (u/10) (by rw[Nat.pow_succ]at h;omega)]
theorem pow10_in {w : World} {z : Fz} (hz : z.In w) (hg : Glo te z) : Lib.TabIs Tryz.prog w "internal/strconv.uint64pow10" .u64 Lib.pow10Tab := by
 obtain⟨hF,r,hr,_,e,c,hh⟩:=hg 0 globPT globP rfl;obtain⟨v1,e1,hr⟩:=RD.int_inv hr;obtain⟨v2,e2,hr⟩:=RD.int_inv hr;obtain⟨v3,e3,hr⟩:=RD.int_inv hr;obtain⟨v4,e4,hr⟩:=RD.int_inv hr;obtain⟨v5,e5,hr⟩:=RD.int_inv hr;obtain⟨v6,e6,hr⟩:=RD.int_inv hr;obtain⟨v7,e7,hr⟩:=RD.int_inv hr;obtain⟨v8,e8,hr⟩:=RD.int_inv hr;obtain⟨v9,e9,hr⟩:=RD.int_inv hr;obtain⟨v10,e10,hr⟩:=RD.int_inv hr;obtain⟨v11,e11,hr⟩:=RD.int_inv hr;obtain⟨v12,e12,hr⟩:=RD.int_inv hr;obtain⟨v13,e13,hr⟩:=RD.int_inv hr;obtain⟨v14,e14,hr⟩:=RD.int_inv hr;obtain⟨v15,e15,hr⟩:=RD.int_inv hr;obtain⟨v16,e16,hr⟩:=RD.int_inv hr;obtain⟨v17,e17,hr⟩:=RD.int_inv hr
 obtain⟨v18,e18,hr⟩:=RD.int_inv hr;obtain⟨v19,e19,hr⟩:=RD.int_inv hr;obtain⟨v20,e20,hr⟩:=RD.int_inv hr;have e21:=hr.nil_inv;subst e21 e20 e19 e18 e17 e16 e15 e14 e13 e12 e11 e10 e9 e8 e7 e6 e5 e4 e3 e2 e1;have hw:=(hz _ hF).2.trans hh;unfold Lib.TabIs World.var?
 have hn : (Tryz.prog).globalNamed "internal/strconv.uint64pow10" = some 0 := by kernel_rfl
 rw[hn];simp only[Option.bind_some,hw];have ht:Lib.pow10Tab=[1,10,100,1000,10000,100000,1000000,10000000,100000000,1000000000,10000000000,100000000000,1000000000000,10000000000000,100000000000000,1000000000000000,10000000000000000,100000000000000000,1000000000000000000,10000000000000000000]:=by decide +kernel
 rw[ht];rfl
theorem jq_(x0 x1:Int)(r:Str)(hF:bM_ x0 x1=some r)(w0:World)(z:Fz)(hz:z.In w0)(hg:Glo te z):Ret Tryz.prog 14 #[.int .i64 x0,.int .i64 x1] w0 λv w=>v=S r/\Ext w0 w:=by
 unfold bM_ at hF;split at hF
 .rename_i h;obtain⟨rfl,h1,h2⟩:=h;obtain rfl:=qSj hF;have hh:=Any.strconv_FormatInt_10 Tryz.laysFormatInt x0 h1 h2 w0 (pow10_in hz hg);rw[fFormatInt]at hh;refine Calls.mono hh λe w ⟨he,k,os,hb⟩=>⟨_,he,?_,⟨os,(w0.drewN k).drawn,hb⟩⟩
  unfold Lib.itoa;by_cases h0:x0<0
  .rw[if_pos h0,if_pos h0,digF_eq 19 _ (by omega)];rfl
  .rw[if_neg h0,if_neg h0,digF_eq 19 _ (by omega)];rfl
 .cases hF
def h7_:Con te:=ae_ te [.d (.int .i64),.d (.int .i64)] [(.str,[])] false λa=>bM_ a.1 a.2.1
theorem gB_:Con.OK Tryz.prog te 14 h7_/\bo_ Tryz.prog 14=true:=by
 refine⟨λR a k r hr => ?_,by kernel_rfl⟩;obtain⟨y,h1,h2⟩:=bind_some hr;exact⟨_,_,h2,jY_ (y:=y) rfl rfl rfl rfl rfl λw z hz hg=>jq_ a.1 a.2.1 y h1 w z hz hg⟩
end Go.Proofs.YtkammpnldgkiiaaGreatDoor
namespace Go.Proofs
open Go.Shelf Go.RowKit Go.Rt
variable{P:Program}{ρ:Ren}
def dl_(T e:TypeId)(b:Nat)(w w':World):Prop:=∃A cap,w'.heap[b]? = some (.cells #[.pointer (some ⟨b,0,none⟩),.slice A 0 cap] T (0,0))/\((A=none/\cap=0)\/∃q cs,A=some ⟨q,0,none⟩/\w.heap.size<=q/\w'.heap[q]? = some (.cells cs e (0,0))/\cs.size=cap/\cap<=maxLen)/\Grow w w'/\∀k,k<w.heap.size->k≠b->w'.heap[k]? = w.heap[k]?
theorem grownF_row{T e:TypeId}{b:Nat}{w:World}{cs:Array Value}(hbk:w.heap[b]? = some (.cells #[.pointer (some ⟨b,0,none⟩),.slice none 0 0] T (0,0)))(hm:cs.size<=maxLen) :
  dl_ T e b w ((w.alloc (.cells cs e)).setCell ⟨b,1,none⟩ (.slice (some ⟨w.heap.size,0,none⟩) 0 cs.size)).drew.drew.drew:=by
 have hlt:b<w.heap.size:=by
  rcases Nat.lt_or_ge b w.heap.size with h'|h'
  .exact h'
  .simp[Array.getElem?_eq_none h']at hbk
 have hb2:(w.alloc (.cells cs e)).heap[b]? = some (.cells #[.pointer (some ⟨b,0,none⟩),.slice none 0 0] T (0,0)):=(Lib.alloc_old w _ b hlt).trans hbk;have hq2:(w.alloc (.cells cs e)).heap[w.heap.size]? = some (.cells cs e (0,0)):=by
  show(w.heap.push _)[w.heap.size]? = _;simp
 refine⟨some ⟨w.heap.size,0,none⟩,cs.size,?_,.inr ⟨w.heap.size,cs,rfl,Nat.le_refl _,?_,rfl,hm⟩,⟨rfl,rfl,rfl,?_⟩,λk hk hne => ?_⟩
 .show((w.alloc (.cells cs e)).setCell ⟨b,1,none⟩ (.slice (some ⟨w.heap.size,0,none⟩) 0 cs.size)).heap[b]? = _;simp[World.setCell,Array.getElem?_modify,hb2]
 .show((w.alloc (.cells cs e)).setCell ⟨b,1,none⟩ (.slice (some ⟨w.heap.size,0,none⟩) 0 cs.size)).heap[w.heap.size]? = _;simp only[World.setCell,Array.getElem?_modify];rw[if_neg (by omega),hq2]
 .show w.heap.size<=((w.alloc (.cells cs e)).setCell ⟨b,1,none⟩ (.slice (some ⟨w.heap.size,0,none⟩) 0 cs.size)).heap.size;simp only[World.setCell,Array.size_modify];exact(Grow.of_below (Ext.one w _).below).size
 .show((w.alloc (.cells cs e)).setCell ⟨b,1,none⟩ (.slice (some ⟨w.heap.size,0,none⟩) 0 cs.size)).heap[k]? = _;simp only[World.setCell,Array.getElem?_modify];rw[if_neg (λe=>hne e.symm)];exact Lib.alloc_old w _ k hk
set_option maxHeartbeats 2000000 in
set_option maxRecDepth 1000000 in
theorem Any.Builder_grow_f(L:Lays.n241 P ρ)(X:Builder.Extra P ρ)(b n:Nat)(w:World)(hbk:w.heap[b]? = some (.cells #[.pointer (some ⟨b,0,none⟩),.slice none 0 0] (ρ.t 72) (0,0)))(hn:n<=281474976710656) :
  Calls P (ρ.f 241) #[.pointer (some ⟨b,0,none⟩),.int .i64 n] w λe w'=>e = .returned (.tuple #[])/\dl_ (ρ.t 72) (ρ.t 5) b w w':=by
 obtain⟨cs,hrun,hle,hmax⟩:=Lib.run_makeNoZero (P:=P) w.drew #[(ρ.t 3)] (ρ.t 37) (ρ.t 5) L.t37 n hn;have hw:IntKind.i64.wrap (IntKind.i64.wrap 0+(n:Int))=n:=by
  rw[IntKind.wrap_i64,IntKind.wrap_i64];omega
 have hcall:(callFunc (ρ.f 277) #[.int .i64 (IntKind.i64.wrap (IntKind.i64.wrap 0+(n:Int)))]).run P w.drew = .ok (.value (.slice (some ⟨w.drew.heap.size,0,none⟩) n cs.size)) (w.drew.drew.drew.alloc (.cells cs (ρ.t 5))):=by
  rw[hw,run_callFunc_extern L.f277 (by kernel_rfl) (by kernel_rfl) (by kernel_rfl) (e:=Extern.BytealgMakeNoZero.makeNoZero #[(ρ.t 3)] #[(ρ.t 37)]) (by kernel_rfl),hrun];rfl
 have c1:w.drew.cell? ⟨b,1,none⟩=some (.slice none 0 0):=by
  have:w.drew.heap[b]? = _:=hbk;rw[Lib.cell_of_heap this];rfl
 have c2:(w.alloc (.cells cs (ρ.t 5))).cell? ⟨b,1,none⟩=some (.slice none 0 0):=by
  have hlt:b<w.heap.size:=by
   rcases Nat.lt_or_ge b w.heap.size with h'|h'
   .exact h'
   .simp[Array.getElem?_eq_none h']at hbk
  have:(w.alloc (.cells cs (ρ.t 5))).heap[b]? = _:=(Lib.alloc_old w _ b hlt).trans hbk;rw[Lib.cell_of_heap this];rfl
 have f2:(w.alloc (.cells cs (ρ.t 5))).frozen? ⟨b,1,none⟩=false:=by
  have hlt:b<w.heap.size:=by
   rcases Nat.lt_or_ge b w.heap.size with h'|h'
   .exact h'
   .simp[Array.getElem?_eq_none h']at hbk
  exact Lib.frozen_of_heap ((Lib.alloc_old w _ b hlt).trans hbk) 1
 have hcopy:∀W:World,(Builtin.copy_ #[(ρ.t 37),(ρ.t 37)] (ρ.t 3) #[.slice (some ⟨w.heap.size,0,none⟩) 0 cs.size,.slice none 0 0]).run P W = .ok (goInt 0) W :=
  λW=>run_copy_none W (ρ.t 37) (ρ.t 37) (ρ.t 3) (ρ.t 5) _ _ 0 cs.size 0 0 L.t37 X.sizeByte rfl
 clear hw;have mixed:=L.mixed;have t72:=L.t72;have a72:=L.a72;have z72:=L.z72;have v72:=L.v72;have u72:=run_underlying L.t72;have t70:=L.t70;have a70:=L.a70;have z70:=L.z70;have v70:=L.v70;have u70:=run_underlying L.t70;have t37:=L.t37;have a37:=L.a37;have z37:=L.z37;have v37:=L.v37;have u37:=run_underlying L.t37;have t3:=L.t3;have a3:=L.a3;have z3:=L.z3;have v3:=L.v3;have u3:=run_underlying L.t3;have t5:=X.t5;have a5:=X.a5;have z5:=X.z5;have v5:=X.v5;have u5:=run_underlying X.t5
 go_enter L.f241,Body.n241_ntmps ρ
 go_wp2
 have hfin:=grownF_row (T:=(ρ.t 72)) (e:=(ρ.t 5)) (cs:=cs) hbk (hmax (by unfold maxLen;omega))
 go_region_o
 all_goals (go_wp2;go_end0;exact⟨rfl,hfin⟩)
set_option maxHeartbeats 2000000 in
set_option maxRecDepth 1000000 in
theorem Any.Builder_Grow_f(L:Lays.n165 P ρ)(X:Builder.Extra P ρ)(b n:Nat)(w:World)(hbk:w.heap[b]? = some (.cells #[.pointer none,.slice none 0 0] (ρ.t 72) (0,0)))(hn:n<=281474976710656) :
  Calls P (ρ.f 165) #[.pointer (some ⟨b,0,none⟩),.int .i64 n] w λe w'=>e = .returned (.tuple #[])/\dl_ (ρ.t 72) (ρ.t 5) b w w':=by
 have hbk1:(w.setCell ⟨b,0,none⟩ (.pointer (some ⟨b,0,none⟩))).heap[b]? = some (.cells #[.pointer (some ⟨b,0,none⟩),.slice none 0 0] (ρ.t 72) (0,0)):=by
  simp[World.setCell,Array.getElem?_modify,hbk]
 have c1:(w.setCell ⟨b,0,none⟩ (.pointer (some ⟨b,0,none⟩))).cell? ⟨b,1,none⟩=some (.slice none 0 0):=by rw[Lib.cell_of_heap hbk1];rfl
 have hsz:(w.setCell ⟨b,0,none⟩ (.pointer (some ⟨b,0,none⟩))).heap.size=w.heap.size:=by simp[World.setCell]
 have hoth:∀k,k≠b->(w.setCell ⟨b,0,none⟩ (.pointer (some ⟨b,0,none⟩))).heap[k]? = w.heap[k]? := λk hk=>by
  simp only[World.setCell,Array.getElem?_modify];rw[if_neg (λe=>hk e.symm)]
 have mixed:=L.mixed;have t72:=L.t72;have a72:=L.a72;have z72:=L.z72;have v72:=L.v72;have u72:=run_underlying L.t72;have t70:=L.t70;have a70:=L.a70;have z70:=L.z70;have v70:=L.v70;have u70:=run_underlying L.t70;have t37:=L.t37;have a37:=L.a37;have z37:=L.z37;have v37:=L.v37;have u37:=run_underlying L.t37;have t3:=L.t3;have a3:=L.a3;have z3:=L.z3;have v3:=L.v3;have u3:=run_underlying L.t3;have t9:=L.t9;have a9:=L.a9;have z9:=L.z9;have v9:=L.v9;have u9:=run_underlying L.t9;have t4:=L.t4;have a4:=L.a4;have z4:=L.z4;have v4:=L.v4;have u4:=run_underlying L.t4;have t164:=L.t164;have a164:=L.a164;have z164:=L.z164;have v164:=L.v164;have u164:=run_underlying L.t164
 have t5:=X.t5;have a5:=X.a5;have z5:=X.z5;have v5:=X.v5;have u5:=run_underlying X.t5;have e240:∀args w,(callFunc (ρ.f 240) args).run P w = .ok (.enter (ρ.f 240) args) w:=enters_of L.f240 (by kernel_rfl) rfl;have e241:∀args w,(callFunc (ρ.f 241) args).run P w = .ok (.enter (ρ.f 241) args) w:=enters_of L.f241 (by kernel_rfl) rfl
 go_enter L.f165,Body.n165_ntmps ρ
 have hU:dl_ (ρ.t 72) (ρ.t 5) b w (w.setCell ⟨b,0,none⟩ (.pointer (some ⟨b,0,none⟩))):=⟨none,0,hbk1,.inl ⟨rfl,rfl⟩,⟨rfl,rfl,rfl,by rw[hsz];exact Nat.le_refl _⟩,λk _ hne=>hoth k hne⟩;have hV:∀w',dl_ (ρ.t 72) (ρ.t 5) b (w.setCell ⟨b,0,none⟩ (.pointer (some ⟨b,0,none⟩))).drew w'->dl_ (ρ.t 72) (ρ.t 5) b w w':=λw' ⟨A,cap,h1,h2,h3,h4⟩=>by
  have hg:Grow w (w.setCell ⟨b,0,none⟩ (.pointer (some ⟨b,0,none⟩))).drew:=⟨rfl,rfl,rfl,by show w.heap.size<=(w.setCell ⟨b,0,none⟩ (.pointer (some ⟨b,0,none⟩))).heap.size;rw[hsz];exact Nat.le_refl _⟩;have hs2:(w.setCell ⟨b,0,none⟩ (.pointer (some ⟨b,0,none⟩))).drew.heap.size=w.heap.size:=hsz;refine⟨A,cap,h1,?_,hg.trans h3,λk hk hne=>(h4 k (by rw[hs2];exact hk) hne).trans (hoth k hne)⟩;rcases h2 with h2|⟨q,cs,q1,q2,q3⟩
  .exact .inl h2
  .rw[hs2]at q2;exact .inr ⟨q,cs,q1,q2,q3⟩
 have c1':(w.setCell ⟨b,0,none⟩ (.pointer (some ⟨b,0,none⟩))).drew.cell? ⟨b,1,none⟩=some (.slice none 0 0):=c1
 go_wp2_with (go_at_fn (ρ.f 240);refine(Any.Builder_copyCheck_fresh { L with } X.toX72 b w (by rw[Lib.cell_of_heap hbk];rfl) (by simp[World.shape?,hbk]) (Lib.frozen_of_heap hbk 0)).mono ?_;rintro e w' ⟨rfl,rfl⟩)
 go_region_o
 all_goals go_wp2_with (go_at_fn (ρ.f 241);refine(Any.Builder_grow_f { L with } X b n (w.setCell ⟨b,0,none⟩ (.pointer (some ⟨b,0,none⟩))).drew hbk1 hn).mono ?_;rintro e w' ⟨rfl,h1⟩)
 all_goals first
  | (go_end0;exact⟨rfl,hV _ h1⟩)
  | (go_end0;exact⟨rfl,hU⟩)
  | (go_end0;exact⟨rfl,hV _ ⟨none,0,hbk1,.inl ⟨rfl,rfl⟩,⟨rfl,rfl,rfl,Nat.le_refl _⟩,λ_ _ _=>rfl⟩⟩)
set_option maxHeartbeats 2000000 in
set_option maxRecDepth 1000000 in
theorem Any.Builder_Grow_u(L:Lays.n165 P ρ)(X:Builder.Extra P ρ)(b n:Nat)(w:World)(hbk:w.heap[b]? = some (.cells #[.pointer (some ⟨b,0,none⟩),.slice none 0 0] (ρ.t 72) (0,0)))(hn:n<=281474976710656) :
  Calls P (ρ.f 165) #[.pointer (some ⟨b,0,none⟩),.int .i64 n] w λe w'=>e = .returned (.tuple #[])/\dl_ (ρ.t 72) (ρ.t 5) b w w':=by
 have c1:w.cell? ⟨b,1,none⟩=some (.slice none 0 0):=by rw[Lib.cell_of_heap hbk];rfl
 have mixed:=L.mixed;have t72:=L.t72;have a72:=L.a72;have z72:=L.z72;have v72:=L.v72;have u72:=run_underlying L.t72;have t70:=L.t70;have a70:=L.a70;have z70:=L.z70;have v70:=L.v70;have u70:=run_underlying L.t70;have t37:=L.t37;have a37:=L.a37;have z37:=L.z37;have v37:=L.v37;have u37:=run_underlying L.t37;have t3:=L.t3;have a3:=L.a3;have z3:=L.z3;have v3:=L.v3;have u3:=run_underlying L.t3;have t9:=L.t9;have a9:=L.a9;have z9:=L.z9;have v9:=L.v9;have u9:=run_underlying L.t9;have t4:=L.t4;have a4:=L.a4;have z4:=L.z4;have v4:=L.v4;have u4:=run_underlying L.t4;have t164:=L.t164;have a164:=L.a164;have z164:=L.z164;have v164:=L.v164;have u164:=run_underlying L.t164
 have t5:=X.t5;have a5:=X.a5;have z5:=X.z5;have v5:=X.v5;have u5:=run_underlying X.t5;have e240:∀args w,(callFunc (ρ.f 240) args).run P w = .ok (.enter (ρ.f 240) args) w:=enters_of L.f240 (by kernel_rfl) rfl;have e241:∀args w,(callFunc (ρ.f 241) args).run P w = .ok (.enter (ρ.f 241) args) w:=enters_of L.f241 (by kernel_rfl) rfl
 go_enter L.f165,Body.n165_ntmps ρ
 have hU:dl_ (ρ.t 72) (ρ.t 5) b w w:=⟨none,0,hbk,.inl ⟨rfl,rfl⟩,Grow.refl w,λ_ _ _=>rfl⟩;have hV:∀w',dl_ (ρ.t 72) (ρ.t 5) b w.drew w'->dl_ (ρ.t 72) (ρ.t 5) b w w':=λw' ⟨A,cap,h1,h2,h3,h4⟩=>⟨A,cap,h1,h2,(show Grow w w.drew from⟨rfl,rfl,rfl,Nat.le_refl _⟩).trans h3,h4⟩
 have c1':w.drew.cell? ⟨b,1,none⟩=some (.slice none 0 0):=c1
 go_wp2_with (go_at_fn (ρ.f 240);refine(Any.Builder_copyCheck_used { L with } X.toX72 b w (by rw[Lib.cell_of_heap hbk];rfl)).mono ?_;rintro e w' ⟨rfl,hw⟩;rw[hw];clear hw w')
 go_region_o
 all_goals go_wp2_with (go_at_fn (ρ.f 241);refine(Any.Builder_grow_f { L with } X b n w.drew hbk hn).mono ?_;rintro e w' ⟨rfl,h1⟩)
 all_goals first
  | (go_end0;exact⟨rfl,hV _ h1⟩)
  | (go_end0;exact⟨rfl,hU⟩)
  | (go_end0;exact⟨rfl,hV _ ⟨none,0,hbk,.inl ⟨rfl,rfl⟩,Grow.refl _,λ_ _ _=>rfl⟩⟩)
end Go.Proofs
namespace Go
namespace Rt
open Go.RowKit Go.Proofs Go.Shelf
section
variable{P:Program}{E:TE}{z:Fz}{g:Ga}{w w' w0:World}{Bs:List Nat}{F0:Nat->Prop}{H H':Nat->Option (Obj E)}
theorem HR.know{n:Nat}{o:Obj E}(h:HR P E Bs F0 w0 w z g H)(ho:ObjR P E z g w n o)(hf:∀k,fpO g n o k->w0.heap.size<=k/\¬z.F k/\∀j p,H j=some p->¬fpO g j p k):HR P E Bs F0 w0 w z g (upH H [(n,some o)]):=by
 refine⟨h.chg,λj p e => ?_,λj p k e hk => ?_,λj j' p p' k hj e e' hk hk' => ?_,h.fz,h.fz0,λj p k e hk => ?_,h.gl⟩
 .rcases ax_ e with⟨rfl,rfl⟩|⟨_,h2⟩
  .exact ho
  .exact h.hold j p h2
 .rcases ax_ e with⟨rfl,rfl⟩|⟨_,h2⟩
  .exact .inl (hf k hk).1
  .exact h.own j p k h2 hk
 .rcases ax_ e with⟨rfl,rfl⟩|⟨_,h2⟩<;>rcases ax_ e' with⟨rfl,rfl⟩|⟨_,h2'⟩
  .exact hj rfl
  .exact(hf k hk).2.2 j' p' h2' hk'
  .exact(hf k hk').2.2 j p h2 hk
  .exact h.apart j j' p p' k hj h2 h2' hk hk'
 .rcases ax_ e with⟨rfl,rfl⟩|⟨_,h2⟩
  .exact(hf k hk).2.1
  .exact h.fza j p k h2 hk
def growI(E:TE)(e:TypeId):InlF E:=λH nx xs _ k=>match xs with
 | [.one (.ptr id 0),.one (.dt (.int .i64) n)]=>match H id with
  | some (.box T [.sbp id',.nils])=>match Nat.beq id id'&&E.sb T with
   | true=>Option.bind (growB [] n) λz=>k (some (.tup [])) [(id,some (.box T [.sbp id,.own nx])),(nx,some (.row e (.int .u8) z []))]
   | false=>none
  | _=>none
 | _=>none
theorem growI_ok {ρ:Ren} (L:Lays.n165 P ρ) (X:Builder.Extra P ρ) (hsz:E.size (.int .u8)=1) (hsb:∀T,E.sb T=true->T=ρ.t 72):InlOK P E (ρ.f 165) (growI E (ρ.t 5)):=by
 intro z g nx H xs vs R k r Bs F0 w0 w hnx hH hv h;unfold growI at h;split at h
 .rename_i id n;split at h
  .rename_i T id' hi;split at h
   .rename_i hb;simp only[qAn]at hb;obtain rfl:=qNb hb.1;have hT:=hsb T hb.2;subst hT;obtain⟨y,hy,hk9⟩:=bind_some h;clear h;unfold growB at hy;cases hc:(decide (0<=n)&&decide (n<=281474976710656))with
    | false=>rw[hc]at hy;cases hy
    | true =>
     rw[hc]at hy;simp only[qAn,decide_eq_true_eq]at hc;obtain rfl:=qSj (show some ([]:List Int)=some y from hy);cases hv with
     | cons v1 hv=>cases hv with
      | cons v2 hv =>
       cases hv
       obtain⟨l,h1,rfl⟩:=v1;obtain⟨vs2,e2,_⟩:=RD.int_inv (show RD E z [.int .i64] (n,()) _ from v2);obtain⟨rfl,_⟩:=List.cons.inj e2;obtain⟨n,rfl⟩:∃q:Nat,n=(q:Int):=⟨Int.toNat n,(Int.toNat_of_nonneg hc.1).symm⟩;have hn2:(n:Int)<=281474976710656:=hc.2;obtain⟨l',us,h2,h3,h4⟩:=hH.hold _ _ hi;rw[h1]at h2;obtain rfl:=qSj h2;cases h4 with
       | cons c1 h4=>cases h4 with
        | cons c2 h4 =>
         cases h4
         rename_i u1 u2;obtain rfl:u2 = .slice none 0 0:=c2;obtain⟨l2,h5,h6⟩:=c1;rw[h1]at h5;obtain rfl:=qSj h5
         -- what the world is behind it
         have key:Calls P (ρ.f 165) #[.pointer (some ⟨l.b,0,none⟩),.int .i64 n] w λe w'=>e = .returned (.tuple #[])/\dl_ (ρ.t 72) (ρ.t 5) l.b w w':=by
          rcases h6 with rfl|rfl
          .exact Any.Builder_Grow_f L X l.b n w h3 (by omega)
          .exact Any.Builder_Grow_u L X l.b n w h3 (by omega)
         refine Calls.mono key λe w' ⟨he,A,cap,q1,q2,q3,q4⟩ => ?_
         have hnn:g nx=none:=hnx.self;have hid:id≠nx:=λe=>by rw[e,hnn]at h1;cases h1
         have hlt:l.b<w.heap.size:=by
          rcases Nat.lt_or_ge l.b w.heap.size with h'|h'
          .exact h'
          .rw[Array.getElem?_eq_none h']at h3;cases h3
         refine⟨_,he,.tup [],_,z,g.put nx ⟨A,0,cap,1,0,0⟩,hk9,Fz.Le.refl z,Ga.le_put hnn,Fresh.nxU λi hi=>hnx.put _ i (by omega),⟨[],rfl,.nil⟩,?_⟩;have step1:HR P E Bs F0 w0 w' z (g.put nx ⟨A,0,cap,1,0,0⟩) (upH H [(id,some (.box (ρ.t 72) [.sbp id,.own nx]))]):=by
          refine hH.turn (Ga.le_put hnn) (i:=id) (i':=id) (C:=λk=>k=l.b) (λk hk=>⟨_,hi,l,h1,hk⟩) q3 (λk hk hne=>q4 k hk hne) (o' := .box (ρ.t 72) [.sbp id,.own nx]) ?_ (λk hk => ?_) λj p hj => ?_
          .refine⟨l,_,Ga.le_put hnn _ _ h1,q1,.cons ⟨l,Ga.le_put hnn _ _ h1,.inr rfl⟩ (.cons ⟨_,Ga.put_self _ _ _,rfl⟩ .nil)⟩
          .obtain⟨l2,h5,rfl⟩:=hk;rw[Ga.le_put hnn _ _ h1]at h5;obtain rfl:=qSj h5;exact .inl rfl
          .rcases ax_ hj with⟨rfl,rfl⟩|⟨h5,h6⟩
           .exact .inl ⟨rfl,rfl⟩
           .exact .inr ⟨h5,.inl h5,h6⟩
         have e4:upH H [(id,some (.box (ρ.t 72) [.sbp id,.own nx])),(nx,some (.row (ρ.t 5) (.int .u8) ([]:List Int) []))]=upH (upH H [(id,some (.box (ρ.t 72) [.sbp id,.own nx]))]) [(nx,some (.row (ρ.t 5) (.int .u8) ([]:List Int) []))]:=by
          funext j
          simp only[upH];cases hj:Nat.beq j id with
          | false=>rfl
          | true =>
           have:Nat.beq j nx=false:=by
            cases hn:Nat.beq j nx with
            | false=>rfl
            | true=>exact absurd ((qNb hj).symm.trans (qNb hn)) hid
           rw[this]
         rw[e4];refine step1.know ?_ λk hk => ?_
         .refine⟨_,[],Ga.put_self _ _ _,rfl,hsz.symm,⟨rfl,?_⟩,rfl,(λr hr=>nomatch hr),(λi x r hx=>by simp at hx),λp hp=>nomatch hp⟩;rcases q2 with⟨rfl,rfl⟩|⟨q,cs,rfl,_,hq,hcs,hcm⟩
          .exact .inl ⟨rfl,rfl⟩
          .exact .inr ⟨q,cap,cs,rfl,Nat.zero_le _,hq,Nat.zero_le _,hcm,by rw[hcs,Nat.mul_one],by simp⟩
         .obtain⟨l2,a2,h5,h6,rfl⟩:=hk;rw[Ga.put_self]at h5;obtain rfl:=qSj h5;rcases q2 with⟨rfl,_⟩|⟨q,cs,rfl,hq0,hq,hcs,hcm⟩
          .cases h6
          .obtain rfl:=qSj h6;refine⟨Nat.le_trans hH.size hq0,λhz => ?_,λj p hj hfp => ?_⟩
           .have:=(hH.fz _ hz).1;have:q<w.heap.size:=this;omega
           .rcases ax_ hj with⟨rfl,rfl⟩|⟨h7,h8⟩
            .obtain⟨l3,h9,h10⟩:=hfp;rw[Ga.le_put hnn _ _ h1]at h9;obtain rfl:=qSj h9;have:q=l.b:=h10;omega
            .have h11:=(eh_ (hH.hold j p h8).loc (Ga.le_put hnn)).1 hfp;have:q<w.heap.size:=(hH.hold j p h8).lt h11;omega
   .cases h
  .cases h
 .cases h
end
end Rt
end Go
namespace Go.Proofs
open Go.Shelf
def Tryz.laysGrow_ren:Go.Shelf.Ren:=⟨λ | 165=>339 | 240=>408 | 241=>452 | 276=>526 | 277=>570|n=>n,λ | 70=>470 | 3=>3 | 0=>0 | 4=>4 | 9=>9 | 20=>20 | 72=>472 | 37=>206 | 164=>696 | 5=>5|n=>n,λ|n=>n⟩
theorem Tryz.laysGrow:Go.Proofs.Lays.n165 Tryz.prog Tryz.laysGrow_ren:={
 mixed:=by kernel_rfl
 f165:=Tryz.func339.trans (congrArg some (by kernel_rfl))
 f240:=Tryz.func408.trans (congrArg some (by kernel_rfl))
 f241:=Tryz.func452.trans (congrArg some (by kernel_rfl))
 f276:=Tryz.func526.trans (congrArg some (by kernel_rfl))
 f277:=Tryz.func570.trans (congrArg some (by kernel_rfl))
 t0:=Tryz.underlying0
 a0:=Tryz.isAgg0
 z0:=Tryz.sizeOf0
 v0:=Tryz.zeroValue0
 t3:=Tryz.underlying3
 a3:=Tryz.isAgg3
 z3:=Tryz.sizeOf3
 v3:=Tryz.zeroValue3
 t4:=Tryz.underlying4
 a4:=Tryz.isAgg4
 z4:=Tryz.sizeOf4
 v4:=Tryz.zeroValue4
 t9:=Tryz.underlying9
 a9:=Tryz.isAgg9
 z9:=Tryz.sizeOf9
 v9:=Tryz.zeroValue9
 t20:=Tryz.underlying20
 a20:=Tryz.isAgg20
 z20:=Tryz.sizeOf20
 v20:=Tryz.zeroValue20
 t37:=Tryz.underlying206
 a37:=Tryz.isAgg206
 z37:=Tryz.sizeOf206
 v37:=Tryz.zeroValue206
 t70:=Tryz.underlying470
 a70:=Tryz.isAgg470
 z70:=Tryz.sizeOf470
 v70:=Tryz.zeroValue470
 t72:=Tryz.underlying472
 a72:=Tryz.isAgg472
 z72:=Tryz.sizeOf472
 v72:=Tryz.zeroValue472
 t164:=Tryz.underlying696
 a164:=Tryz.isAgg696
 z164:=Tryz.sizeOf696
 v164:=Tryz.zeroValue696 }
end Go.Proofs
namespace Go.Proofs.YtkammpnldgkiiaaGreatDoor
open Go.Shelf Go.RowKit Go.Rt
theorem Tryz.extraGrow:Builder.Extra Tryz.prog Tryz.laysGrow_ren where
 sizeBuilder:=by kernel_rfl
 liesBuilder:=by kernel_rfl
 t5:=Tryz.underlying5
 a5:=Tryz.isAgg5
 z5:=Tryz.sizeOf5
 v5:=Tryz.zeroValue5
 infoByte:=by kernel_rfl
 cellsByte:=by kernel_rfl
 sizeByte:=by kernel_rfl
 neB5:=by decide
theorem fGrow:Tryz.laysGrow_ren.f 165=339:=by kernel_rfl
theorem tGrow:Tryz.laysGrow_ren.t 5=5:=by kernel_rfl
def mj_:InlF te:=growI te 5
theorem lD_:InlOK Tryz.prog te 339 mj_/\bo_ Tryz.prog 339=true:=by
 refine⟨?_,by kernel_rfl⟩;have h:InlOK Tryz.prog te (Tryz.laysGrow_ren.f 165) (growI te (Tryz.laysGrow_ren.t 5)):=growI_ok (E:=te) Tryz.laysGrow Tryz.extraGrow (by kernel_rfl) λT hT=>(qNb hT:T=472)
 rw[fGrow,tGrow]at h;exact @h
end Go.Proofs.YtkammpnldgkiiaaGreatDoor
namespace Go.Proofs
open Go.Shelf
def Tryz.laysIndexByte_ren:Go.Shelf.Ren:=⟨λ | 217=>642 | 266=>740|n=>n,λ | 9=>9 | 5=>5 | 3=>3|n=>n,λ|n=>n⟩
theorem Tryz.laysIndexByte:Go.Proofs.Lays.n217 Tryz.prog Tryz.laysIndexByte_ren:={
 mixed:=by kernel_rfl
 f217:=Tryz.func642.trans (congrArg some (by kernel_rfl))
 f266:=Tryz.func740.trans (congrArg some (by kernel_rfl))
 t3:=Tryz.underlying3
 a3:=Tryz.isAgg3
 z3:=Tryz.sizeOf3
 v3:=Tryz.zeroValue3
 t5:=Tryz.underlying5
 a5:=Tryz.isAgg5
 z5:=Tryz.sizeOf5
 v5:=Tryz.zeroValue5
 t9:=Tryz.underlying9
 a9:=Tryz.isAgg9
 z9:=Tryz.sizeOf9
 v9:=Tryz.zeroValue9 }
end Go.Proofs
namespace Go.Proofs.YtkammpnldgkiiaaGreatDoor
open Go.Shelf Go.RowKit Go.Rt
theorem fIndexByte:Tryz.laysIndexByte_ren.f 217=642:=by kernel_rfl
theorem nL_:∀(s:Str) (c:UInt8),idxB s c=Lib.indexByte s c
 | [],_=>rfl
 | b::l,c=>by simp only[idxB,Lib.indexByte,nL_ l c]
theorem W_IndexByte(x0:Str)(x1:Int)(r:Int)(hF:stringslite_IndexByte x0 x1=some r)(w0:World):Ret Tryz.prog 642 #[S x0,.int .u8 x1] w0 λv w=>v = .int .i64 r/\Ext w0 w:=by
 unfold stringslite_IndexByte at hF;simp only[qOi]at hF;subst hF;have hh:=Any.stringslite_IndexByte Tryz.laysIndexByte ⟨x0.toArray⟩ x1 w0;rw[fIndexByte]at hh;refine Calls.mono hh λe w ⟨he,hb⟩=>⟨_,he,?_,?_⟩
 .simp[nL_]
 .subst hb;exact Ext.refl _
def fX_:Con te:=ae_ te [.d .str,.d (.int .u8)] [(.int .i64,[])] false λa=>stringslite_IndexByte a.1 a.2.1
theorem con_bind{ps:List Pm}{rs:Rs}{ali:Bool}{f:PA te ps->Option (Tp te.S (rs.ts++aq_ ps))}{R:Type}{a:PA te ps}{k:HL te.S rs.ts->HL te.S (aq_ ps)->Option R}{r:R}(hr:(ae_ te ps rs ali f).F R a k=some r):∃y,f a=some y/\k (hfst rs.ts (aq_ ps) (aK_ _ y)) (hsnd rs.ts (aq_ ps) (aK_ _ y))=some r:=bind_some hr
theorem eW_:Con.OK Tryz.prog te 642 fX_/\bo_ Tryz.prog 642=true:=by
 refine⟨λR a k r hr => ?_,by kernel_rfl⟩;obtain⟨y,h1,h2⟩:=con_bind (ps:=[.d .str,.d (.int .u8)]) (rs:=[(.int .i64,[])]) (ali:=false) (f:=λa=>stringslite_IndexByte a.1 a.2.1) hr;exact⟨_,_,h2,hj_ (y:=y) rfl rfl rfl rfl rfl λw=>W_IndexByte a.1 a.2.1 y h1 w⟩
end Go.Proofs.YtkammpnldgkiiaaGreatDoor
namespace Go.Proofs
open Go.Shelf
def Tryz.laysIndex_ren:Go.Shelf.Ren:=⟨λ | 219=>569 | 217=>642 | 225=>643 | 224=>644 | 267=>645 | 266=>740 | 314=>741|n=>n,λ | 9=>9 | 3=>3 | 4=>4 | 5=>5 | 46=>269 | 146=>907 | 51=>267|n=>n,λ | 1=>3|n=>n⟩
theorem Tryz.laysIndex:Go.Proofs.Lays.n219 Tryz.prog Tryz.laysIndex_ren:={
 mixed:=by kernel_rfl
 f217:=Tryz.func642.trans (congrArg some (by kernel_rfl))
 f219:=Tryz.func569.trans (congrArg some (by kernel_rfl))
 f224:=Tryz.func644.trans (congrArg some (by kernel_rfl))
 f225:=Tryz.func643.trans (congrArg some (by kernel_rfl))
 f266:=Tryz.func740.trans (congrArg some (by kernel_rfl))
 f267:=Tryz.func645.trans (congrArg some (by kernel_rfl))
 f314:=Tryz.func741.trans (congrArg some (by kernel_rfl))
 t3:=Tryz.underlying3
 a3:=Tryz.isAgg3
 z3:=Tryz.sizeOf3
 v3:=Tryz.zeroValue3
 t4:=Tryz.underlying4
 a4:=Tryz.isAgg4
 z4:=Tryz.sizeOf4
 v4:=Tryz.zeroValue4
 t5:=Tryz.underlying5
 a5:=Tryz.isAgg5
 z5:=Tryz.sizeOf5
 v5:=Tryz.zeroValue5
 t9:=Tryz.underlying9
 a9:=Tryz.isAgg9
 z9:=Tryz.sizeOf9
 v9:=Tryz.zeroValue9
 t46:=Tryz.underlying269
 a46:=Tryz.isAgg269
 z46:=Tryz.sizeOf269
 v46:=Tryz.zeroValue269
 t51:=Tryz.underlying267
 a51:=Tryz.isAgg267
 z51:=Tryz.sizeOf267
 v51:=Tryz.zeroValue267
 t146:=Tryz.underlying907
 a146:=Tryz.isAgg907
 z146:=Tryz.sizeOf907
 v146:=Tryz.zeroValue907
 g1:=by kernel_rfl }
end Go.Proofs
namespace Go.Proofs.YtkammpnldgkiiaaGreatDoor
open Go.Shelf Go.RowKit Go.Rt
theorem fIndex:Tryz.laysIndex_ren.f 219=569:=by kernel_rfl
theorem nM_:∀(s:Str) (c:UInt8),idxB s c=Lib.indexByte s c
 | [],_=>rfl
 | b::l,c=>by simp only[idxB,Lib.indexByte,nM_ l c]
theorem W_Index(x0 x1:Str)(r:Int)(hF:stringslite_Index x0 x1=some r)(w0:World):Ret Tryz.prog 569 #[S x0,S x1] w0 λv w=>v = .int .i64 r/\Ext w0 w:=by
 unfold stringslite_Index at hF;split at hF
 .rename_i c;simp only[qOi]at hF;subst hF;have hh:=Any.stringslite_Index_one Tryz.laysIndex ⟨x0.toArray⟩ c w0;rw[fIndex]at hh;refine Calls.mono hh λe w ⟨he,hb⟩=>⟨_,he,?_,?_⟩
  .simp[nM_]
  .subst hb;exact Ext.refl _
 .cases hF
def h8_:Con te:=ae_ te [.d .str,.d .str] [(.int .i64,[])] false λa=>stringslite_Index a.1 a.2.1
theorem gC_:Con.OK Tryz.prog te 569 h8_/\bo_ Tryz.prog 569=true:=by
 refine⟨λR a k r hr => ?_,by kernel_rfl⟩;obtain⟨y,h1,h2⟩:=bind_some hr;exact⟨_,_,h2,hj_ (y:=y) rfl rfl rfl rfl rfl λw=>W_Index a.1 a.2.1 y h1 w⟩
end Go.Proofs.YtkammpnldgkiiaaGreatDoor
namespace Go.Proofs
open Go.Shelf
def Tryz.laysBString_ren:Go.Shelf.Ren:=⟨λ | 169=>297|n=>n,λ | 70=>470 | 9=>9 | 0=>0 | 72=>472 | 37=>206 | 127=>612 | 3=>3 | 5=>5|n=>n,λ|n=>n⟩
theorem Tryz.laysBString:Go.Proofs.Lays.n169 Tryz.prog Tryz.laysBString_ren:={
 mixed:=by kernel_rfl
 f169:=Tryz.func297.trans (congrArg some (by kernel_rfl))
 t0:=Tryz.underlying0
 a0:=Tryz.isAgg0
 z0:=Tryz.sizeOf0
 v0:=Tryz.zeroValue0
 t3:=Tryz.underlying3
 a3:=Tryz.isAgg3
 z3:=Tryz.sizeOf3
 v3:=Tryz.zeroValue3
 t9:=Tryz.underlying9
 a9:=Tryz.isAgg9
 z9:=Tryz.sizeOf9
 v9:=Tryz.zeroValue9
 t37:=Tryz.underlying206
 a37:=Tryz.isAgg206
 z37:=Tryz.sizeOf206
 v37:=Tryz.zeroValue206
 t70:=Tryz.underlying470
 a70:=Tryz.isAgg470
 z70:=Tryz.sizeOf470
 v70:=Tryz.zeroValue470
 t72:=Tryz.underlying472
 a72:=Tryz.isAgg472
 z72:=Tryz.sizeOf472
 v72:=Tryz.zeroValue472
 t127:=Tryz.underlying612
 a127:=Tryz.isAgg612
 z127:=Tryz.sizeOf612
 v127:=Tryz.zeroValue612 }
end Go.Proofs
namespace Go
namespace Rt
open Go.RowKit Go.Proofs
section
variable{P:Program}{E:TE}{z:Fz}{g:Ga}{w w' w0:World}{Bs:List Nat}{F0:Nat->Prop}{H H':Nat->Option (Obj E)}
theorem HR.gone(h:HR P E Bs F0 w0 w z g H){C:Nat->Prop}(hC:∀k,C k->∃i o,H i=some o/\fpO g i o k/\H' i=none)
  (hb:Grow w w') (hk:∀k,k<w.heap.size->¬C k->w'.heap[k]? = w.heap[k]?) (hH:∀j o,H' j=some o->H j=some o):HR P E Bs F0 w0 w' z g H':=by
 have aE_:∀k,C k->w0.heap.size<=k\/k∈Bs:=λk hc=>by obtain⟨i,o,h1,h2,_⟩:=hC k hc;exact h.own i o k h1 h2
 have far:∀j o k,H' j=some o->fpO g j o k->¬C k:=λj o k e hf hc=>by
  obtain⟨i,p,h1,h2,h3⟩:=hC k hc;exact h.apart j i o p k (λej=>by rw[ej,h3]at e;cases e) (hH j o e) h1 hf h2
 have fzC:∀k,z.F k->¬C k:=λk hz hc=>by obtain⟨i,o,h1,h2,_⟩:=hC k hc;exact h.fza i o k h1 h2 hz
 refine⟨⟨h.chg.grow.trans hb,λk hk1 hn=>(hk k (Nat.lt_of_lt_of_le hk1 h.size) λhc => ?_).trans (h.chg.block k hk1 hn)⟩,λj o e => ?_,λj o k e=>h.own j o k (hH j o e),λj j' o p k hn e e'=>h.apart j j' o p k hn (hH j o e) (hH j' p e'),λk hz => ?_,h.fz0,λj o k e=>h.fza j o k (hH j o e),h.gl⟩
 .rcases aE_ k hc with h1|h1
  .omega
  .exact hn h1
 .exact(h.hold j o (hH j o e)).keep (Fz.Le.refl z) (Ga.Le.refl g) λk hfk=>hk k ((h.hold j o (hH j o e)).lt hfk) (far j o k e hfk)
 .have:=h.fz k hz;exact⟨Nat.lt_of_lt_of_le this.1 hb.size,(hk k this.1 (fzC k hz)).trans this.2⟩
end
end Rt
end Go
namespace Go.Proofs
open Go.Shelf
def Tryz.laysCC_ren:Go.Shelf.Ren:=⟨λ | 240=>408 | 276=>526|n=>n,λ | 0=>0 | 4=>4 | 9=>9 | 20=>20 | 37=>206 | 70=>470 | 72=>472 | 164=>696|n=>n,λ|n=>n⟩
theorem Tryz.laysCC:Go.Proofs.Lays.n240 Tryz.prog Tryz.laysCC_ren:={
 mixed:=by kernel_rfl
 f240:=Tryz.func408.trans (congrArg some (by kernel_rfl))
 f276:=Tryz.func526.trans (congrArg some (by kernel_rfl))
 t0:=Tryz.underlying0
 a0:=Tryz.isAgg0
 z0:=Tryz.sizeOf0
 v0:=Tryz.zeroValue0
 t4:=Tryz.underlying4
 a4:=Tryz.isAgg4
 z4:=Tryz.sizeOf4
 v4:=Tryz.zeroValue4
 t9:=Tryz.underlying9
 a9:=Tryz.isAgg9
 z9:=Tryz.sizeOf9
 v9:=Tryz.zeroValue9
 t20:=Tryz.underlying20
 a20:=Tryz.isAgg20
 z20:=Tryz.sizeOf20
 v20:=Tryz.zeroValue20
 t70:=Tryz.underlying470
 a70:=Tryz.isAgg470
 z70:=Tryz.sizeOf470
 v70:=Tryz.zeroValue470
 t72:=Tryz.underlying472
 a72:=Tryz.isAgg472
 z72:=Tryz.sizeOf472
 v72:=Tryz.zeroValue472
 t164:=Tryz.underlying696
 a164:=Tryz.isAgg696
 z164:=Tryz.sizeOf696
 v164:=Tryz.zeroValue696 }
theorem Tryz.x72CC:Builder.X72 Tryz.prog Tryz.laysCC_ren where
 sizeBuilder:=by kernel_rfl
 liesBuilder:=by kernel_rfl
theorem Tryz.extraBS:Builder.Extra Tryz.prog Tryz.laysBString_ren where
 sizeBuilder:=by kernel_rfl
 liesBuilder:=by kernel_rfl
 t5:=Tryz.underlying5
 a5:=Tryz.isAgg5
 z5:=Tryz.sizeOf5
 v5:=Tryz.zeroValue5
 infoByte:=by kernel_rfl
 cellsByte:=by kernel_rfl
 sizeByte:=by kernel_rfl
 neB5:=by decide
open Go.RowKit
theorem h9_{P:Program}{w:World}:∀(l:List Int) (a:Addr) (acc:ByteArray),(∀j x,l[j]? = some x->w.cell? (a.add j)=some (.int .u8 x)) ->
  (loadBytes a acc l.length).run P w = .ok ⟨acc.data++(Rt.bytesS l).toArray⟩ w
 | [],a,acc,_=>by simp[loadBytes,Rt.bytesS]
 | x::l,a,acc,h=>by
  have h0:w.cell? a=some (.int .u8 x):=by
   have:=h 0 x rfl;simpa[Addr.add]using this
  have ih:=h9_ (P:=P) l (a.add 1) (acc.push x.toNat.toUInt8) (λj y hy=>by
   have:=h (j+1) y (by simpa using hy);have e:(a.add 1).add j=a.add (j+1):=by
    unfold Addr.add;by_cases hj:j=0
    .subst hj;simp
    .simp[hj];omega
   rw[e];exact this)
  simp only[qLc,loadBytes,Sem.run_bind,run_load,h0,Result.andThen];rw[ih]
  congr 1
  apply ByteArray.ext;simp[ByteArray.push,Rt.bytesS]
theorem ia_{P:Program}{w:World}(pt it ty e:TypeId)(hp:P.underlying pt=some (.pointer e))(hc:P.cellsOf e=1)(g cells:Nat)(hsh:w.shape? g=some (e,cells))(l:List Int)(h0:l≠[])(hn:l.length<=cells)(h63:l.length<=9223372036854775807)
  (hcell:∀j x,l[j]? = some x->w.cell? ((⟨g,0,none⟩:Addr).add j)=some (.int .u8 x)) :
  (Builtin.unsafeString_ #[pt,it] ty #[.pointer (some ⟨g,0,none⟩),.int .i64 l.length]).run P w = .ok (.string ⟨(Rt.bytesS l).toArray⟩) (w.freeze ⟨g,0,none⟩ l.length):=by
 have hl:l.length≠0:=by simpa using h0
 have hlb:=h9_ (P:=P) l ⟨g,0,none⟩ .empty hcell;have hlies:=Lib.liesAt_bytes (P:=P) hc (cells/P.cellsOf e) l.length (by rw[hc];simpa using hn);have h63':¬(9223372036854775807:Int)<(l.length:Int):=by omega
 have hdef:Builtin.unsafeString_ #[pt,it] ty #[.pointer (some ⟨g,0,none⟩),.int .i64 l.length] =
   (do
    let n ←asInt (.int .i64 l.length)
    if n < 0 then runtimePanic (.error "unsafe.String: len out of range")
    if n > IntKind.i64.max then unsupported (.unsafePointer "String: a length above the largest int")
    if n=0 then pure (.string .empty)
    else if ←variablesAt ⟨g,0,none⟩ (←elemOf pt) n.toNat then do
     let s ←loadBytes ⟨g,0,none⟩ .empty n.toNat
     freeze ⟨g,0,none⟩ n.toNat
     pure (.string s)
    else unsupported (.unsafePointer "String: not so many bytes at ptr")) := rfl
 rw[hdef];have hmax:IntKind.i64.max=9223372036854775807:=rfl;have hneg:¬(l.length:Int)<0:=by omega
 simp[asInt,asIntOf,hmax,h63',hneg,hl,variablesAt,hsh,elemOf,run_underlying hp,hlies,hlb]
set_option maxHeartbeats 1000000 in
set_option maxRecDepth 100000 in
theorem Any.Builder_String_w{P:Program}{ρ:Ren}(L:Lays.n169 P ρ)(X:Builder.Extra P ρ)(b g cap:Nat)(p:Value)(cur:Array Value)(l:List Int)(w:World)(hbk:w.heap[b]? = some (.cells #[p,.slice (some ⟨g,0,none⟩) l.length cap] (ρ.t 72) (0,0)))(h0:l≠[])
  (hg:w.heap[g]? = some (.cells cur (ρ.t 5) (0,0))) (hnc:l.length<=cap) (hcm:cap<=maxLen) (hcs:cur.size=cap) (hown:∀j x,l[j]? = some x->w.cell? ((⟨g,0,none⟩:Addr).add j)=some (.int .u8 x)) :
  Calls P (ρ.f 169) #[.pointer (some ⟨b,0,none⟩)] w λe w'=>e = .returned (.string ⟨(Rt.bytesS l).toArray⟩)/\w'=w.drew.freeze ⟨g,0,none⟩ l.length:=by
 have hl0:l.length≠0:=by simpa using h0
 have c1:w.drew.cell? ⟨b,1,none⟩=some (.slice (some ⟨g,0,none⟩) l.length cap):=by
  have:w.drew.heap[b]? = some (.cells #[p,.slice (some ⟨g,0,none⟩) l.length cap] (ρ.t 72) (0,0)):=hbk;rw[Lib.cell_of_heap this];rfl
 have hSD:(Builtin.unsafeSliceData_ #[(ρ.t 37)] (ρ.t 127) #[.slice (some ⟨g,0,none⟩) l.length cap]).run P w.drew = .ok (.pointer (some ⟨g,0,none⟩)) w.drew :=
  Lib.run_unsafeSliceData_row _ _ _ _ _ _ (by omega)
 have hUS:(Builtin.unsafeString_ #[(ρ.t 127),(ρ.t 3)] (ρ.t 9) #[.pointer (some ⟨g,0,none⟩),.int .i64 l.length]).run P w.drew = .ok (.string ⟨(Rt.bytesS l).toArray⟩) (w.drew.freeze ⟨g,0,none⟩ l.length):=by
  refine ia_ (w:=w.drew) (ρ.t 127) (ρ.t 3) (ρ.t 9) (ρ.t 5) L.t127 X.cellsByte g cur.size (by have hg':w.drew.heap[g]? = some (.cells cur (ρ.t 5) (0,0)):=hg;simp[World.shape?,hg']) l h0 (by omega) (by unfold maxLen at hcm;omega) ?_;intro j x hx;exact hown j x hx
 have mixed:=L.mixed;have t72:=L.t72;have a72:=L.a72;have z72:=L.z72;have v72:=L.v72;have u72:=run_underlying L.t72;have t70:=L.t70;have a70:=L.a70;have z70:=L.z70;have v70:=L.v70;have u70:=run_underlying L.t70;have t37:=L.t37;have a37:=L.a37;have z37:=L.z37;have v37:=L.v37;have u37:=run_underlying L.t37;have t127:=L.t127;have a127:=L.a127;have z127:=L.z127;have v127:=L.v127;have u127:=run_underlying L.t127;have t3:=L.t3;have a3:=L.a3;have z3:=L.z3;have v3:=L.v3;have u3:=run_underlying L.t3;have t9:=L.t9;have a9:=L.a9;have z9:=L.z9;have v9:=L.v9;have u9:=run_underlying L.t9;have t5:=X.t5;have a5:=X.a5;have z5:=X.z5;have v5:=X.v5;have u5:=run_underlying X.t5
 go_enter L.f169,Body.n169_ntmps ρ
 go_wp2
 go_region_o
 all_goals (go_wp2;go_ret;exact⟨rfl,rfl⟩)
end Go.Proofs
namespace Go.Proofs.YtkammpnldgkiiaaGreatDoor
open Go.RowKit Go.Rt
def cR_:InlF te:=λH _ xs _ k=>match xs with
 | [.one (.ptr id 0)]=>match H id with
  | some (.box T [.sbp id',_])=>match Nat.beq id id'&&te.sb T with
   | true=>k (some (.tup [])) []
   | false=>none
  | _=>none
 | _=>none
def ez_:InlF te:=λH _ xs _ k=>match xs with
 | [.one (.ptr id 0)]=>match H id with
  | some (.box T [.sbp id',c])=>match Nat.beq id id'&&te.sb T,c with
   | true,.nils=>k (some (.v (.one (.dt .str (bytesS []))))) [(id,none)]
   | true,.own r=>match H r with
    | some (.row e (.int .u8) xs _)=>match Nat.beq e 5 with
     | true=>k (some (.v (.one (.dt .str (bytesS xs))))) [(id,none),(r,none)]
     | false=>none
    | _=>none
   | _,_=>none
  | _=>none
 | _=>none
theorem d3_:InlOK Tryz.prog te 408 cR_/\bo_ Tryz.prog 408=true:=by
 refine⟨?_,by kernel_rfl⟩;intro z g nx H xs vs R k r Bs F0 w0 w hnx hH hv h;unfold cR_ at h;split at h
 .rename_i id;split at h
  .rename_i T id' c hi;split at h
   .rename_i hb;simp only[qAn]at hb;obtain rfl:=qNb hb.1;have hT:T=472:=qNb hb.2;subst hT;cases hv with
    | cons v1 hv =>
     cases hv
     obtain⟨l,h1,rfl⟩:=v1;obtain⟨l',us,h2,h3,h4⟩:=hH.hold _ _ hi;rw[h1]at h2;obtain rfl:=qSj h2;cases h4 with
     | cons c1 h4=>cases h4 with
      | cons c2 h4 =>
       cases h4
       obtain⟨l2,h5,h6⟩:=c1;rw[h1]at h5;obtain rfl:=qSj h5;rename_i u1 u2;have hc0:w.cell? ⟨l.b,0,none⟩=some u1:=by rw[cell_of_row w l.b 0 _ _ _ h3];rfl
       rcases h6 with rfl|rfl
       .refine Calls.mono (Any.Builder_copyCheck_fresh Tryz.laysCC Tryz.x72CC l.b w hc0 (by simp[World.shape?,h3];rfl) (by unfold World.frozen?;simp only[h3];simp)) λe w' ⟨he,hw⟩=>⟨_,he,.tup [],[],z,g,h,Fz.Le.refl z,Ga.Le.refl g,hnx.succ,⟨[],rfl,.nil⟩,?_⟩
        subst hw;have hat:(w.setCell ⟨l.b,0,none⟩ (.pointer (some ⟨l.b,0,none⟩))).heap[l.b]? = some (.cells [.pointer (some ⟨l.b,0,none⟩),u2].toArray 472 (0,0)):=by
         unfold World.setCell;simp[Array.getElem?_modify,h3]
        refine hH.turn (Ga.Le.refl g) (i:=id) (i':=id) (C:=λk=>k=l.b) (λk hk=>⟨_,hi,l,h1,hk⟩) ⟨rfl,rfl,rfl,by simp[World.setCell]⟩ (λk _ hk => ?_) (o' := .box 472 [.sbp id,c]) ?_ (λk hk => ?_) λj p hj => ?_
        .unfold World.setCell;simp only[Array.getElem?_modify];rw[if_neg λe=>hk e.symm]
        .exact⟨l,_,h1,hat,.cons ⟨l,h1,.inr rfl⟩ (.cons c2 .nil)⟩
        .obtain⟨l2,h5,rfl⟩:=hk;rw[h1]at h5;obtain rfl:=qSj h5;exact .inl rfl
        .by_cases hji:j=id
         .subst hji;have hj':H j=some p:=hj;rw[hi]at hj';exact .inl ⟨rfl,(qSj hj').symm⟩
         .exact .inr ⟨hji,.inl hji,hj⟩
       .refine Calls.mono (Any.Builder_copyCheck_used Tryz.laysCC Tryz.x72CC l.b w hc0) λe w' ⟨he,hw⟩=>⟨_,he,.tup [],[],z,g,h,Fz.Le.refl z,Ga.Le.refl g,hnx.succ,⟨[],rfl,.nil⟩,?_⟩
        subst hw;exact hH
   .cases h
  .cases h
 .cases h
theorem up1{H:Nat->Option (Rt.Obj te)}{id:Nat}{j:Nat}{o:Rt.Obj te}(h:upH H [(id,none)] j=some o):j≠id/\H j=some o:=by
 simp only[upH]at h;split at h
 .cases h
 .rename_i hb;refine⟨λe => ?_,h⟩;rw[e,Nat.beq_refl]at hb;cases hb
theorem up2{H:Nat->Option (Rt.Obj te)}{id r:Nat}{j:Nat}{o:Rt.Obj te}(h:upH H [(id,none),(r,none)] j=some o):j≠id/\j≠r/\H j=some o:=by
 simp only[upH]at h;split at h
 .cases h
 .rename_i hb;split at h
  .cases h
  .rename_i hb2;refine⟨λe => ?_,λe => ?_,h⟩
   .rw[e,Nat.beq_refl]at hb;cases hb
   .rw[e,Nat.beq_refl]at hb2;cases hb2
theorem dS_ : InlOK Tryz.prog te 297 ez_/\bo_ Tryz.prog 297=true:=by
 refine⟨?_,by kernel_rfl⟩;intro z g nx H xs vs R k r Bs F0 w0 w hnx hH hv h;unfold ez_ at h;split at h
 .rename_i id;split at h
  .rename_i T id' c hi;have hv1:∃l,g id=some l/\vs=[.pointer (some ⟨l.b,0,none⟩)]:=by
    cases hv with
    | cons v1 hv =>
     cases hv
     obtain⟨l,h1,rfl⟩:=v1;exact⟨l,h1,rfl⟩
   obtain⟨l,h1,rfl⟩:=hv1;obtain⟨l',us,h2,h3,h4⟩:=hH.hold _ _ hi;rw[h1]at h2;obtain rfl:=qSj h2;split at h
   .rename_i hb;simp only[qAn]at hb;have hT:T=472:=qNb hb.2;subst hT;cases h4 with
    | cons c1 h4=>cases h4 with
     | cons c2 h4 =>
      cases h4
      rename_i u1 u2;obtain rfl:u2 = .slice none 0 0:=c2;refine Calls.mono (Any.Builder_String_nil Tryz.laysBString Tryz.extraBS w.heap.size l.b u1 w h3) λe w' ⟨he,hw⟩=>⟨_,he,_,_,z,g,h,Fz.Le.refl z,Ga.Le.refl g,(λi hi=>hnx i (Nat.le_trans (by omega) (Nat.le_trans (hJ_ nx _) hi))),.str .nil,?_⟩
      exact hH.gone (C:=λ_=>False) (λ_ h=>h.elim) (Grow.of_below hw) (λk hk _=>hw.block k hk) λj o hj=>(up1 hj).2
   .rename_i r' hb;simp only[qAn]at hb;have hT:T=472:=qNb hb.2;subst hT;split at h
    .rename_i e xs foc hr;split at h
     .rename_i he5;obtain rfl:=qNb he5;cases h4 with
      | cons c1 h4=>cases h4 with
       | cons c2 h4 =>
        cases h4
        rename_i u1 u2;obtain⟨lr,h5,rfl⟩:=c2;obtain⟨lr',rows,h6,hn,hc,hown,hlen,hrl,hrows,_⟩:=hH.hold _ _ hr;rw[h5]at h6;obtain rfl:=qSj h6;have hrw:=ii_ hrows (by omega);obtain⟨_,ho⟩:=hown;rcases ho with⟨ho,h0⟩|⟨b,cap,cur,hvv,_,hh,hnc,hcm,hcs,htk⟩
        .injection ho with e1 e2 e3;rw[e1,e2,e3]at h3;have hx0:xs=[]:=List.length_eq_zero_iff.1 (by omega);subst hx0;refine Calls.mono (Any.Builder_String_nil Tryz.laysBString Tryz.extraBS w.heap.size l.b u1 w h3) λe w' ⟨he,hw⟩=>⟨_,he,_,_,z,g,h,Fz.Le.refl z,Ga.Le.refl g,(λi hi=>hnx i (Nat.le_trans (by omega) (Nat.le_trans (hJ_ nx _) hi))),.str .nil,?_⟩
         exact hH.gone (C:=λ_=>False) (λ_ h=>h.elim) (Grow.of_below hw) (λk hk _=>hw.block k hk) λj o hj=>(up2 hj).2.2
        .injection hvv with e1 _ e3;subst e3;rw[e1]at h3;have hb1:b<w.heap.size:=by
          rcases Nat.lt_or_ge b w.heap.size with h'|h'
          .exact h'
          .rw[Array.getElem?_eq_none h']at hh;cases hh
         cases xs with
         | nil =>
          have hn0:lr.n=0:=hn;rw[hn0]at h3;by_cases hc0:lr.cap=0
          .rw[hc0]at h3;exact Calls.mono (Any.Builder_String_noroom Tryz.laysBString Tryz.extraBS w.heap.size l.b b u1 cur w (Nat.le_refl _) h3 hh) λe w' ⟨he,hw⟩=>⟨_,he,_,_,z,g,h,Fz.Le.refl z,Ga.Le.refl g,(λi hi=>hnx i (Nat.le_trans (by omega) (Nat.le_trans (hJ_ nx _) hi))),.str .nil,hH.gone (C:=λ_=>False) (λ_ h=>h.elim) (Grow.of_below hw) (λk hk _=>hw.block k hk) λj o hj=>(up2 hj).2.2⟩
          .exact Calls.mono (Any.Builder_String_room Tryz.laysBString Tryz.extraBS w.heap.size l.b b lr.cap u1 w hc0 h3) λe w' ⟨he,hw⟩=>⟨_,he,_,_,z,g,h,Fz.Le.refl z,Ga.Le.refl g,(λi hi=>hnx i (Nat.le_trans (by omega) (Nat.le_trans (hJ_ nx _) hi))),.str .nil,hH.gone (C:=λ_=>False) (λ_ h=>h.elim) (Grow.of_below hw) (λk hk _=>hw.block k hk) λj o hj=>(up2 hj).2.2⟩
         | cons x xs =>
          have hc1:lr.c=1:=hc;rw[hn]at h3 htk hnc;rw[hc1]at htk hcs;have hcur:∀j y,(x::xs)[j]? = some y->w.cell? ((⟨b,0,none⟩:Addr).add j)=some (.int .u8 y):=λj y hy=>by
           have hj:j<(x::xs).length:=by
            rcases Nat.lt_or_ge j (x::xs).length with h'|h'
            .exact h'
            .rw[List.getElem?_eq_none h']at hy;cases hy
           have e2:(⟨b,0,none⟩:Addr).add j=⟨b,j,none⟩:=by
            unfold Addr.add;by_cases h0:j=0
            .subst h0;simp
            .simp[h0]
           rw[e2,cell_of_row w b j _ _ _ hh];have e3:(cur.toList.take ((x::xs).length*1))[j]? = cur.toList[j]? := by rw[List.getElem?_take,if_pos (by omega)]
           rw[←Array.getElem?_toList,←e3,htk,hrw];have e4:∀(l:List Int),(l.map λb=>[Value.int .u8 b]).flatten=l.map λb=>Value.int .u8 b:=λl=>by
            induction l with
            | nil=>rfl
            | cons a l ih=>rw[List.map_cons,List.flatten_cons,ih];rfl
           rw[e4,List.getElem?_map,hy];rfl
          refine Calls.mono (Any.Builder_String_w Tryz.laysBString Tryz.extraBS l.b b lr.cap u1 cur (x::xs) w h3 (by simp) hh hnc hcm (by omega) hcur) λe w' ⟨he,hw⟩=>⟨_,he,_,_,z,g,h,Fz.Le.refl z,Ga.Le.refl g,(λi hi=>hnx i (Nat.le_trans (by omega) (Nat.le_trans (hJ_ nx _) hi))),.str .nil,?_⟩
          subst hw;refine hH.gone (C:=λk=>k=b) (λk hk=>⟨r',_,hr,⟨lr,_,h5,e1,hk⟩,?_⟩) ⟨?_,?_,?_,?_⟩ (λk hk hne => ?_) λj o hj=>(up2 hj).2.2
          .cases hq:upH H [(id,none),(r',none)] r' with
           | none=>rfl
           | some o=>exact absurd rfl (up2 hq).2.1
          .unfold World.freeze;split<;>rfl
          .unfold World.freeze;split<;>rfl
          .unfold World.freeze;split<;>rfl
          .unfold World.freeze;split
           .exact Nat.le_refl _
           .simp only[Array.size_modify];exact Nat.le_refl _
          .unfold World.freeze;split
           .rfl
           .simp only[Array.getElem?_modify];rw[if_neg λe=>hne e.symm];rfl
     .cases h
    .cases h
   .cases h
  .cases h
 .cases h
noncomputable section
def c_13:Con te:=ae_ te [.d (.int .i64)] [(.bool,[])] false λa=>num_known a.1
theorem ok_13:OKF 13 c_13:=⟨aa_ ad_ ab_ Tryz.func13 (by kernel_rfl) (pl := .p) λ_=>by kernel_rfl,by kernel_rfl⟩
def c_7:Con te:=ae_ te [.d (.int .i64),.d (.int .i64)] [(.str,[])] false λa=>d1_ a.1 a.2.1
theorem ok_7:OKF 7 c_7:=⟨aa_ ad_ (ac_ gB_ (ac_ ok_13 ab_)) Tryz.func7 (by kernel_rfl) (pl := .p) λ_=>by kernel_rfl,by kernel_rfl⟩
def c_4:Con te:=ae_ te [.d (.st 0)] [(.str,[])] false λa=>ch_ a.1
theorem ok_4:OKF 4 c_4:=⟨aa_ ad_ (ac_ ok_7 ab_) Tryz.func4 (by kernel_rfl) (pl := .s .p (.s .p (.s .p (.s (.dr [0,0,0,0,0,0,0,0,0,0,0,0,0,0,0,0] [] false []) .p)))) λ_=>by kernel_rfl,by kernel_rfl⟩
def c_15:Con te:=ae_ te [.d (.int .i64)] [(.bool,[])] false λa=>hk_ a.1
theorem ok_15:OKF 15 c_15:=⟨aa_ ad_ ab_ Tryz.func15 (by kernel_rfl) (pl := .p) λ_=>by kernel_rfl,by kernel_rfl⟩
def c_16:Con te:=ae_ te [.d (.int .i64),.d (.int .i64)] [(.str,[])] false λa=>cz_ a.1 a.2.1
theorem ok_16:OKF 16 c_16:=⟨aa_ ad_ ab_ Tryz.func16 (by kernel_rfl) (pl := .s .p (.s .p (.s (.lp ⟨[(0,.d (.int .i64)),(5,.d .str)],[],[1],[],[],2⟩ ⟨[(5,.d .str)],[],[],[],[],2⟩ false .p) .p))) λ_=>by kernel_rfl,by kernel_rfl⟩
def c_8:Con te:=ae_ te [.d (.int .i64),.d (.int .i64)] [(.str,[])] false λa=>ci_ a.1 a.2.1
theorem ok_8:OKF 8 c_8:=⟨aa_ ad_ (ac_ ok_16 (ac_ ok_15 ab_)) Tryz.func8 (by kernel_rfl) (pl := .p) λ_=>by kernel_rfl,by kernel_rfl⟩
def c_5:Con te:=ae_ te [.d (.st 0)] [(.str,[])] false λa=>fQ_ a.1
theorem ok_5:OKF 5 c_5:=⟨aa_ ad_ (ac_ ok_8 ab_) Tryz.func5 (by kernel_rfl) (pl := .s .p (.s .p (.s .p (.s (.dr [0,0,0,0,0,0,0,0,0,0,0,0,0,0,0,0] [] false []) .p)))) λ_=>by kernel_rfl,by kernel_rfl⟩
def c_36:Con te:=ae_ te [.d .str] [(.bool,[])] false λa=>dG_ a.1
theorem ok_36:OKF 36 c_36:=⟨aa_ ad_ ab_ Tryz.func36 (by kernel_rfl) (pl := .s .p (.s (.s .p (.lp ⟨[(3,.d (.int .i64))],[],[0],[],[],2⟩ ⟨[],[],[0],[],[],2⟩ true .p)) .p)) λ_=>by kernel_rfl,by kernel_rfl⟩
def c_17:Con te:=ae_ te [.d (.sl .str)] [(.int .i64,[])] false λa=>hl_ a.1
theorem ok_17:OKF 17 c_17:=⟨aa_ ad_ (ac_ ok_36 ab_) Tryz.func17 (by kernel_rfl) (pl := .s .p (.s .p (.s (.s .p (.lp ⟨[(15,.d (.int .i64))],[],[0,14],[],[],4008⟩ ⟨[],[],[],[],[],4008⟩ true (.s .p (.s .p (.s (.s .p (.s .p (.s .p (.lp ⟨[(25,.d (.int .i64))],[],[0,3,14,15,24],[],[],4019⟩ ⟨[],[],[0,14,15],[],[],4019⟩ true (.s .p (.s .p (.s (.s .p (.s (.dr [0,0,0,0,0,0,0,0,0] [] false []) .p)) .p))))))) .p))))) .p))) λ_=>by kernel_rfl,by kernel_rfl⟩
def c_38:Con te:=ae_ te [] [(.sl (.st 1),[some 213])] true λ_=>hm_
theorem ok_38:OKF 38 c_38:=⟨aa_ ad_ ab_ Tryz.func38 (by kernel_rfl) (pl := .p) λ_=>by kernel_rfl,by kernel_rfl⟩
def c_45:Con te:=ae_ te [.d .str] [(.bool,[])] false λa=>bt_ a.1
theorem ok_45:OKF 45 c_45:=⟨aa_ ad_ ab_ Tryz.func45 (by kernel_rfl) (pl := .s .p (.s .p (.s (.s .p (.lp ⟨[(3,.d (.int .i64))],[],[0],[],[],4006⟩ ⟨[],[],[],[],[],4006⟩ true .p)) .p))) λ_=>by kernel_rfl,by kernel_rfl⟩
def c_179:Con te:=ae_ te [.d (.sl (.st 1)),.d .str] [(.int .i64,[])] false λa=>iI_ a.1 a.2.1
theorem ok_179:OKF 179 c_179:=⟨aa_ ad_ ab_ Tryz.func179 (by kernel_rfl) (pl := .s .p (.s (.s .p (.lp ⟨[(8,.d (.int .i64))],[],[0,1,7],[],[],4⟩ ⟨[],[],[],[],[],4⟩ true .p)) .p)) λ_=>by kernel_rfl,by kernel_rfl⟩
def c_118:Con te:=ae_ te [.d (.sl (.st 1)),.d (.int .i64)] [(.int .i64,[])] false λa=>hS_ a.1 a.2.1
theorem ok_118:OKF 118 c_118:=⟨aa_ ad_ (ac_ ok_179 (ac_ ok_45 ab_)) Tryz.func118 (by kernel_rfl) (pl := .s .p (.s .p (.s .p (.s (.s .p (.lp ⟨[(37,.d (.int .i64))],[],[0,5,36],[5],[],6030⟩ ⟨[],[],[],[],[],6030⟩ true (.s .p (.s .p (.s (.s .p (.s (.dr [0,0,0,0,0,0,0,0,0,0,0,0,0,0,0,0,0,0,0,0,0,0,0,0,0,0] [] false []) .p)) .p))))) .p)))) λ_=>by kernel_rfl,by kernel_rfl⟩
def c_72:Con te:=ae_ te [.d (.sl (.st 1))] [(.int .i64,[])] false λa=>k6_ a.1
theorem ok_72:OKF 72 c_72:=⟨aa_ ad_ (ac_ ok_118 ab_) Tryz.func72 (by kernel_rfl) (pl := .s .p (.s .p (.s (.s .p (.lp ⟨[(10,.d (.int .i64))],[],[0,9],[],[],7⟩ ⟨[],[],[],[],[],7⟩ true .p)) .p))) λ_=>by kernel_rfl,by kernel_rfl⟩
def c_73:Con te:=ae_ te [.d (.sl (.st 2))] [(.int .i64,[])] false λa=>k7_ a.1
theorem ok_73:OKF 73 c_73:=⟨aa_ ad_ (ac_ ok_45 ab_) Tryz.func73 (by kernel_rfl) (pl := .s .p (.s .p (.s (.s .p (.lp ⟨[(3,.d (.int .i64))],[],[0],[],[],5⟩ ⟨[],[],[],[],[],5⟩ true (.s .p (.s (.s .p (.s .p (.s (.s (.dr [0,0,0,0,0,0,0,0,0,0,0,0,0] [] false []) .p) .p))) .p)))) .p))) λ_=>by kernel_rfl,by kernel_rfl⟩
def c_74:Con te:=ae_ te [.d (.int .i64)] [(.int .i64,[])] false λa=>ref13_at a.1
theorem ok_74:OKF 74 c_74:=⟨aa_ ad_ ab_ Tryz.func74 (by kernel_rfl) (pl := .p) λ_=>by kernel_rfl,by kernel_rfl⟩
def c_79:Con te:=ae_ te [.d .str] [(.str,[])] false λa=>bW_ a.1
theorem ok_79:OKF 79 c_79:=⟨aa_ ad_ ab_ Tryz.func79 (by kernel_rfl) (pl := .p) λ_=>by kernel_rfl,by kernel_rfl⟩
def c_80:Con te:=ae_ te [.d (.int .i64)] [(.int .i64,[])] false λa=>dr_ a.1
theorem ok_80:OKF 80 c_80:=⟨aa_ ad_ ab_ Tryz.func80 (by kernel_rfl) (pl := .p) λ_=>by kernel_rfl,by kernel_rfl⟩
def c_40:Con te:=ae_ te [.d .str,.d (.int .i64),.d (.int .i64)] [(.st 4,[none,some 220])] false λa=>gW_ a.1 a.2.1 a.2.2.1
theorem ok_40:OKF 40 c_40:=⟨aa_ ad_ (ac_ ok_80 (ac_ ok_79 ab_)) Tryz.func40 (by kernel_rfl) (pl := .p) λ_=>by kernel_rfl,by kernel_rfl⟩
def c_37:Con te:=ae_ te [.d (.sl (.st 1)),.d (.sl (.st 2)),.d .str,.d (.int .i64)] [(.st 5,[none,none,none,some 220]),(.int .i64,[])] true λa=>ref13_New a.1 a.2.1 a.2.2.1 a.2.2.2.1
theorem ok_37:OKF 37 c_37:=⟨aa_ ad_ (ac_ ok_40 (ac_ ok_74 (ac_ ok_45 (ac_ ok_73 (ac_ ok_72 ab_))))) Tryz.func37 (by kernel_rfl) (pl := .p) λ_=>by kernel_rfl,by kernel_rfl⟩
def c_180:Con te:=ae_ te [.d (.st 4),.d (.int .i64)] [(.int .i64,[])] false λa=>k8_ a.1 a.2.1
theorem ok_180:OKF 180 c_180:=⟨aa_ ad_ ab_ Tryz.func180 (by kernel_rfl) (pl := .s .p (.s (.s .p (.lp ⟨[(5,.d (.int .i64))],[],[1,2],[0],[],4⟩ ⟨[],[],[],[],[],4⟩ true .p)) .p)) λ_=>by kernel_rfl,by kernel_rfl⟩
def c_119:Con te:=ae_ te [.d (.st 4),.d (.int .i64)] [(.st 3,[]),(.bool,[])] false λa=>cj_ a.1 a.2.1
theorem gD_:OKF 119 c_119:=⟨aa_ ad_ (ac_ ok_180 ab_) Tryz.func119 (by kernel_rfl) (pl := .p) λ_=>by kernel_rfl,by kernel_rfl⟩
def c_120:Con te:=ae_ te [.d (.int .i64)] [(.bool,[])] false λa=>e7_ a.1
theorem ok_120:OKF 120 c_120:=⟨aa_ ad_ ab_ Tryz.func120 (by kernel_rfl) (pl := .p) λ_=>by kernel_rfl,by kernel_rfl⟩
def c_121:Con te:=ae_ te [.d (.int .i64)] [(.bool,[])] false λa=>m2_ a.1
theorem ok_121:OKF 121 c_121:=⟨aa_ ad_ ab_ Tryz.func121 (by kernel_rfl) (pl := .p) λ_=>by kernel_rfl,by kernel_rfl⟩
def c_122:Con te:=ae_ te [.d (.st 4),.d (.int .i64),.d .str] [(.int .i64,[]),(.int .i64,[])] false λa=>iJ_ a.1 a.2.1 a.2.2.1
theorem ok_122:OKF 122 c_122:=⟨aa_ ad_ (ac_ ok_120 (ac_ gD_ ab_)) Tryz.func122 (by kernel_rfl) (pl := .s .p (.s .p (.s .p (.s .p (.s .p (.s (.s .p (.lp ⟨[(10,.d (.int .i64))],[],[1,2,3],[0],[],24⟩ ⟨[],[],[],[],[],24⟩ true .p)) .p)))))) λ_=>by kernel_rfl,by kernel_rfl⟩
def c_127:Con te:=ae_ te [.d (.st 3),.d .str,.d (.int .i64)] [(.st 3,[])] false λa=>fn_ a.1 a.2.1 a.2.2.1
theorem ok_127:OKF 127 c_127:=⟨aa_ ad_ (ac_ ok_79 (ac_ ok_80 ab_)) Tryz.func127 (by kernel_rfl) (pl := .p) λ_=>by kernel_rfl,by kernel_rfl⟩
def c_126:Con te:=ae_ te [.d (.st 4),.d (.st 3)] [(.st 4,[none,some 220])] false λa=>iK_ a.1 a.2.1
theorem ok_126:OKF 126 c_126:=⟨aa_ ad_ ab_ Tryz.func126 (by kernel_rfl) (pl := .s .p (.s .p (.s (.s .p (.lp ⟨[(6,.d (.int .i64))],[(9,true,.cells 82 [.v (.int .i64),.own 14]),(14,false,.row 220 (.st 3) [])],[2,3,4,5],[0,2,4],[],15⟩ ⟨[],[(9,true,.cells 82 [.v (.int .i64),.own 14]),(14,false,.row 220 (.st 3) [])],[4,5],[4],[],15⟩ false (.s .p (.j ⟨[],[(9,true,.cells 82 [.v (.int .i64),.own 20]),(20,false,.row 220 (.st 3) [])],[2,3,4,5,6],[0,2,4],[],21⟩ false (.s (.dr [0,0,0,0,0,0,0,0,0] [] false []) (.s .p (.dr [0,0,0,0,0,0,0,1,2,4,2] [] false []))) .p)))) .p))) λ_=>by kernel_rfl,by kernel_rfl⟩
def c_123:Con te:=ae_ te [.d (.st 4),.d (.int .i64),.d .str,.d (.int .i64)] [(.st 4,[none,some 220])] false λa=>k9_ a.1 a.2.1 a.2.2.1 a.2.2.2.1
theorem ok_123:OKF 123 c_123:=⟨aa_ ad_ (ac_ ok_126 (ac_ ok_127 (ac_ gD_ ab_))) Tryz.func123 (by kernel_rfl) (pl := .s .p (.s .p (.s (.dr [0,0,0,0,0,1,2] [] false []) .p))) λ_=>by kernel_rfl,by kernel_rfl⟩
def c_75:Con te:=ae_ te [.d (.st 4),.d (.int .i64),.d .str,.d (.int .i64),.d .str,.d .str,.d (.int .i64)] [(.st 4,[]),(.int .i64,[]),(.int .i64,[])] true λa=>gg_ a.1 a.2.1 a.2.2.1 a.2.2.2.1 a.2.2.2.2.1 a.2.2.2.2.2.1 a.2.2.2.2.2.2.1
theorem ok_75:OKF 75 c_75:=⟨aa_ ad_ (ac_ ok_123 (ac_ ok_80 (ac_ ok_79 (ac_ ok_122 (ac_ ok_121 (ac_ ok_36 (ac_ ok_120 (ac_ gD_ ab_)))))))) Tryz.func75 (by kernel_rfl) (pl := .s .p (.s .p (.s .p (.s .p (.s .p (.s .p (.s .p (.s .p (.s (.dr [0,0,0,0,0,0,0,0,0,0,0,0,0,0,0,0,1,2] [] false []) (.s .p (.s .p (.s .p (.s (.dr [0,0,0,1,4,4] [] true [2]) .p))))))))))))) λ_=>by kernel_rfl,by kernel_rfl⟩
def c_76:Con te:=ae_ te [] [(.sl .str,[some 9])] false λ_=>hT_
theorem ok_76:OKF 76 c_76:=⟨aa_ ad_ ab_ Tryz.func76 (by kernel_rfl) (pl := .p) λ_=>by kernel_rfl,by kernel_rfl⟩
def c_77:Con te:=ae_ te [.d .str] [(.bool,[])] false λa=>i1_ a.1
theorem ok_77:OKF 77 c_77:=⟨aa_ ad_ ab_ Tryz.func77 (by kernel_rfl) (pl := .s .p (.s (.s .p (.j ⟨[(4,.d .bool)],[],[],[],[],2⟩ false .p .p)) .p)) λ_=>by kernel_rfl,by kernel_rfl⟩
def c_124:Con te:=ae_ te [.d (.st 4),.d (.int .i64)] [(.st 3,[]),(.int .i64,[])] false λa=>m3_ a.1 a.2.1
theorem ok_124:OKF 124 c_124:=⟨aa_ ad_ (ac_ ok_120 (ac_ gD_ ab_)) Tryz.func124 (by kernel_rfl) (pl := .p) λ_=>by kernel_rfl,by kernel_rfl⟩
def c_125:Con te:=ae_ te [.d (.int .i64)] [(.str,[])] false λa=>la_ a.1
theorem ok_125:OKF 125 c_125:=⟨aa_ ad_ ab_ Tryz.func125 (by kernel_rfl) (pl := .p) λ_=>by kernel_rfl,by kernel_rfl⟩
def c_78:Con te:=ae_ te [.d (.st 4),.d (.int .i64),.d (.int .i64),.d .str,.d .str,.d (.int .i64)] [(.st 4,[]),(.int .i64,[]),(.int .i64,[])] true λa=>lb_ a.1 a.2.1 a.2.2.1 a.2.2.2.1 a.2.2.2.2.1 a.2.2.2.2.2.1
theorem ok_78:OKF 78 c_78:=⟨aa_ ad_ (ac_ ok_126 (ac_ ok_127 (ac_ ok_125 (ac_ ok_124 ab_)))) Tryz.func78 (by kernel_rfl) (pl := .s .p (.s .p (.s .p (.s .p (.s .p (.j ⟨[(2,.d (.int .i64))],[],[3,4,5,6,12,15],[0,2,12],[],23⟩ false .p (.s .p (.s .p (.s .p (.s .p (.s (.dr [0,0,0,0,0,1,4,4,2,4,4] [6,7] false []) .p))))))))))) λ_=>by kernel_rfl,by kernel_rfl⟩
def c_39:Con te:=ae_ te [] [(.st 4,[])] true λ_=>hU_
theorem ok_39:OKF 39 c_39:=⟨aa_ ad_ (ac_ ok_78 (ac_ ok_77 (ac_ ok_76 (ac_ ok_75 (ac_ ok_40 ab_))))) Tryz.func39 (by kernel_rfl) (pl := .s .p (.s .p (.s .p (.s (.s .p (.lp ⟨[(14,.d (.int .i64))],[(4,true,.cells 82 [.v (.int .i64),.v (.sl (.st 3))]),(8,true,.row 9 .str [])],[0,1,2,13],[0],[],14⟩ ⟨[],[(4,true,.box 82 (.st 4))],[0,1],[0],[],14⟩ false (.s .p (.s .p (.s (.s .p (.s .p (.j ⟨[(4,.d (.int .i64))],[(8,true,.row 9 .str [])],[0,1,2,3,13,14],[0,4],[],18⟩ false .p (.dr [0,0,0,0,0,0,1,4,4,4,4,2] [] false [])))) .p))))) (.s .p (.s (.s .p (.lp ⟨[(37,.d (.int .i64))],[(4,true,.box 82 (.st 4)),(14,true,.row 9 .str [])],[0,1,5,36],[0],[],20⟩ ⟨[],[(4,true,.box 82 (.st 4))],[0,1],[0],[],20⟩ false (.s .p (.s .p (.j ⟨[],[(4,true,.box 82 (.st 4)),(14,true,.row 9 .str [])],[0,1,5,36,37],[0],[],21⟩ false (.s .p (.s .p (.s (.df [0,0,0,0,0,1,4,4,4,4,1,2,4,4] [] 5) (.dr [0,0,0,0,0,0,0,0,1,4,4,4,4,2] [] false [])))) .p))))) .p)))))) λ_=>by kernel_rfl,by kernel_rfl⟩
def c_81:Con te:=ae_ te [.d .str] [(.bool,[])] false λa=>hV_ a.1
theorem ok_81:OKF 81 c_81:=⟨aa_ ad_ (ac_ ok_45 ab_) Tryz.func81 (by kernel_rfl) (pl := .p) λ_=>by kernel_rfl,by kernel_rfl⟩
def c_41:Con te:=ae_ te [.d (.sl .str)] [(.st 22,[]),(.int .i64,[])] true λa=>ref24_New a.1
theorem ok_41:OKF 41 c_41:=⟨aa_ ad_ (ac_ ok_81 ab_) Tryz.func41 (by kernel_rfl) (pl := .s .p (.s .p (.s .p (.s (.s .p (.lp ⟨[(4,.d (.sl (.st 21))),(5,.d (.int .i64))],[],[0,2],[0],[],8⟩ ⟨[(4,.d (.sl (.st 21)))],[],[2],[0],[],8⟩ true (.s .p (.s (.s .p (.s .p (.s (.lp ⟨[(6,.d (.int .i64))],[],[0,2,4,5],[0],[],19⟩ ⟨[(6,.d (.int .i64))],[],[0,2,4,5],[0],[],19⟩ false (.s (.s (.dr [0,0,0,0,0,0,0,0,0,0,0,0,0,0,0,0] [] false []) .p) .p)) (.s (.s (.dr [0,0,0,0,0,0,0,0,0,0,0,0,0,0,0,0] [] false []) .p) .p)))) .p)))) .p)))) λ_=>by kernel_rfl,by kernel_rfl⟩
def c_42:Con te:=ae_ te [.d .str,.d .str] [(.st 24,[]),(.int .i64,[])] true λa=>ref26_New a.1 a.2.1
theorem ok_42:OKF 42 c_42:=⟨aa_ ad_ ab_ Tryz.func42 (by kernel_rfl) (pl := .p) λ_=>by kernel_rfl,by kernel_rfl⟩
def c_82:Con te:=ae_ te [.d (.int .i64)] [(.st 7,[])] true λa=>ref15_New a.1
theorem ok_82:OKF 82 c_82:=⟨aa_ ad_ ab_ Tryz.func82 (by kernel_rfl) (pl := .p) λ_=>by kernel_rfl,by kernel_rfl⟩
def c_43:Con te:=ae_ te [.d (.st 5),.d (.int .i64)] [(.st 9,[])] true λa=>ref17_New a.1 a.2.1
theorem ok_43:OKF 43 c_43:=⟨aa_ ad_ (ac_ ok_82 ab_) Tryz.func43 (by kernel_rfl) (pl := .s .p (.s (.dr [0,0,1,4,2] [] false []) .p)) λ_=>by kernel_rfl,by kernel_rfl⟩
def c_18:Con te:=ae_ te [.d .str] [(.sl (.st 25),[some 106]),(.int .i64,[])] true λa=>m4_ a.1
theorem ok_18:OKF 18 c_18:=⟨aa_ ad_ (ac_ ok_43 (ac_ ok_42 (ac_ ok_41 (ac_ ok_40 (ac_ ok_39 (ac_ ok_37 (ac_ ok_38 ab_))))))) Tryz.func18 (by kernel_rfl) (pl := .s .p (.s .p (.s .p (.s .p (.s .p (.s .p (.s .p (.s .p (.s .p (.s (.dr [0,0,0,1,4,0,0,0,0,0,0,0,0,0,0,0,1,4,4] [5,7,9,11,13,15,6,8,10,12,14] false []) .p)))))))))) λ_=>by kernel_rfl,by kernel_rfl⟩
def c_19:Con te:=ae_ te [.d (.int .i64)] [(.st 43,[])] true λa=>ref36_New a.1
theorem ok_19:OKF 19 c_19:=⟨aa_ ad_ ab_ Tryz.func19 (by kernel_rfl) (pl := .p) λ_=>by kernel_rfl,by kernel_rfl⟩
def c_21:Con te:=ae_ te [] [(.st 46,[])] true λ_=>fh_
theorem ok_21:OKF 21 c_21:=⟨aa_ ad_ ab_ Tryz.func21 (by kernel_rfl) (pl := .p) λ_=>by kernel_rfl,by kernel_rfl⟩
def c_20:Con te:=ae_ te [.d (.st 46)] [(.st 46,[]),(.sl (.st 39),[])] true λa=>ds_ a.1
theorem ok_20:OKF 20 c_20:=⟨aa_ ad_ ab_ Tryz.func20 (by kernel_rfl) (pl := .s .p (.s .p (.s .p (.s (.s .p (.lp ⟨[],[],[1,2,4,5],[0,2],[],10⟩ ⟨[],[],[1,2,4],[0,2],[],10⟩ false .p)) .p)))) λ_=>by kernel_rfl,by kernel_rfl⟩
def c_22:Con te:=ae_ te [.d (.int .i64)] [(.st 44,[])] false λa=>ref37_New a.1
theorem ok_22:OKF 22 c_22:=⟨aa_ ad_ ab_ Tryz.func22 (by kernel_rfl) (pl := .p) λ_=>by kernel_rfl,by kernel_rfl⟩
def c_23:Con te:=ae_ te [.d (.int .i64)] [(.st 49,[])] true λa=>ref39_New a.1
theorem ok_23:OKF 23 c_23:=⟨aa_ ad_ ab_ Tryz.func23 (by kernel_rfl) (pl := .p) λ_=>by kernel_rfl,by kernel_rfl⟩
def c_24:Con te:=ae_ te [.d .str] [(.st 32,[none,none,some 158]),(.int .i64,[])] true λa=>j1_ a.1
theorem ok_24:OKF 24 c_24:=⟨aa_ ad_ (ac_ ok_45 ab_) Tryz.func24 (by kernel_rfl) (pl := .p) λ_=>by kernel_rfl,by kernel_rfl⟩
def c_83:Con te:=ae_ te [.d (.st 43)] [(.st 43,[]),(.int .i64,[]),(.int .i64,[])] true λa=>gh_ a.1
theorem ok_83:OKF 83 c_83:=⟨aa_ ad_ ab_ Tryz.func83 (by kernel_rfl) (pl := .p) λ_=>by kernel_rfl,by kernel_rfl⟩
def c_84:Con te:=ae_ te [.d (.st 60),.d (.st 35),.d (.st 43)] [(.st 60,[none,none,none,none,none,none,none,none,none,some 68])] true λa=>df_ a.1 a.2.1 a.2.2.1
theorem ok_84:OKF 84 c_84:=⟨aa_ ad_ ab_ Tryz.func84 (by kernel_rfl) (pl := .p) λ_=>by kernel_rfl,by kernel_rfl⟩
def c_85:Con te:=ae_ te [.d (.st 49)] [(.st 49,[])] true λa=>hn_ a.1
theorem ok_85:OKF 85 c_85:=⟨aa_ ad_ ab_ Tryz.func85 (by kernel_rfl) (pl := .p) λ_=>by kernel_rfl,by kernel_rfl⟩
def c_260:Con te:=ae_ te [.d (.int .i64)] [(.str,[])] false λa=>iL_ a.1
theorem ok_260:OKF 260 c_260:=⟨aa_ ad_ ab_ Tryz.func260 (by kernel_rfl) (pl := .p) λ_=>by kernel_rfl,by kernel_rfl⟩
def c_181:Con te:=ae_ te [.d (.int .i64)] [(.bool,[])] false λa=>ca_ a.1
theorem ok_181:OKF 181 c_181:=⟨aa_ ad_ (ac_ ok_260 ab_) Tryz.func181 (by kernel_rfl) (pl := .p) λ_=>by kernel_rfl,by kernel_rfl⟩
def c_182:Con te:=ae_ te [.d (.sl (.st 45)),.d (.int .i64)] [(.int .i64,[])] false λa=>dH_ a.1 a.2.1
theorem ok_182:OKF 182 c_182:=⟨aa_ ad_ ab_ Tryz.func182 (by kernel_rfl) (pl := .s .p (.s (.s .p (.lp ⟨[(5,.d (.int .i64))],[],[0,1],[],[],2⟩ ⟨[],[],[],[],[],2⟩ true .p)) .p)) λ_=>by kernel_rfl,by kernel_rfl⟩
def c_261:Con te:=ae_ te [.d (.sl (.st 45)),.d (.int .i64)] [(.int .i64,[])] false λa=>lc_ a.1 a.2.1
theorem ok_261:OKF 261 c_261:=⟨aa_ ad_ ab_ Tryz.func261 (by kernel_rfl) (pl := .s .p (.s (.s .p (.lp ⟨[(5,.d (.int .i64))],[],[0,1],[],[],2⟩ ⟨[],[],[],[],[],2⟩ true .p)) .p)) λ_=>by kernel_rfl,by kernel_rfl⟩
def c_183:Con te:=ae_ te [.d (.sl (.st 45))] [(.int .i64,[])] false λa=>ref38_tag a.1
theorem ok_183:OKF 183 c_183:=⟨aa_ ad_ (ac_ ok_261 (ac_ ok_182 ab_)) Tryz.func183 (by kernel_rfl) (pl := .s .p (.s (.s .p (.lp ⟨[(3,.d (.int .i64))],[],[0],[],[],2⟩ ⟨[],[],[],[],[],2⟩ true .p)) .p)) λ_=>by kernel_rfl,by kernel_rfl⟩
def c_364:Con te:=ae_ te [.d (.st 39)] [(.int .i64,[])] false λa=>ref08_tag a.1
theorem ok_364:OKF 364 c_364:=⟨aa_ ad_ ab_ Tryz.func364 (by kernel_rfl) (pl := .p) λ_=>by kernel_rfl,by kernel_rfl⟩
def c_367:Con te:=ae_ te [.d (.int .i64)] [(.str,[])] false λa=>gi_ a.1
theorem ok_367:OKF 367 c_367:=⟨aa_ ad_ ab_ Tryz.func367 (by kernel_rfl) (pl := .s .p (.s (.s .p (.s .p (.s .p (.s .p (.s .p (.s .p (.s .p (.j ⟨[(10,.d .bool)],[],[3],[],[],8⟩ false .p (.s .p (.s .p (.s .p (.s .p (.s .p (.s .p (.s .p (.s .p (.s .p (.s .p (.s .p (.s .p (.s .p (.j ⟨[(25,.d .bool)],[],[3],[],[],20⟩ false .p (.s .p (.s .p (.s .p (.s .p (.s .p (.s .p (.s .p (.s .p (.s .p (.s .p (.s .p (.j ⟨[(38,.d .bool)],[],[3],[],[],30⟩ false .p .p)))))))))))))))))))))))))))))))))) .p)) λ_=>by kernel_rfl,by kernel_rfl⟩
def c_365:Con te:=ae_ te [.d (.int .i64),.d (.int .u8)] [(.bool,[])] false λa=>m5_ a.1 a.2.1
theorem ok_365:OKF 365 c_365:=⟨aa_ ad_ (ac_ ok_367 ab_) Tryz.func365 (by kernel_rfl) (pl := .s .p (.s .p (.s (.s .p (.lp ⟨[(6,.d (.int .i64))],[],[1,5],[],[],5⟩ ⟨[],[],[],[],[],5⟩ true .p)) .p))) λ_=>by kernel_rfl,by kernel_rfl⟩
def c_466:Con te:=ae_ te [.d (.st 39),.d (.int .u8)] [(.bool,[])] false λa=>hW_ a.1 a.2.1
theorem ok_466:OKF 466 c_466:=⟨aa_ ad_ ab_ Tryz.func466 (by kernel_rfl) (pl := .p) λ_=>by kernel_rfl,by kernel_rfl⟩
def c_366:Con te:=ae_ te [.d (.st 39),.d (.int .u8)] [(.bool,[])] false λa=>m6_ a.1 a.2.1
theorem ok_366:OKF 366 c_366:=⟨aa_ ad_ (ac_ ok_466 ab_) Tryz.func366 (by kernel_rfl) (pl := .p) λ_=>by kernel_rfl,by kernel_rfl⟩
def c_467:Con te:=ae_ te [.d (.int .i64),.d (.int .i64)] [(.int .i64,[])] false λa=>aD_ a.1 a.2.1
theorem ok_467:OKF 467 c_467:=⟨aa_ ad_ ab_ Tryz.func467 (by kernel_rfl) (pl := .p) λ_=>by kernel_rfl,by kernel_rfl⟩
def c_468:Con te:=ae_ te [.d .str,.d (.int .i64)] [(.int .i64,[])] false λa=>cA_ a.1 a.2.1
theorem ok_468:OKF 468 c_468:=⟨aa_ ad_ ab_ Tryz.func468 (by kernel_rfl) (pl := .p) λ_=>by kernel_rfl,by kernel_rfl⟩
def c_471:Con te:=ae_ te [.d (.st 37)] [(.int .i64,[])] false λa=>ref08_qid a.1
theorem ok_471:OKF 471 c_471:=⟨aa_ ad_ ab_ Tryz.func471 (by kernel_rfl) (pl := .p) λ_=>by kernel_rfl,by kernel_rfl⟩
def c_472:Con te:=ae_ te [.d (.st 39),.d (.int .u8)] [(.int .i64,[])] false λa=>gX_ a.1 a.2.1
theorem ok_472:OKF 472 c_472:=⟨aa_ ad_ (ac_ ok_468 (ac_ ok_36 (ac_ ok_467 ab_))) Tryz.func472 (by kernel_rfl) (pl := .p) λ_=>by kernel_rfl,by kernel_rfl⟩
def c_368:Con te:=ae_ te [.d (.st 39),.d (.int .u8)] [(.int .i64,[])] false λa=>ld_ a.1 a.2.1
theorem ok_368:OKF 368 c_368:=⟨aa_ ad_ (ac_ ok_472 (ac_ ok_471 (ac_ ok_468 (ac_ ok_467 ab_)))) Tryz.func368 (by kernel_rfl) (pl := .p) λ_=>by kernel_rfl,by kernel_rfl⟩
def c_262:Con te:=ae_ te [.d (.st 39)] [(.int .i64,[])] false λa=>dI_ a.1
theorem ok_262:OKF 262 c_262:=⟨aa_ ad_ (ac_ ok_368 (ac_ ok_367 (ac_ ok_366 (ac_ ok_365 (ac_ ok_364 (ac_ ok_260 ab_)))))) Tryz.func262 (by kernel_rfl) (pl := .s .p (.s .p (.s .p (.s (.s .p (.lp ⟨[(4,.d (.int .i64))],[],[1],[0],[],13⟩ ⟨[],[],[1],[0],[],13⟩ true (.s .p (.s (.s (.dr [0,0,0,0,0,0,0,0,0,0,0,0,0] [] false []) .p) .p)))) (.s .p (.s (.s .p (.lp ⟨[(6,.d (.int .i64))],[],[1,5],[0],[],18⟩ ⟨[],[],[],[],[],18⟩ true (.s .p (.s (.s (.dr [0,0,0,0,0,0] [] false []) .p) .p)))) .p)))))) λ_=>by kernel_rfl,by kernel_rfl⟩
def c_263:Con te:=ae_ te [.d (.int .i64)] [(.sl (.int .i64),[]),(.bool,[])] true λa=>gj_ a.1
theorem ok_263:OKF 263 c_263:=⟨aa_ ad_ ab_ Tryz.func263 (by kernel_rfl) (pl := .s .p (.s (.s .p (.s .p (.s .p (.s .p (.s .p (.s .p (.s .p (.j ⟨[(14,.d .bool)],[],[4],[],[],9⟩ false .p (.s .p (.s .p (.s .p (.s .p (.s .p (.s .p (.s .p (.s .p (.s .p (.s .p (.s .p (.s .p (.s .p (.j ⟨[(36,.d .bool)],[],[4],[],[],21⟩ false .p (.s .p (.s .p (.s .p (.s .p (.s .p (.s .p (.s .p (.s .p (.s .p (.s .p (.s .p (.j ⟨[(55,.d .bool)],[],[4],[],[],31⟩ false .p (.s .p (.s .p (.s .p (.s .p (.s .p (.s .p (.s .p (.s .p (.s .p (.s .p (.s .p (.j ⟨[(75,.d .bool)],[],[],[],[],41⟩ false .p .p)))))))))))))))))))))))))))))))))))))))))))))) .p)) λ_=>by kernel_rfl,by kernel_rfl⟩
def c_373:Con te:=ae_ te [.d (.int .i64)] [(.bool,[])] false λa=>ho_ a.1
theorem ok_373:OKF 373 c_373:=⟨aa_ ad_ ab_ Tryz.func373 (by kernel_rfl) (pl := .p) λ_=>by kernel_rfl,by kernel_rfl⟩
def c_266:Con te:=ae_ te [.d (.int .i64),.d (.int .i64)] [(.str,[]),(.int .i64,[])] false λa=>gY_ a.1 a.2.1
theorem ok_266:OKF 266 c_266:=⟨aa_ ad_ (ac_ ok_373 ab_) Tryz.func266 (by kernel_rfl) (pl := .s .p (.s .p (.s .p (.s .p (.s (.s .p (.lp ⟨[(6,.d .str),(7,.d (.int .i64)),(8,.d (.int .i64))],[],[1],[],[],9⟩ ⟨[(6,.d .str),(7,.d (.int .i64))],[],[],[],[],9⟩ false .p)) .p))))) λ_=>by kernel_rfl,by kernel_rfl⟩
def c_264:Con te:=ae_ te [.d (.st 61),.d (.int .i64),.d (.int .i64)] [(.st 61,[])] false λa=>aG_ a.1 a.2.1 a.2.2.1
theorem ok_264:OKF 264 c_264:=⟨aa_ ad_ (ac_ ok_266 ab_) Tryz.func264 (by kernel_rfl) (pl := .s .p (.s .p (.j ⟨[],[(0,true,.box 440 (.st 61))],[3,6],[2],[],12⟩ false .p .p))) λ_=>by kernel_rfl,by kernel_rfl⟩
def c_473:Con te:=ae_ te [.d .str] [(.str,[]),(.int .i64,[])] false λa=>i2_ a.1
theorem ok_473:OKF 473 c_473:=⟨aa_ ad_ (ac_ ok_266 ab_) Tryz.func473 (by kernel_rfl) (pl := .p) λ_=>by kernel_rfl,by kernel_rfl⟩
def c_369:Con te:=ae_ te [.d (.st 61),.d .str] [(.st 61,[])] false λa=>dt_ a.1 a.2.1
theorem ok_369:OKF 369 c_369:=⟨aa_ ad_ (ac_ ok_473 ab_) Tryz.func369 (by kernel_rfl) (pl := .s .p (.s .p (.j ⟨[],[(0,true,.box 440 (.st 61))],[2,4],[2],[],11⟩ false .p .p))) λ_=>by kernel_rfl,by kernel_rfl⟩
def c_370:Con te:=ae_ te [.d (.st 61),.d (.st 37)] [(.st 61,[])] false λa=>ref09_qid a.1 a.2.1
theorem ok_370:OKF 370 c_370:=⟨aa_ ad_ (ac_ ok_264 ab_) Tryz.func370 (by kernel_rfl) (pl := .s .p (.s (.dr [0,0,0,0,0,0,0,0,0,0,2] [] false []) .p)) λ_=>by kernel_rfl,by kernel_rfl⟩
def c_265:Con te:=ae_ te [.d (.st 61),.d (.st 39),.d (.int .i64)] [(.st 61,[])] false λa=>le_ a.1 a.2.1 a.2.2.1
theorem ok_265:OKF 265 c_265:=⟨aa_ ad_ (ac_ ok_370 (ac_ ok_369 (ac_ ok_264 ab_))) Tryz.func265 (by kernel_rfl) (pl := .s .p (.s (.s .p (.s .p (.s .p (.s .p (.s .p (.s .p (.s .p (.s .p (.s .p (.s .p (.s .p (.s .p (.s .p (.s .p (.s .p (.s .p (.s .p (.s .p (.s (.s (.dr [0,0,0,0,0,2] [] false []) .p) .p))))))))))))))))))) .p)) λ_=>by kernel_rfl,by kernel_rfl⟩
def c_184:Con te:=ae_ te [.d (.st 39)] [(.str,[]),(.int .i64,[])] false λa=>j2_ a.1
theorem ok_184:OKF 184 c_184:=⟨aa_ ad_ (ac_ ok_266 (ac_ ok_265 (ac_ ok_264 (ac_ ok_263 (ac_ ok_262 ab_))))) Tryz.func184 (by kernel_rfl) (pl := .s .p (.s .p (.s .p (.s (.dr [0,0,0,0,0,0,0,1,2] [] false []) (.s (.s .p (.lp ⟨[(8,.d (.int .i64))],[(24,true,.box 440 (.st 61))],[1,5,7],[0],[],29⟩ ⟨[],[(24,true,.box 440 (.st 61))],[7],[],[],29⟩ false (.s .p (.s (.dr [0,0,0,0,0,0,0,2] [] false []) .p)))) (.s (.s .p (.s (.s (.dr [0,0,0,0] [] false []) .p) .p)) .p)))))) λ_=>by kernel_rfl,by kernel_rfl⟩
def c_185:Con te:=ae_ te [.d (.st 46),.d (.st 39)] [(.st 46,[none,none,none,none,some 155])] true λa=>lf_ a.1 a.2.1
theorem ok_185:OKF 185 c_185:=⟨aa_ ad_ ab_ Tryz.func185 (by kernel_rfl) (pl := .p) λ_=>by kernel_rfl,by kernel_rfl⟩
def c_128:Con te:=ae_ te [.d (.st 46),.d (.st 39)] [(.st 46,[]),(.int .i64,[]),(.str,[]),(.int .i64,[])] true λa=>hp_ a.1 a.2.1
theorem ok_128:OKF 128 c_128:=⟨aa_ ad_ (ac_ ok_185 (ac_ ok_184 (ac_ ok_183 (ac_ ok_182 (ac_ ok_181 ab_))))) Tryz.func128 (by kernel_rfl) (pl := .s .p (.s .p (.s .p (.s .p (.s .p (.s .p (.j ⟨[],[(2,true,.box 152 (.st 39))],[2,3,4],[0,4],[],14032⟩ false .p (.s .p (.s .p (.s .p (.s (.dr [0,0,1,0,0,0,1,4,4,4] [3,5,4] true [4]) .p))))))))))) λ_=>by kernel_rfl,by kernel_rfl⟩
def c_186:Con te:=ae_ te [.d (.st 44),.d .bool,.d .str] [(.st 44,[]),(.int .i64,[])] false λa=>er_ a.1 a.2.1 a.2.2.1
theorem ok_186:OKF 186 c_186:=⟨aa_ ad_ ab_ Tryz.func186 (by kernel_rfl) (pl := .s .p (.s .p (.s .p (.j ⟨[],[(9,true,.box 108 (.st 44))],[3,6,8],[0,2],[],13⟩ false .p .p)))) λ_=>by kernel_rfl,by kernel_rfl⟩
def c_187:Con te:=ae_ te [.d (.st 44),.d .bool,.d (.int .i64)] [(.st 44,[]),(.str,[])] false λa=>es_ a.1 a.2.1 a.2.2.1
theorem ok_187:OKF 187 c_187:=⟨aa_ ad_ ab_ Tryz.func187 (by kernel_rfl) (pl := .s .p (.s .p (.s (.s .p (.s (.s .p (.s .p (.s (.dr [0,0,0,0,0,1,4] [] true [2]) .p))) .p)) (.s .p (.s .p (.s (.dr [0,0,0,0,0,1,4] [] true [2]) .p)))))) λ_=>by kernel_rfl,by kernel_rfl⟩
def c_267:Con te:=ae_ te [.d .str,.d (.int .i64),.d (.int .i64)] [(.int .i64,[]),(.int .i64,[]),(.int .i64,[])] false λa=>fi_ a.1 a.2.1 a.2.2.1
theorem ok_267:OKF 267 c_267:=⟨aa_ ad_ (ac_ ok_373 ab_) Tryz.func267 (by kernel_rfl) (pl := .s .p (.s .p (.s .p (.s .p (.s (.s .p (.lp ⟨[(9,.d (.int .i64)),(10,.d (.int .i64))],[],[0,1,2],[],[],8018⟩ ⟨[(9,.d (.int .i64))],[],[1,2],[],[],8018⟩ true .p)) .p))))) λ_=>by kernel_rfl,by kernel_rfl⟩
def c_374:Con te:=ae_ te [.d (.st 62),.d (.int .i64)] [(.st 62,[]),(.int .i64,[])] false λa=>au_ a.1 a.2.1
theorem ok_374:OKF 374 c_374:=⟨aa_ ad_ (ac_ ok_267 ab_) Tryz.func374 (by kernel_rfl) (pl := .p) λ_=>by kernel_rfl,by kernel_rfl⟩
def c_579:Con te:=ae_ te [.d .str,.d (.int .i64)] [(.str,[]),(.int .i64,[]),(.int .i64,[])] false λa=>i3_ a.1 a.2.1
theorem ok_579:OKF 579 c_579:=⟨aa_ ad_ (ac_ ok_267 ab_) Tryz.func579 (by kernel_rfl) (pl := .p) λ_=>by kernel_rfl,by kernel_rfl⟩
def c_476:Con te:=ae_ te [.d (.st 62)] [(.st 62,[]),(.str,[])] false λa=>cb_ a.1
theorem ok_476:OKF 476 c_476:=⟨aa_ ad_ (ac_ ok_579 ab_) Tryz.func476 (by kernel_rfl) (pl := .p) λ_=>by kernel_rfl,by kernel_rfl⟩
def c_477:Con te:=ae_ te [.d (.st 62)] [(.st 62,[]),(.st 37,[])] false λa=>j3_ a.1
theorem ok_477:OKF 477 c_477:=⟨aa_ ad_ (ac_ ok_374 ab_) Tryz.func477 (by kernel_rfl) (pl := .p) λ_=>by kernel_rfl,by kernel_rfl⟩
def c_375:Con te:=ae_ te [.d (.st 62),.g (.st 39) [none,none,none,none,none,none,none,none,none,none,some 9,some 148],.d (.int .i64)] [(.st 62,[]),(.st 39,[none,none,none,none,none,none,none,none,none,none,some 9,some 148])] false λa=>m7_ a.1 a.2.1 a.2.2.1
theorem ok_375:OKF 375 c_375:=⟨aa_ ad_ (ac_ ok_477 (ac_ ok_476 (ac_ ok_374 ab_))) Tryz.func375 (by kernel_rfl) (pl := .s .p (.j ⟨[],[(2,true,.box 577 (.st 62)),(4,true,.cells 152 [.v (.int .i64),.v (.int .i64),.v (.int .i64),.v (.int .i64),.v (.int .i64),.v (.int .i64),.v (.int .i64),.v .str,.v .str,.v .str,.own 0,.own 1,.v (.int .i64),.v (.int .i64),.v (.int .i64),.v (.int .i64),.v (.int .i64),.v (.int .i64),.v .str,.v (.int .i64),.v (.int .i64),.v .str,.v (.int .i64),.v (.int .i64),.v (.int .i64),.v (.int .i64),.v (.int .i64),.v (.int .i64),.v (.int .i64),.v (.int .i64),.v (.int .i64),.v .str,.v .str,.v .str,.v .str,.v (.int .i64),.v (.int .i64),.v (.int .i64),.v .str]),(0,true,.row 9 .str []),(1,true,.row 148 (.st 37) [])],[3,4,6,7],[6,8],[],10⟩ true .p (.s (.dr [0,0,1,1] [] true [6,8]) .p))) λ_=>by kernel_rfl,by kernel_rfl⟩
def c_268:Con te:=ae_ te [.d .str,.d (.int .i64)] [(.st 39,[none,none,none,none,none,none,none,none,none,none,some 9,some 148]),(.int .i64,[]),(.int .i64,[])] false λa=>ref09_Get a.1 a.2.1
theorem ok_268:OKF 268 c_268:=⟨aa_ ad_ (ac_ ok_262 (ac_ ok_375 (ac_ ok_263 (ac_ ok_374 (ac_ ok_267 ab_))))) Tryz.func268 (by kernel_rfl) (pl := .s .p (.s .p (.s .p (.s .p (.s .p (.s .p (.s .p (.s .p (.s .p (.s .p (.s .p (.s .p (.s .p (.s (.s .p (.lp ⟨[(17,.d (.int .i64))],[(5029,true,.cells 152 [.v (.int .i64),.v (.int .i64),.v (.int .i64),.v (.int .i64),.v (.int .i64),.v (.int .i64),.v (.int .i64),.v .str,.v .str,.v .str,.own 5074,.own 5075,.v (.int .i64),.v (.int .i64),.v (.int .i64),.v (.int .i64),.v (.int .i64),.v (.int .i64),.v .str,.v (.int .i64),.v (.int .i64),.v .str,.v (.int .i64),.v (.int .i64),.v (.int .i64),.v (.int .i64),.v (.int .i64),.v (.int .i64),.v (.int .i64),.v (.int .i64),.v (.int .i64),.v .str,.v .str,.v .str,.v .str,.v (.int .i64),.v (.int .i64),.v (.int .i64),.v .str]),(5074,false,.row 9 .str []),(5075,false,.row 148 (.st 37) []),(5053,true,.box 577 (.st 62))],[1,4,7,10,13,15,16],[0],[],5076⟩ ⟨[],[(5029,true,.cells 152 [.v (.int .i64),.v (.int .i64),.v (.int .i64),.v (.int .i64),.v (.int .i64),.v (.int .i64),.v (.int .i64),.v .str,.v .str,.v .str,.own 5074,.own 5075,.v (.int .i64),.v (.int .i64),.v (.int .i64),.v (.int .i64),.v (.int .i64),.v (.int .i64),.v .str,.v (.int .i64),.v (.int .i64),.v .str,.v (.int .i64),.v (.int .i64),.v (.int .i64),.v (.int .i64),.v (.int .i64),.v (.int .i64),.v (.int .i64),.v (.int .i64),.v (.int .i64),.v .str,.v .str,.v .str,.v .str,.v (.int .i64),.v (.int .i64),.v (.int .i64),.v .str]),(5074,false,.row 9 .str []),(5075,false,.row 148 (.st 37) []),(5053,true,.box 577 (.st 62))],[1,4,7,10,13,16],[0],[],5076⟩ false (.s .p (.s (.dr [0,0,0,0,0,0,2,4,4,4,2,2] [] false []) .p)))) .p)))))))))))))) λ_=>by kernel_rfl,by kernel_rfl⟩
def c_188:Con te:=ae_ te [.d .str,.d (.int .i64)] [(.sl (.st 39),[some 152]),(.str,[]),(.int .i64,[])] true λa=>dJ_ a.1 a.2.1
theorem ok_188:OKF 188 c_188:=⟨aa_ ad_ (ac_ ok_268 (ac_ ok_267 ab_)) Tryz.func188 (by kernel_rfl) (pl := .s .p (.s .p (.j ⟨[(7,.d (.int .i64))],[],[0],[],[],5⟩ false .p (.s .p (.s .p (.s (.lp ⟨[(8,.one (.own 8)),(9,.d .str)],[(8,false,.row 152 (.st 39) [])],[7],[],[],9⟩ ⟨[(8,.one (.own 8)),(9,.d .str)],[(8,false,.row 152 (.st 39) [])],[],[],[],9⟩ true .p) .p)))))) λ_=>by kernel_rfl,by kernel_rfl⟩
def c_269:Con te:=ae_ te [.d (.st 43),.d (.int .i64)] [(.int .i64,[])] false λa=>eS_ a.1 a.2.1
theorem ok_269:OKF 269 c_269:=⟨aa_ ad_ ab_ Tryz.func269 (by kernel_rfl) (pl := .s .p (.s (.s .p (.lp ⟨[(9,.d (.int .i64))],[],[1,2,8],[0],[],7⟩ ⟨[],[],[],[],[],7⟩ true .p)) .p)) λ_=>by kernel_rfl,by kernel_rfl⟩
def c_376:Con te:=ae_ te [.d (.sl (.st 42)),.d (.int .i64)] [(.sl (.st 42),[some 301]),(.sl (.st 36),[some 304])] true λa=>j4_ a.1 a.2.1
theorem ok_376:OKF 376 c_376:=⟨aa_ ad_ ab_ Tryz.func376 (by kernel_rfl) (pl := .s .p (.s .p (.s .p (.s (.s .p (.lp ⟨[(6,.one (.own 7)),(7,.one (.own 8)),(11,.d (.int .i64))],[(7,false,.row 301 (.st 42) []),(8,false,.row 304 (.st 36) [])],[0,1,10],[],[],9⟩ ⟨[(6,.one (.own 7)),(7,.one (.own 8))],[(7,false,.row 301 (.st 42) []),(8,false,.row 304 (.st 36) [])],[],[],[],9⟩ false (.s .p (.s .p (.j ⟨[(6,.one (.own 10)),(7,.one (.own 11))],[(10,false,.row 301 (.st 42) []),(11,false,.row 304 (.st 36) [])],[0,1,10,11],[],[],12⟩ false .p .p))))) .p)))) λ_=>by kernel_rfl,by kernel_rfl⟩
def c_377:Con te:=ae_ te [.d (.sl (.st 41)),.d (.int .i64)] [(.sl (.st 41),[some 177])] false λa=>lg_ a.1 a.2.1
theorem ok_377:OKF 377 c_377:=⟨aa_ ad_ ab_ Tryz.func377 (by kernel_rfl) (pl := .s .p (.s .p (.s (.s .p (.lp ⟨[(5,.one (.own 3)),(6,.d (.int .i64))],[(3,false,.row 177 (.st 41) [])],[0,1],[],[],4⟩ ⟨[(5,.one (.own 3))],[(3,false,.row 177 (.st 41) [])],[],[],[],4⟩ false (.s .p (.j ⟨[(5,.one (.own 8))],[(8,false,.row 177 (.st 41) [])],[0,1,6],[],[],9⟩ false .p .p)))) .p))) λ_=>by kernel_rfl,by kernel_rfl⟩
def c_378:Con te:=ae_ te [.d (.st 35),.d (.st 43),.d (.int .i64),.d (.sl (.st 36))] [(.st 35,[])] true λa=>fo_ a.1 a.2.1 a.2.2.1 a.2.2.2.1
theorem ok_378:OKF 378 c_378:=⟨aa_ ad_ ab_ Tryz.func378 (by kernel_rfl) (pl := .s .p (.s (.s .p (.lp ⟨[],[],[2,3,4,5,8,11,12],[0,2,4],[],9⟩ ⟨[],[],[4,8],[0,4],[],9⟩ false (.s .p (.s .p (.s (.s .p (.dr [0,0,0,0,0,0,0,1,2] [] false [])) .p))))) .p)) λ_=>by kernel_rfl,by kernel_rfl⟩
def c_270:Con te:=ae_ te [.d (.st 35),.d (.st 43)] [(.st 35,[]),(.st 43,[])] true λa=>gk_ a.1 a.2.1
theorem ok_270:OKF 270 c_270:=⟨aa_ ad_ (ac_ ok_378 (ac_ ok_377 (ac_ ok_376 ab_))) Tryz.func270 (by kernel_rfl) (pl := .s .p (.s .p (.s .p (.s .p (.s (.dr [0,0,0,1,0,1,1] [4] true [4,6,12,13,28]) .p))))) λ_=>by kernel_rfl,by kernel_rfl⟩
def c_380:Con te:=ae_ te [.d (.st 40),.d (.int .i64)] [(.bool,[])] false λa=>gl_ a.1 a.2.1
theorem ok_380:OKF 380 c_380:=⟨aa_ ad_ ab_ Tryz.func380 (by kernel_rfl) (pl := .s .p (.s (.s .p (.lp ⟨[(9,.d (.int .i64))],[],[1,2,8],[0],[],7⟩ ⟨[],[],[],[],[],7⟩ true .p)) .p)) λ_=>by kernel_rfl,by kernel_rfl⟩
def c_587:Con te:=ae_ te [.d .str,.d (.int .i64)] [(.str,[]),(.int .i64,[]),(.int .i64,[])] false λa=>i4_ a.1 a.2.1
theorem ok_587:OKF 587 c_587:=⟨aa_ ad_ ab_ Tryz.func587 (by kernel_rfl) (pl := .s .p (.s .p (.s .p (.j ⟨[(7,.d .str)],[],[1],[],[],6⟩ false .p .p)))) λ_=>by kernel_rfl,by kernel_rfl⟩
def c_588:Con te:=ae_ te [.d (.sl (.st 41)),.d (.int .i64)] [(.sl (.st 41),[some 177])] false λa=>j5_ a.1 a.2.1
theorem ok_588:OKF 588 c_588:=⟨aa_ ad_ ab_ Tryz.func588 (by kernel_rfl) (pl := .s .p (.s .p (.s (.s .p (.lp ⟨[(5,.one (.own 3)),(6,.d (.int .i64))],[(3,false,.row 177 (.st 41) [])],[0,1],[],[],4⟩ ⟨[(5,.one (.own 3))],[(3,false,.row 177 (.st 41) [])],[],[],[],4⟩ false (.s .p (.j ⟨[(5,.one (.own 8))],[(8,false,.row 177 (.st 41) [])],[0,1,6],[],[],9⟩ false .p .p)))) .p))) λ_=>by kernel_rfl,by kernel_rfl⟩
def c_589:Con te:=ae_ te [.d (.int .i64),.d (.int .i64)] [(.str,[])] false λa=>nb_ a.1 a.2.1
theorem ok_589:OKF 589 c_589:=⟨aa_ ad_ (ac_ ok_8 ab_) Tryz.func589 (by kernel_rfl) (pl := .p) λ_=>by kernel_rfl,by kernel_rfl⟩
def c_382:Con te:=ae_ te [.d (.st 43),.d (.st 40)] [(.st 43,[none,none,none,none,none,some 186])] true λa=>et_ a.1 a.2.1
theorem ok_382:OKF 382 c_382:=⟨aa_ ad_ (ac_ ok_269 ab_) Tryz.func382 (by kernel_rfl) (pl := .s .p (.s .p (.s (.dr [0,0,0,0,0,0,0,2] [] false []) .p))) λ_=>by kernel_rfl,by kernel_rfl⟩
def c_480:Con te:=ae_ te [.d (.st 35),.d (.st 43),.d (.st 40),.d (.st 39)] [(.st 35,[]),(.st 43,[none,none,none,none,none,some 186]),(.st 39,[])] true λa=>i5_ a.1 a.2.1 a.2.2.1 a.2.2.2.1
theorem ok_480:OKF 480 c_480:=⟨aa_ ad_ (ac_ ok_382 (ac_ ok_589 (ac_ ok_588 (ac_ ok_378 (ac_ ok_587 ab_))))) Tryz.func480 (by kernel_rfl) (pl := .s .p (.s .p (.s (.s .p (.s (.s (.dr [0,0,0,0,1,1,1,1] [] true []) .p) .p)) (.s .p (.s .p (.s .p (.s .p (.j ⟨[],[(49,true,.box 186 (.st 40)),(58,true,.box 152 (.st 39))],[4,5,8,9,10,14,15],[0,2,8,10,12,41],[],62⟩ false .p (.s (.dr [0,0,0,1,0,1,1,1] [4] true [8,10,12,41]) .p))))))))) λ_=>by kernel_rfl,by kernel_rfl⟩
def c_485:Con te:=ae_ te [.d (.sl (.st 36)),.d (.int .i64)] [(.st 36,[]),(.bool,[])] false λa=>eu_ a.1 a.2.1
theorem ok_485:OKF 485 c_485:=⟨aa_ ad_ ab_ Tryz.func485 (by kernel_rfl) (pl := .s .p (.s (.s .p (.lp ⟨[(6,.d (.int .i64))],[],[0,1,4],[0],[],4⟩ ⟨[],[],[4],[0],[],4⟩ true .p)) .p)) λ_=>by kernel_rfl,by kernel_rfl⟩
def c_390:Con te:=ae_ te [.d (.st 35),.d (.int .i64)] [(.int .i64,[])] false λa=>hq_ a.1 a.2.1
theorem ok_390:OKF 390 c_390:=⟨aa_ ad_ ab_ Tryz.func390 (by kernel_rfl) (pl := .p) λ_=>by kernel_rfl,by kernel_rfl⟩
def c_617:Con te:=ae_ te [.d (.int .i64),.d (.int .i64)] [(.bool,[])] false λa=>ee_ a.1 a.2.1
theorem ok_617:OKF 617 c_617:=⟨aa_ ad_ ab_ Tryz.func617 (by kernel_rfl) (pl := .p) λ_=>by kernel_rfl,by kernel_rfl⟩
def c_496:Con te:=ae_ te [.d (.st 3),.d (.int .i64)] [(.st 38,[])] false λa=>nc_ a.1 a.2.1
theorem ok_496:OKF 496 c_496:=⟨aa_ ad_ (ac_ ok_617 ab_) Tryz.func496 (by kernel_rfl) (pl := .s .p (.s .p (.j ⟨[(5,.d (.int .i64))],[],[1,2,4],[0,2],[],5⟩ false .p (.j ⟨[(5,.d (.int .i64))],[],[1,2,4],[0,2],[],5⟩ false .p (.j ⟨[(5,.d (.int .i64))],[],[1,2,4],[0,2],[],5⟩ false .p (.j ⟨[(5,.d (.int .i64))],[],[1,2,4],[0,2],[],5⟩ false .p (.s .p (.j ⟨[(6,.d (.int .i64))],[],[1,2,4,5],[0,2],[],9⟩ false .p .p)))))))) λ_=>by kernel_rfl,by kernel_rfl⟩
def c_391:Con te:=ae_ te [.d (.st 5),.d (.int .i64)] [(.st 38,[]),(.int .i64,[])] false λa=>nd_ a.1 a.2.1
theorem ok_391:OKF 391 c_391:=⟨aa_ ad_ (ac_ ok_496 (ac_ gD_ ab_)) Tryz.func391 (by kernel_rfl) (pl := .p) λ_=>by kernel_rfl,by kernel_rfl⟩
def c_287:Con te:=ae_ te [.d (.st 35),.d (.int .i64),.d (.int .i64)] [(.st 38,[]),(.int .i64,[])] false λa=>iM_ a.1 a.2.1 a.2.2.1
theorem ok_287:OKF 287 c_287:=⟨aa_ ad_ (ac_ ok_391 (ac_ ok_390 ab_)) Tryz.func287 (by kernel_rfl) (pl := .s .p (.s .p (.s .p (.j ⟨[(11,.d (.int .i64))],[(19,true,.box 150 (.st 38))],[1,6,9,10],[2,17],[],26⟩ false .p .p)))) λ_=>by kernel_rfl,by kernel_rfl⟩
def c_594:Con te:=ae_ te [.d (.st 35),.d (.st 43),.d (.int .i64)] [(.st 37,[]),(.int .i64,[])] false λa=>ref36_qid a.1 a.2.1 a.2.2.1
theorem ok_594:OKF 594 c_594:=⟨aa_ ad_ (ac_ ok_287 ab_) Tryz.func594 (by kernel_rfl) (pl := .p) λ_=>by kernel_rfl,by kernel_rfl⟩
def c_685:Con te:=ae_ te [.d (.st 36)] [(.bool,[])] false λa=>lh_ a.1
theorem ok_685:OKF 685 c_685:=⟨aa_ ad_ ab_ Tryz.func685 (by kernel_rfl) (pl := .p) λ_=>by kernel_rfl,by kernel_rfl⟩
def c_592:Con te:=ae_ te [.d (.sl (.st 36)),.d (.st 36)] [(.sl (.st 36),[]),(.int .i64,[])] true λa=>ref33_Add a.1 a.2.1
theorem ok_592:OKF 592 c_592:=⟨aa_ ad_ (ac_ ok_485 (ac_ ok_685 ab_)) Tryz.func592 (by kernel_rfl) (pl := .s .p (.s .p (.s .p (.s .p (.s .p (.s .p (.s (.s .p (.lp ⟨[(8,.one (.own 26)),(9,.d .bool),(10,.d (.int .i64))],[(26,false,.row 304 (.st 36) [])],[0,3],[0],[],27⟩ ⟨[(8,.one (.own 26)),(9,.d .bool)],[(26,false,.row 304 (.st 36) [])],[3],[0],[],27⟩ false (.s .p (.s (.j ⟨[(8,.one (.own 31)),(9,.d .bool)],[(31,false,.row 304 (.st 36) [])],[0,3,10],[0],[],32⟩ false (.s (.dr [0,0,0,0,0,0,0,0,0,0,0,0] [] false []) .p) .p) .p)))) (.j ⟨[(8,.one (.own 27))],[(27,false,.row 304 (.st 36) [])],[],[],[],28⟩ false .p .p)))))))) λ_=>by kernel_rfl,by kernel_rfl⟩
def c_482:Con te:=ae_ te [.d (.st 35),.d (.st 43),.d (.st 40),.d (.st 39)] [(.st 43,[none,none,none,none,none,some 186]),(.st 39,[])] true λa=>hX_ a.1 a.2.1 a.2.2.1 a.2.2.2.1
theorem ok_482:OKF 482 c_482:=⟨aa_ ad_ (ac_ ok_382 (ac_ ok_592 (ac_ ok_594 (ac_ ok_45 (ac_ ok_485 ab_))))) Tryz.func482 (by kernel_rfl) (pl := .s .p (.s .p (.s .p (.s (.s .p (.s (.s (.dr [0,0,1,2,2] [] false []) .p) (.s .p (.s (.s (.dr [0,0,1,2,2] [] false []) .p) (.s .p (.s (.s (.dr [0,0,1,2,2] [] false []) .p) (.s .p (.s (.s (.dr [0,0,1,2,2] [] false []) .p) (.s .p (.s (.s (.dr [0,0,1,2,2] [] false []) .p) .p)))))))))) (.s .p (.s (.s .p (.s (.s (.dr [0,0,0,1,2,2] [] false []) .p) .p)) (.s .p (.s (.s .p (.s (.s (.dr [0,0,0,1,2,2] [] false []) .p) .p)) (.s .p (.s (.dr [0,0,1,0,0,0,0,1,1] [3,5,4,6] true [8,10]) .p)))))))))) λ_=>by kernel_rfl,by kernel_rfl⟩
def c_381:Con te:=ae_ te [.d (.st 35),.d (.st 43),.d (.st 40),.d (.st 39)] [(.st 35,[]),(.st 43,[]),(.st 39,[]),(.bool,[])] true λa=>iN_ a.1 a.2.1 a.2.2.1 a.2.2.2.1
theorem ok_381:OKF 381 c_381:=⟨aa_ ad_ (ac_ ok_485 (ac_ ok_482 (ac_ ok_480 ab_))) Tryz.func381 (by kernel_rfl) (pl := .s .p (.s .p (.s (.s .p (.s .p (.s (.s .p (.s (.dr [0,0,0,1,1,1,4] [] true [8,10,12]) .p)) (.s .p (.s .p (.s .p (.s (.s .p (.s (.dr [0,0,0,1,1,1,4] [] true [8,10,12]) .p)) .p))))))) (.s .p (.s (.s .p (.s (.s (.dr [0,0,0,1,1,1,1,4] [] true []) .p) .p)) (.s (.s .p (.s (.s (.dr [0,0,0,1,1,1,1,4] [] true []) .p) .p)) (.j ⟨[],[],[4,5,8,9,10,12,13],[0,2,8,10,12,16],[],12053⟩ false (.s .p (.s .p (.s .p (.j ⟨[(133,.d .bool)],[],[4,5,6,7,8,9,10,12,13,14,121],[0,2,4,6,8,10,12,16,41],[],12057⟩ false .p (.s .p (.s .p (.s .p (.s .p (.s .p (.j ⟨[(172,.d .bool)],[],[4,5,6,7,8,9,10,12,13,14,121],[0,2,4,6,8,10,12,16,41],[],12061⟩ false .p (.s .p (.j ⟨[(186,.d .bool)],[],[4,5,6,7,8,9,10,12,13,14,121],[0,2,4,6,8,10,12,16,41],[],12061⟩ false .p .p)))))))))))) (.s (.dr [0,0,0,0,1,1,1,4] [] true [8,10,12]) .p)))))))) λ_=>by kernel_rfl,by kernel_rfl⟩
def c_271:Con te:=ae_ te [.d (.st 35),.d (.st 43),.d (.int .i64),.d (.st 39)] [(.st 35,[]),(.st 43,[]),(.sl (.st 63),[some 366])] true λa=>e8_ a.1 a.2.1 a.2.2.1 a.2.2.2.1
theorem ok_271:OKF 271 c_271:=⟨aa_ ad_ (ac_ ok_382 (ac_ ok_381 (ac_ ok_380 (ac_ ok_181 (ac_ ok_262 (ac_ ok_269 ab_)))))) Tryz.func271 (by kernel_rfl) (pl := .s .p (.s (.dr [0,0,0,0,0,0,0,1,2] [] false []) (.s .p (.s (.s .p (.s (.j ⟨[(12,.d (.int .i64))],[],[2,4,5,7,8,9],[0,2,4,6,8],[],3031⟩ false .p (.s (.ot 0 (.free 2 (.free 4 (.alt 0 (.alt 1 (.alt 3 (.alt 5 (.free 6 (.alt 7 (.alt 8 (.alt 9 (.free 10 .nil) .nil) .nil) (.alt 8 (.alt 7 (.alt 9 (.free 10 .nil) .nil) (.alt 9 (.alt 7 (.free 10 .nil) .nil) .nil)) .nil))) .nil) .nil) (.alt 3 (.alt 1 (.alt 5 (.free 6 (.alt 7 (.alt 8 (.alt 9 (.free 10 .nil) .nil) .nil) (.alt 8 (.alt 7 (.alt 9 (.free 10 .nil) .nil) (.alt 9 (.alt 7 (.free 10 .nil) .nil) .nil)) .nil))) .nil) (.alt 5 (.free 6 (.alt 1 (.alt 7 (.alt 8 (.alt 9 (.free 10 .nil) .nil) .nil) (.alt 8 (.alt 7 (.alt 9 (.free 10 .nil) .nil) (.alt 9 (.alt 7 (.free 10 .nil) .nil) .nil)) .nil)) (.alt 7 (.alt 1 (.alt 8 (.alt 9 (.free 10 .nil) .nil) .nil) (.alt 8 (.alt 1 (.alt 9 (.free 10 .nil) .nil) .nil) .nil)) (.alt 8 (.alt 1 (.alt 7 (.alt 9 (.free 10 .nil) .nil) (.alt 9 (.alt 7 (.free 10 .nil) .nil) .nil)) (.alt 7 (.alt 1 (.alt 9 (.free 10 .nil) .nil) .nil) .nil)) .nil)))) .nil)) .nil)) (.alt 1 (.alt 0 (.alt 3 (.alt 5 (.free 6 (.alt 7 (.alt 8 (.alt 9 (.free 10 .nil) .nil) .nil) (.alt 8 (.alt 7 (.alt 9 (.free 10 .nil) .nil) (.alt 9 (.alt 7 (.free 10 .nil) .nil) .nil)) .nil))) .nil) .nil) (.alt 3 (.alt 0 (.alt 5 (.free 6 (.alt 7 (.alt 8 (.alt 9 (.free 10 .nil) .nil) .nil) (.alt 8 (.alt 7 (.alt 9 (.free 10 .nil) .nil) (.alt 9 (.alt 7 (.free 10 .nil) .nil) .nil)) .nil))) .nil) (.alt 5 (.free 6 (.alt 0 (.alt 7 (.alt 8 (.alt 9 (.free 10 .nil) .nil) .nil) (.alt 8 (.alt 7 (.alt 9 (.free 10 .nil) .nil) (.alt 9 (.alt 7 (.free 10 .nil) .nil) .nil)) .nil)) (.alt 7 (.alt 0 (.alt 8 (.alt 9 (.free 10 .nil) .nil) .nil) .nil) .nil))) .nil)) .nil)) (.alt 3 (.alt 0 (.alt 1 (.alt 5 (.free 6 (.alt 7 (.alt 8 (.alt 9 (.free 10 .nil) .nil) .nil) (.alt 8 (.alt 7 (.alt 9 (.free 10 .nil) .nil) (.alt 9 (.alt 7 (.free 10 .nil) .nil) .nil)) .nil))) .nil) (.alt 5 (.free 6 (.alt 1 (.alt 7 (.alt 8 (.alt 9 (.free 10 .nil) .nil) .nil) (.alt 8 (.alt 7 (.alt 9 (.free 10 .nil) .nil) (.alt 9 (.alt 7 (.free 10 .nil) .nil) .nil)) .nil)) (.alt 7 (.alt 1 (.alt 8 (.alt 9 (.free 10 .nil) .nil) .nil) (.alt 8 (.alt 1 (.alt 9 (.free 10 .nil) .nil) .nil) .nil)) (.alt 8 (.alt 1 (.alt 7 (.alt 9 (.free 10 .nil) .nil) (.alt 9 (.alt 7 (.free 10 .nil) .nil) .nil)) (.alt 7 (.alt 1 (.alt 9 (.free 10 .nil) .nil) .nil) .nil)) .nil)))) .nil)) (.alt 1 (.alt 0 (.alt 5 (.free 6 (.alt 7 (.alt 8 (.alt 9 (.free 10 .nil) .nil) .nil) (.alt 8 (.alt 7 (.alt 9 (.free 10 .nil) .nil) (.alt 9 (.alt 7 (.free 10 .nil) .nil) .nil)) .nil))) .nil) (.alt 5 (.free 6 (.alt 0 (.alt 7 (.alt 8 (.alt 9 (.free 10 .nil) .nil) .nil) (.alt 8 (.alt 7 (.alt 9 (.free 10 .nil) .nil) (.alt 9 (.alt 7 (.free 10 .nil) .nil) .nil)) .nil)) (.alt 7 (.alt 0 (.alt 8 (.alt 9 (.free 10 .nil) .nil) .nil) .nil) .nil))) .nil)) (.alt 5 (.free 6 (.alt 0 (.alt 1 (.alt 7 (.alt 8 (.alt 9 (.free 10 .nil) .nil) .nil) (.alt 8 (.alt 7 (.alt 9 (.free 10 .nil) .nil) (.alt 9 (.alt 7 (.free 10 .nil) .nil) .nil)) .nil)) (.alt 7 (.alt 1 (.alt 8 (.alt 9 (.free 10 .nil) .nil) .nil) (.alt 8 (.alt 1 (.alt 9 (.free 10 .nil) .nil) .nil) .nil)) (.alt 8 (.alt 1 (.alt 7 (.alt 9 (.free 10 .nil) .nil) (.alt 9 (.alt 7 (.free 10 .nil) .nil) .nil)) (.alt 7 (.alt 1 (.alt 9 (.free 10 .nil) .nil) .nil) .nil)) .nil))) (.alt 1 (.alt 0 (.alt 7 (.alt 8 (.alt 9 (.free 10 .nil) .nil) .nil) (.alt 8 (.alt 7 (.alt 9 (.free 10 .nil) .nil) (.alt 9 (.alt 7 (.free 10 .nil) .nil) .nil)) .nil)) (.alt 7 (.alt 0 (.alt 8 (.alt 9 (.free 10 .nil) .nil) .nil) .nil) .nil)) (.alt 7 (.alt 0 (.alt 1 (.alt 8 (.alt 9 (.free 10 .nil) .nil) .nil) (.alt 8 (.alt 1 (.alt 9 (.free 10 .nil) .nil) .nil) .nil)) (.alt 1 (.alt 0 (.alt 8 (.alt 9 (.free 10 .nil) .nil) .nil) .nil) .nil)) .nil)))) .nil))) .nil)))))) .p)) (.s .p (.s (.s (.ot 0 (.free 2 (.alt 0 (.alt 1 (.alt 3 (.alt 4 (.free 5 (.alt 6 (.alt 7 (.alt 8 (.free 9 .nil) .nil) .nil) (.alt 7 (.alt 6 (.alt 8 (.free 9 .nil) .nil) (.alt 8 (.alt 6 (.free 9 .nil) .nil) .nil)) .nil))) .nil) .nil) (.alt 3 (.alt 1 (.alt 4 (.free 5 (.alt 6 (.alt 7 (.alt 8 (.free 9 .nil) .nil) .nil) (.alt 7 (.alt 6 (.alt 8 (.free 9 .nil) .nil) (.alt 8 (.alt 6 (.free 9 .nil) .nil) .nil)) .nil))) .nil) (.alt 4 (.free 5 (.alt 1 (.alt 6 (.alt 7 (.alt 8 (.free 9 .nil) .nil) .nil) (.alt 7 (.alt 6 (.alt 8 (.free 9 .nil) .nil) (.alt 8 (.alt 6 (.free 9 .nil) .nil) .nil)) .nil)) (.alt 6 (.alt 1 (.alt 7 (.alt 8 (.free 9 .nil) .nil) .nil) (.alt 7 (.alt 1 (.alt 8 (.free 9 .nil) .nil) .nil) .nil)) (.alt 7 (.alt 1 (.alt 6 (.alt 8 (.free 9 .nil) .nil) (.alt 8 (.alt 6 (.free 9 .nil) .nil) .nil)) (.alt 6 (.alt 1 (.alt 8 (.free 9 .nil) .nil) .nil) .nil)) .nil)))) .nil)) .nil)) (.alt 1 (.alt 0 (.alt 3 (.alt 4 (.free 5 (.alt 6 (.alt 7 (.alt 8 (.free 9 .nil) .nil) .nil) (.alt 7 (.alt 6 (.alt 8 (.free 9 .nil) .nil) (.alt 8 (.alt 6 (.free 9 .nil) .nil) .nil)) .nil))) .nil) .nil) (.alt 3 (.alt 0 (.alt 4 (.free 5 (.alt 6 (.alt 7 (.alt 8 (.free 9 .nil) .nil) .nil) (.alt 7 (.alt 6 (.alt 8 (.free 9 .nil) .nil) (.alt 8 (.alt 6 (.free 9 .nil) .nil) .nil)) .nil))) .nil) (.alt 4 (.free 5 (.alt 0 (.alt 6 (.alt 7 (.alt 8 (.free 9 .nil) .nil) .nil) (.alt 7 (.alt 6 (.alt 8 (.free 9 .nil) .nil) (.alt 8 (.alt 6 (.free 9 .nil) .nil) .nil)) .nil)) (.alt 6 (.alt 0 (.alt 7 (.alt 8 (.free 9 .nil) .nil) .nil) .nil) .nil))) .nil)) .nil)) (.alt 3 (.alt 0 (.alt 1 (.alt 4 (.free 5 (.alt 6 (.alt 7 (.alt 8 (.free 9 .nil) .nil) .nil) (.alt 7 (.alt 6 (.alt 8 (.free 9 .nil) .nil) (.alt 8 (.alt 6 (.free 9 .nil) .nil) .nil)) .nil))) .nil) (.alt 4 (.free 5 (.alt 1 (.alt 6 (.alt 7 (.alt 8 (.free 9 .nil) .nil) .nil) (.alt 7 (.alt 6 (.alt 8 (.free 9 .nil) .nil) (.alt 8 (.alt 6 (.free 9 .nil) .nil) .nil)) .nil)) (.alt 6 (.alt 1 (.alt 7 (.alt 8 (.free 9 .nil) .nil) .nil) (.alt 7 (.alt 1 (.alt 8 (.free 9 .nil) .nil) .nil) .nil)) (.alt 7 (.alt 1 (.alt 6 (.alt 8 (.free 9 .nil) .nil) (.alt 8 (.alt 6 (.free 9 .nil) .nil) .nil)) (.alt 6 (.alt 1 (.alt 8 (.free 9 .nil) .nil) .nil) .nil)) .nil)))) .nil)) (.alt 1 (.alt 0 (.alt 4 (.free 5 (.alt 6 (.alt 7 (.alt 8 (.free 9 .nil) .nil) .nil) (.alt 7 (.alt 6 (.alt 8 (.free 9 .nil) .nil) (.alt 8 (.alt 6 (.free 9 .nil) .nil) .nil)) .nil))) .nil) (.alt 4 (.free 5 (.alt 0 (.alt 6 (.alt 7 (.alt 8 (.free 9 .nil) .nil) .nil) (.alt 7 (.alt 6 (.alt 8 (.free 9 .nil) .nil) (.alt 8 (.alt 6 (.free 9 .nil) .nil) .nil)) .nil)) (.alt 6 (.alt 0 (.alt 7 (.alt 8 (.free 9 .nil) .nil) .nil) .nil) .nil))) .nil)) (.alt 4 (.free 5 (.alt 0 (.alt 1 (.alt 6 (.alt 7 (.alt 8 (.free 9 .nil) .nil) .nil) (.alt 7 (.alt 6 (.alt 8 (.free 9 .nil) .nil) (.alt 8 (.alt 6 (.free 9 .nil) .nil) .nil)) .nil)) (.alt 6 (.alt 1 (.alt 7 (.alt 8 (.free 9 .nil) .nil) .nil) (.alt 7 (.alt 1 (.alt 8 (.free 9 .nil) .nil) .nil) .nil)) (.alt 7 (.alt 1 (.alt 6 (.alt 8 (.free 9 .nil) .nil) (.alt 8 (.alt 6 (.free 9 .nil) .nil) .nil)) (.alt 6 (.alt 1 (.alt 8 (.free 9 .nil) .nil) .nil) .nil)) .nil))) (.alt 1 (.alt 0 (.alt 6 (.alt 7 (.alt 8 (.free 9 .nil) .nil) .nil) (.alt 7 (.alt 6 (.alt 8 (.free 9 .nil) .nil) (.alt 8 (.alt 6 (.free 9 .nil) .nil) .nil)) .nil)) (.alt 6 (.alt 0 (.alt 7 (.alt 8 (.free 9 .nil) .nil) .nil) .nil) .nil)) (.alt 6 (.alt 0 (.alt 1 (.alt 7 (.alt 8 (.free 9 .nil) .nil) .nil) (.alt 7 (.alt 1 (.alt 8 (.free 9 .nil) .nil) .nil) .nil)) (.alt 1 (.alt 0 (.alt 7 (.alt 8 (.free 9 .nil) .nil) .nil) .nil) .nil)) .nil)))) .nil))) .nil))))) .p) (.s .p (.s (.s (.ot 0 (.free 2 (.alt 0 (.alt 1 (.alt 3 (.alt 4 (.free 5 (.alt 6 (.alt 7 (.alt 8 (.free 9 .nil) .nil) .nil) (.alt 7 (.alt 6 (.alt 8 (.free 9 .nil) .nil) (.alt 8 (.alt 6 (.free 9 .nil) .nil) .nil)) .nil))) .nil) .nil) (.alt 3 (.alt 1 (.alt 4 (.free 5 (.alt 6 (.alt 7 (.alt 8 (.free 9 .nil) .nil) .nil) (.alt 7 (.alt 6 (.alt 8 (.free 9 .nil) .nil) (.alt 8 (.alt 6 (.free 9 .nil) .nil) .nil)) .nil))) .nil) (.alt 4 (.free 5 (.alt 1 (.alt 6 (.alt 7 (.alt 8 (.free 9 .nil) .nil) .nil) (.alt 7 (.alt 6 (.alt 8 (.free 9 .nil) .nil) (.alt 8 (.alt 6 (.free 9 .nil) .nil) .nil)) .nil)) (.alt 6 (.alt 1 (.alt 7 (.alt 8 (.free 9 .nil) .nil) .nil) (.alt 7 (.alt 1 (.alt 8 (.free 9 .nil) .nil) .nil) .nil)) (.alt 7 (.alt 1 (.alt 6 (.alt 8 (.free 9 .nil) .nil) (.alt 8 (.alt 6 (.free 9 .nil) .nil) .nil)) (.alt 6 (.alt 1 (.alt 8 (.free 9 .nil) .nil) .nil) .nil)) .nil)))) .nil)) .nil)) (.alt 1 (.alt 0 (.alt 3 (.alt 4 (.free 5 (.alt 6 (.alt 7 (.alt 8 (.free 9 .nil) .nil) .nil) (.alt 7 (.alt 6 (.alt 8 (.free 9 .nil) .nil) (.alt 8 (.alt 6 (.free 9 .nil) .nil) .nil)) .nil))) .nil) .nil) (.alt 3 (.alt 0 (.alt 4 (.free 5 (.alt 6 (.alt 7 (.alt 8 (.free 9 .nil) .nil) .nil) (.alt 7 (.alt 6 (.alt 8 (.free 9 .nil) .nil) (.alt 8 (.alt 6 (.free 9 .nil) .nil) .nil)) .nil))) .nil) (.alt 4 (.free 5 (.alt 0 (.alt 6 (.alt 7 (.alt 8 (.free 9 .nil) .nil) .nil) (.alt 7 (.alt 6 (.alt 8 (.free 9 .nil) .nil) (.alt 8 (.alt 6 (.free 9 .nil) .nil) .nil)) .nil)) (.alt 6 (.alt 0 (.alt 7 (.alt 8 (.free 9 .nil) .nil) .nil) .nil) .nil))) .nil)) .nil)) (.alt 3 (.alt 0 (.alt 1 (.alt 4 (.free 5 (.alt 6 (.alt 7 (.alt 8 (.free 9 .nil) .nil) .nil) (.alt 7 (.alt 6 (.alt 8 (.free 9 .nil) .nil) (.alt 8 (.alt 6 (.free 9 .nil) .nil) .nil)) .nil))) .nil) (.alt 4 (.free 5 (.alt 1 (.alt 6 (.alt 7 (.alt 8 (.free 9 .nil) .nil) .nil) (.alt 7 (.alt 6 (.alt 8 (.free 9 .nil) .nil) (.alt 8 (.alt 6 (.free 9 .nil) .nil) .nil)) .nil)) (.alt 6 (.alt 1 (.alt 7 (.alt 8 (.free 9 .nil) .nil) .nil) (.alt 7 (.alt 1 (.alt 8 (.free 9 .nil) .nil) .nil) .nil)) (.alt 7 (.alt 1 (.alt 6 (.alt 8 (.free 9 .nil) .nil) (.alt 8 (.alt 6 (.free 9 .nil) .nil) .nil)) (.alt 6 (.alt 1 (.alt 8 (.free 9 .nil) .nil) .nil) .nil)) .nil)))) .nil)) (.alt 1 (.alt 0 (.alt 4 (.free 5 (.alt 6 (.alt 7 (.alt 8 (.free 9 .nil) .nil) .nil) (.alt 7 (.alt 6 (.alt 8 (.free 9 .nil) .nil) (.alt 8 (.alt 6 (.free 9 .nil) .nil) .nil)) .nil))) .nil) (.alt 4 (.free 5 (.alt 0 (.alt 6 (.alt 7 (.alt 8 (.free 9 .nil) .nil) .nil) (.alt 7 (.alt 6 (.alt 8 (.free 9 .nil) .nil) (.alt 8 (.alt 6 (.free 9 .nil) .nil) .nil)) .nil)) (.alt 6 (.alt 0 (.alt 7 (.alt 8 (.free 9 .nil) .nil) .nil) .nil) .nil))) .nil)) (.alt 4 (.free 5 (.alt 0 (.alt 1 (.alt 6 (.alt 7 (.alt 8 (.free 9 .nil) .nil) .nil) (.alt 7 (.alt 6 (.alt 8 (.free 9 .nil) .nil) (.alt 8 (.alt 6 (.free 9 .nil) .nil) .nil)) .nil)) (.alt 6 (.alt 1 (.alt 7 (.alt 8 (.free 9 .nil) .nil) .nil) (.alt 7 (.alt 1 (.alt 8 (.free 9 .nil) .nil) .nil) .nil)) (.alt 7 (.alt 1 (.alt 6 (.alt 8 (.free 9 .nil) .nil) (.alt 8 (.alt 6 (.free 9 .nil) .nil) .nil)) (.alt 6 (.alt 1 (.alt 8 (.free 9 .nil) .nil) .nil) .nil)) .nil))) (.alt 1 (.alt 0 (.alt 6 (.alt 7 (.alt 8 (.free 9 .nil) .nil) .nil) (.alt 7 (.alt 6 (.alt 8 (.free 9 .nil) .nil) (.alt 8 (.alt 6 (.free 9 .nil) .nil) .nil)) .nil)) (.alt 6 (.alt 0 (.alt 7 (.alt 8 (.free 9 .nil) .nil) .nil) .nil) .nil)) (.alt 6 (.alt 0 (.alt 1 (.alt 7 (.alt 8 (.free 9 .nil) .nil) .nil) (.alt 7 (.alt 1 (.alt 8 (.free 9 .nil) .nil) .nil) .nil)) (.alt 1 (.alt 0 (.alt 7 (.alt 8 (.free 9 .nil) .nil) .nil) .nil) .nil)) .nil)))) .nil))) .nil))))) .p) .p)))))) (.s .p (.s (.s .p (.s (.s (.ot 0 (.free 2 (.alt 0 (.alt 1 (.alt 3 (.free 4 (.alt 5 (.alt 6 (.alt 7 (.free 8 .nil) .nil) .nil) (.alt 6 (.alt 5 (.alt 7 (.free 8 .nil) .nil) (.alt 7 (.alt 5 (.free 8 .nil) .nil) .nil)) .nil))) (.alt 6 (.alt 3 (.free 4 (.alt 5 (.alt 7 (.free 8 .nil) .nil) (.alt 7 (.alt 5 (.free 8 .nil) .nil) .nil))) (.alt 7 (.alt 3 (.free 4 (.alt 5 (.free 8 .nil) .nil)) .nil) .nil)) .nil)) (.alt 3 (.free 4 (.alt 1 (.alt 5 (.alt 6 (.alt 7 (.free 8 .nil) .nil) .nil) (.alt 6 (.alt 5 (.alt 7 (.free 8 .nil) .nil) (.alt 7 (.alt 5 (.free 8 .nil) .nil) .nil)) .nil)) (.alt 5 (.alt 1 (.alt 6 (.alt 7 (.free 8 .nil) .nil) .nil) (.alt 6 (.alt 1 (.alt 7 (.free 8 .nil) .nil) .nil) .nil)) (.alt 6 (.alt 1 (.alt 5 (.alt 7 (.free 8 .nil) .nil) (.alt 7 (.alt 5 (.free 8 .nil) .nil) .nil)) (.alt 5 (.alt 1 (.alt 7 (.free 8 .nil) .nil) .nil) .nil)) .nil)))) (.alt 6 (.alt 1 (.alt 3 (.free 4 (.alt 5 (.alt 7 (.free 8 .nil) .nil) (.alt 7 (.alt 5 (.free 8 .nil) .nil) .nil))) (.alt 7 (.alt 3 (.free 4 (.alt 5 (.free 8 .nil) .nil)) .nil) .nil)) (.alt 3 (.free 4 (.alt 1 (.alt 5 (.alt 7 (.free 8 .nil) .nil) (.alt 7 (.alt 5 (.free 8 .nil) .nil) .nil)) (.alt 5 (.alt 1 (.alt 7 (.free 8 .nil) .nil) .nil) .nil))) .nil)) .nil))) (.alt 1 (.alt 0 (.alt 3 (.free 4 (.alt 5 (.alt 6 (.alt 7 (.free 8 .nil) .nil) .nil) (.alt 6 (.alt 5 (.alt 7 (.free 8 .nil) .nil) (.alt 7 (.alt 5 (.free 8 .nil) .nil) .nil)) .nil))) (.alt 6 (.alt 3 (.free 4 (.alt 5 (.alt 7 (.free 8 .nil) .nil) (.alt 7 (.alt 5 (.free 8 .nil) .nil) .nil))) (.alt 7 (.alt 3 (.free 4 (.alt 5 (.free 8 .nil) .nil)) .nil) .nil)) .nil)) (.alt 3 (.free 4 (.alt 0 (.alt 5 (.alt 6 (.alt 7 (.free 8 .nil) .nil) .nil) (.alt 6 (.alt 5 (.alt 7 (.free 8 .nil) .nil) (.alt 7 (.alt 5 (.free 8 .nil) .nil) .nil)) .nil)) (.alt 5 (.alt 0 (.alt 6 (.alt 7 (.free 8 .nil) .nil) .nil) .nil) .nil))) .nil)) (.alt 3 (.free 4 (.alt 0 (.alt 1 (.alt 5 (.alt 6 (.alt 7 (.free 8 .nil) .nil) .nil) (.alt 6 (.alt 5 (.alt 7 (.free 8 .nil) .nil) (.alt 7 (.alt 5 (.free 8 .nil) .nil) .nil)) .nil)) (.alt 5 (.alt 1 (.alt 6 (.alt 7 (.free 8 .nil) .nil) .nil) (.alt 6 (.alt 1 (.alt 7 (.free 8 .nil) .nil) .nil) .nil)) (.alt 6 (.alt 1 (.alt 5 (.alt 7 (.free 8 .nil) .nil) (.alt 7 (.alt 5 (.free 8 .nil) .nil) .nil)) (.alt 5 (.alt 1 (.alt 7 (.free 8 .nil) .nil) .nil) .nil)) .nil))) (.alt 1 (.alt 0 (.alt 5 (.alt 6 (.alt 7 (.free 8 .nil) .nil) .nil) (.alt 6 (.alt 5 (.alt 7 (.free 8 .nil) .nil) (.alt 7 (.alt 5 (.free 8 .nil) .nil) .nil)) .nil)) (.alt 5 (.alt 0 (.alt 6 (.alt 7 (.free 8 .nil) .nil) .nil) .nil) .nil)) (.alt 5 (.alt 0 (.alt 1 (.alt 6 (.alt 7 (.free 8 .nil) .nil) .nil) (.alt 6 (.alt 1 (.alt 7 (.free 8 .nil) .nil) .nil) .nil)) (.alt 1 (.alt 0 (.alt 6 (.alt 7 (.free 8 .nil) .nil) .nil) .nil) .nil)) .nil)))) .nil))))) .p) .p)) (.s (.s .p (.s (.s (.ot 0 (.free 2 (.alt 0 (.alt 1 (.alt 3 (.alt 4 (.free 5 (.alt 6 (.alt 7 (.alt 8 (.free 9 .nil) .nil) .nil) (.alt 7 (.alt 6 (.alt 8 (.free 9 .nil) .nil) (.alt 8 (.alt 6 (.free 9 .nil) .nil) .nil)) .nil))) .nil) .nil) (.alt 3 (.alt 1 (.alt 4 (.free 5 (.alt 6 (.alt 7 (.alt 8 (.free 9 .nil) .nil) .nil) (.alt 7 (.alt 6 (.alt 8 (.free 9 .nil) .nil) (.alt 8 (.alt 6 (.free 9 .nil) .nil) .nil)) .nil))) .nil) (.alt 4 (.free 5 (.alt 1 (.alt 6 (.alt 7 (.alt 8 (.free 9 .nil) .nil) .nil) (.alt 7 (.alt 6 (.alt 8 (.free 9 .nil) .nil) (.alt 8 (.alt 6 (.free 9 .nil) .nil) .nil)) .nil)) (.alt 6 (.alt 1 (.alt 7 (.alt 8 (.free 9 .nil) .nil) .nil) (.alt 7 (.alt 1 (.alt 8 (.free 9 .nil) .nil) .nil) .nil)) (.alt 7 (.alt 1 (.alt 6 (.alt 8 (.free 9 .nil) .nil) (.alt 8 (.alt 6 (.free 9 .nil) .nil) .nil)) (.alt 6 (.alt 1 (.alt 8 (.free 9 .nil) .nil) .nil) .nil)) .nil)))) .nil)) .nil)) (.alt 1 (.alt 0 (.alt 3 (.alt 4 (.free 5 (.alt 6 (.alt 7 (.alt 8 (.free 9 .nil) .nil) .nil) (.alt 7 (.alt 6 (.alt 8 (.free 9 .nil) .nil) (.alt 8 (.alt 6 (.free 9 .nil) .nil) .nil)) .nil))) .nil) .nil) (.alt 3 (.alt 0 (.alt 4 (.free 5 (.alt 6 (.alt 7 (.alt 8 (.free 9 .nil) .nil) .nil) (.alt 7 (.alt 6 (.alt 8 (.free 9 .nil) .nil) (.alt 8 (.alt 6 (.free 9 .nil) .nil) .nil)) .nil))) .nil) (.alt 4 (.free 5 (.alt 0 (.alt 6 (.alt 7 (.alt 8 (.free 9 .nil) .nil) .nil) (.alt 7 (.alt 6 (.alt 8 (.free 9 .nil) .nil) (.alt 8 (.alt 6 (.free 9 .nil) .nil) .nil)) .nil)) (.alt 6 (.alt 0 (.alt 7 (.alt 8 (.free 9 .nil) .nil) .nil) .nil) .nil))) .nil)) .nil)) (.alt 3 (.alt 0 (.alt 1 (.alt 4 (.free 5 (.alt 6 (.alt 7 (.alt 8 (.free 9 .nil) .nil) .nil) (.alt 7 (.alt 6 (.alt 8 (.free 9 .nil) .nil) (.alt 8 (.alt 6 (.free 9 .nil) .nil) .nil)) .nil))) .nil) (.alt 4 (.free 5 (.alt 1 (.alt 6 (.alt 7 (.alt 8 (.free 9 .nil) .nil) .nil) (.alt 7 (.alt 6 (.alt 8 (.free 9 .nil) .nil) (.alt 8 (.alt 6 (.free 9 .nil) .nil) .nil)) .nil)) (.alt 6 (.alt 1 (.alt 7 (.alt 8 (.free 9 .nil) .nil) .nil) (.alt 7 (.alt 1 (.alt 8 (.free 9 .nil) .nil) .nil) .nil)) (.alt 7 (.alt 1 (.alt 6 (.alt 8 (.free 9 .nil) .nil) (.alt 8 (.alt 6 (.free 9 .nil) .nil) .nil)) (.alt 6 (.alt 1 (.alt 8 (.free 9 .nil) .nil) .nil) .nil)) .nil)))) .nil)) (.alt 1 (.alt 0 (.alt 4 (.free 5 (.alt 6 (.alt 7 (.alt 8 (.free 9 .nil) .nil) .nil) (.alt 7 (.alt 6 (.alt 8 (.free 9 .nil) .nil) (.alt 8 (.alt 6 (.free 9 .nil) .nil) .nil)) .nil))) .nil) (.alt 4 (.free 5 (.alt 0 (.alt 6 (.alt 7 (.alt 8 (.free 9 .nil) .nil) .nil) (.alt 7 (.alt 6 (.alt 8 (.free 9 .nil) .nil) (.alt 8 (.alt 6 (.free 9 .nil) .nil) .nil)) .nil)) (.alt 6 (.alt 0 (.alt 7 (.alt 8 (.free 9 .nil) .nil) .nil) .nil) .nil))) .nil)) (.alt 4 (.free 5 (.alt 0 (.alt 1 (.alt 6 (.alt 7 (.alt 8 (.free 9 .nil) .nil) .nil) (.alt 7 (.alt 6 (.alt 8 (.free 9 .nil) .nil) (.alt 8 (.alt 6 (.free 9 .nil) .nil) .nil)) .nil)) (.alt 6 (.alt 1 (.alt 7 (.alt 8 (.free 9 .nil) .nil) .nil) (.alt 7 (.alt 1 (.alt 8 (.free 9 .nil) .nil) .nil) .nil)) (.alt 7 (.alt 1 (.alt 6 (.alt 8 (.free 9 .nil) .nil) (.alt 8 (.alt 6 (.free 9 .nil) .nil) .nil)) (.alt 6 (.alt 1 (.alt 8 (.free 9 .nil) .nil) .nil) .nil)) .nil))) (.alt 1 (.alt 0 (.alt 6 (.alt 7 (.alt 8 (.free 9 .nil) .nil) .nil) (.alt 7 (.alt 6 (.alt 8 (.free 9 .nil) .nil) (.alt 8 (.alt 6 (.free 9 .nil) .nil) .nil)) .nil)) (.alt 6 (.alt 0 (.alt 7 (.alt 8 (.free 9 .nil) .nil) .nil) .nil) .nil)) (.alt 6 (.alt 0 (.alt 1 (.alt 7 (.alt 8 (.free 9 .nil) .nil) .nil) (.alt 7 (.alt 1 (.alt 8 (.free 9 .nil) .nil) .nil) .nil)) (.alt 1 (.alt 0 (.alt 7 (.alt 8 (.free 9 .nil) .nil) .nil) .nil) .nil)) .nil)))) .nil))) .nil))))) .p) .p)) (.j ⟨[],[(18,true,.cells 186 [.v (.int .i64),.v .bool,.v (.int .i64),.v .str,.v (.sl (.st 36)),.own 12070]),(12070,false,.row 152 (.st 39) [])],[4,5,8,9,11],[0,2,6,8],[],12071⟩ false (.ot 0 (.free 1 (.alt 0 (.alt 2 (.alt 3 (.alt 4 (.alt 5 (.alt 6 (.free 7 (.alt 8 .nil .nil)) .nil) .nil) .nil) (.alt 4 (.alt 3 (.alt 5 (.alt 6 (.free 7 (.alt 8 .nil .nil)) .nil) .nil) (.alt 5 (.alt 3 (.alt 6 (.free 7 (.alt 8 .nil .nil)) .nil) .nil) .nil)) .nil)) (.alt 4 (.alt 2 (.alt 3 (.alt 5 (.alt 6 (.free 7 (.alt 8 .nil .nil)) .nil) .nil) (.alt 5 (.alt 3 (.alt 6 (.free 7 (.alt 8 .nil .nil)) .nil) .nil) .nil)) (.alt 5 (.alt 2 (.alt 3 (.alt 6 (.free 7 (.alt 8 .nil .nil)) .nil) .nil) .nil) .nil)) .nil)) (.alt 2 (.alt 0 (.alt 3 (.alt 4 (.alt 5 (.alt 6 (.free 7 (.alt 8 .nil .nil)) .nil) .nil) .nil) (.alt 4 (.alt 3 (.alt 5 (.alt 6 (.free 7 (.alt 8 .nil .nil)) .nil) .nil) (.alt 5 (.alt 3 (.alt 6 (.free 7 (.alt 8 .nil .nil)) .nil) .nil) .nil)) .nil)) (.alt 4 (.alt 0 (.alt 3 (.alt 5 (.alt 6 (.free 7 (.alt 8 .nil .nil)) .nil) .nil) (.alt 5 (.alt 3 (.alt 6 (.free 7 (.alt 8 .nil .nil)) .nil) .nil) .nil)) (.alt 5 (.alt 0 (.alt 3 (.alt 6 (.free 7 (.alt 8 .nil .nil)) .nil) .nil) .nil) .nil)) .nil)) (.alt 4 (.alt 0 (.alt 2 (.alt 3 (.alt 5 (.alt 6 (.free 7 (.alt 8 .nil .nil)) .nil) .nil) (.alt 5 (.alt 3 (.alt 6 (.free 7 (.alt 8 .nil .nil)) .nil) .nil) .nil)) (.alt 5 (.alt 2 (.alt 3 (.alt 6 (.free 7 (.alt 8 .nil .nil)) .nil) .nil) .nil) .nil)) (.alt 2 (.alt 0 (.alt 3 (.alt 5 (.alt 6 (.free 7 (.alt 8 .nil .nil)) .nil) .nil) (.alt 5 (.alt 3 (.alt 6 (.free 7 (.alt 8 .nil .nil)) .nil) .nil) .nil)) (.alt 5 (.alt 0 (.alt 3 (.alt 6 (.free 7 (.alt 8 .nil .nil)) .nil) .nil) .nil) .nil)) (.alt 5 (.alt 0 (.alt 2 (.alt 3 (.alt 6 (.free 7 (.alt 8 .nil .nil)) .nil) .nil) .nil) (.alt 2 (.alt 0 (.alt 3 (.alt 6 (.free 7 (.alt 8 .nil .nil)) .nil) .nil) .nil) .nil)) .nil))) .nil))))) (.s (.dr [0,0,0,1,2,2,4] [] false []) .p))))))))) λ_=>by kernel_rfl,by kernel_rfl⟩
def c_383:Con te:=ae_ te [.d (.st 35),.d (.st 43)] [(.st 35,[]),(.st 43,[]),(.st 63,[]),(.bool,[])] true λa=>li_ a.1 a.2.1
theorem ok_383:OKF 383 c_383:=⟨aa_ ad_ ab_ Tryz.func383 (by kernel_rfl) (pl := .s .p (.s (.s .p (.lp ⟨[(20,.d (.int .i64))],[],[2,3,4,5,6,19],[0,2,4,6,8],[],15⟩ ⟨[],[],[2,3,4,5,6],[0,2,4,6,8],[],15⟩ false (.s .p (.s .p (.s (.s .p (.s .p (.s .p (.lp ⟨[],[],[2,3,4,5,6,9,19,20,30,31],[0,2,4,6,8,23],[],31⟩ ⟨[],[],[2,3,4,5,6,19,20],[0,2,4,6,8],[],31⟩ false (.s .p (.s .p (.s (.s .p (.s .p (.s .p (.s (.ot 0 .nil) .p)))) .p))))))) .p))))) (.s (.dr [0,0,0,1,1,1,4] [] true [4,6,8]) .p))) λ_=>by kernel_rfl,by kernel_rfl⟩
def c_272:Con te:=ae_ te [.d (.st 35),.d (.st 43)] [(.st 35,[]),(.st 43,[]),(.sl (.st 63),[some 366])] true λa=>iO_ a.1 a.2.1
theorem ok_272:OKF 272 c_272:=⟨aa_ ad_ (ac_ ok_383 ab_) Tryz.func272 (by kernel_rfl) (pl := .s .p (.s .p (.s (.s .p (.lp ⟨[(7,.one (.own 11)),(12,.d (.int .i64))],[(0,true,.box 39 (.st 35)),(2,true,.box 68 (.st 43)),(11,false,.row 366 (.st 63) [])],[2,3,4,5],[4,6],[],12⟩ ⟨[(7,.one (.own 11))],[(0,true,.box 39 (.st 35)),(2,true,.box 68 (.st 43)),(11,false,.row 366 (.st 63) [])],[2,3,4,5],[4,6],[],12⟩ true (.s .p (.s .p (.s (.s .p (.s (.s .p (.s (.s (.dr [0,0,0,1,1,4] [] true [4,6]) .p) .p)) (.dr [0,0,0,0,1,1,1,1,4] [] true [0,2,11]))) .p))))) (.s (.dr [0,0,0,1,1,4] [] true [4,6]) .p)))) λ_=>by kernel_rfl,by kernel_rfl⟩
def c_189:Con te:=ae_ te [.d (.st 35),.d (.st 43),.d (.int .i64),.d (.st 39)] [(.st 35,[]),(.st 43,[]),(.sl (.st 63),[some 366])] true λa=>dg_ a.1 a.2.1 a.2.2.1 a.2.2.2.1
theorem ok_189:OKF 189 c_189:=⟨aa_ ad_ (ac_ ok_272 (ac_ ok_271 (ac_ ok_270 (ac_ ok_269 ab_)))) Tryz.func189 (by kernel_rfl) (pl := .s .p (.s (.s .p (.s (.s (.dr [0,0,1,1,4] [] true [6,8]) .p) .p)) (.s .p (.s .p (.s .p (.s (.dr [0,0,1,0,1,0,1,1,1,4] [3,5] true [6,8,29,42]) .p)))))) λ_=>by kernel_rfl,by kernel_rfl⟩
def c_493:Con te:=ae_ te [.d (.int .i64)] [(.int .i64,[])] false λa=>lj_ a.1
theorem ok_493:OKF 493 c_493:=⟨aa_ ad_ (ac_ ok_181 ab_) Tryz.func493 (by kernel_rfl) (pl := .p) λ_=>by kernel_rfl,by kernel_rfl⟩
def c_384:Con te:=ae_ te [.d (.st 39),.d (.st 39)] [(.bool,[])] false λa=>i6_ a.1 a.2.1
theorem ok_384:OKF 384 c_384:=⟨aa_ ad_ (ac_ ok_493 (ac_ ok_181 ab_)) Tryz.func384 (by kernel_rfl) (pl := .s .p (.s .p (.s .p (.s (.s (.dr [0,0,0,0,0,0] [] false []) .p) .p)))) λ_=>by kernel_rfl,by kernel_rfl⟩
def c_385:Con te:=ae_ te [.d (.sl (.st 45)),.d (.int .i64)] [(.sl (.st 45),[some 155])] true λa=>i7_ a.1 a.2.1
theorem ok_385:OKF 385 c_385:=⟨aa_ ad_ ab_ Tryz.func385 (by kernel_rfl) (pl := .p) λ_=>by kernel_rfl,by kernel_rfl⟩
def c_273:Con te:=ae_ te [.d (.st 46),.d (.st 39)] [(.st 46,[]),(.sl (.st 39),[some 152]),(.int .i64,[])] true λa=>ne_ a.1 a.2.1
theorem ok_273:OKF 273 c_273:=⟨aa_ ad_ (ac_ ok_385 (ac_ ok_384 (ac_ ok_182 ab_))) Tryz.func273 (by kernel_rfl) (pl := .s .p (.s .p (.s .p (.s .p (.s .p (.j ⟨[],[(0,true,.box 73 (.st 46))],[2,3,4,7,8],[2,4,22],[],30⟩ true .p (.s .p (.s .p (.s .p (.j ⟨[(10,.d (.int .i64))],[],[2,3,4,9],[0,2,4,33],[],40⟩ false .p (.j ⟨[],[],[2,3,4,9,10],[0,2,4,33],[],40⟩ false .p (.j ⟨[],[(33,true,.row 155 (.st 45) [])],[2,3,4,9],[0,2,4],[],40⟩ false .p (.s (.dr [0,0,0,1,1,1,4,4] [] true [4]) .p))))))))))))) λ_=>by kernel_rfl,by kernel_rfl⟩
def c_190:Con te:=ae_ te [.d (.st 46),.d .str] [(.st 46,[]),(.sl (.st 39),[]),(.int .i64,[])] true λa=>fp_ a.1 a.2.1
theorem ok_190:OKF 190 c_190:=⟨aa_ ad_ (ac_ ok_273 (ac_ ok_20 (ac_ ok_188 ab_))) Tryz.func190 (by kernel_rfl) (pl := .s .p (.s .p (.s .p (.s .p (.s .p (.s (.s .p (.lp ⟨[(12,.one (.own 28)),(13,.d (.int .i64))],[(0,true,.box 73 (.st 46)),(15,true,.row 152 (.st 39) []),(28,false,.row 152 (.st 39) [])],[2,4,7,8],[2],[],29⟩ ⟨[(12,.one (.own 28))],[(0,true,.box 73 (.st 46)),(28,false,.row 152 (.st 39) [])],[2,4,8],[2],[],29⟩ true (.s .p (.s (.s (.df [0,0,0,0,0,1,4,4,4,4,1,2,4,4] [] 5) (.s (.s .p (.s (.s .p (.s (.dr [0,0,0,1,0,1,4,4] [4] true [2,28]) .p)) .p)) .p)) .p)))) (.s (.s .p (.s .p (.s (.s .p (.s (.dr [0,0,0,1,0,1,4,4] [4] true [2,28]) .p)) .p))) .p))))))) λ_=>by kernel_rfl,by kernel_rfl⟩
def c_129:Con te:=ae_ te [.d (.st 60),.d .str] [(.st 60,[]),(.sl (.st 39),[])] true λa=>du_ a.1 a.2.1
theorem ok_129:OKF 129 c_129:=⟨aa_ ad_ (ac_ ok_190 (ac_ ok_184 (ac_ ok_84 (ac_ ok_189 (ac_ ok_188 (ac_ ok_187 (ac_ ok_186 ab_))))))) Tryz.func129 (by kernel_rfl) (pl := .s .p (.s .p (.s .p (.s .p (.s .p (.s (.s .p (.lp ⟨[(12,.d .str),(13,.d (.int .i64))],[(0,true,.cells 160 [.v (.int .i64),.v (.sl (.st 25)),.v (.sl (.st 26)),.v (.int .i64),.v (.sl (.st 28)),.v (.int .i64),.v (.int .i64),.v (.sl (.st 31)),.v (.sl (.st 34)),.v (.sl (.st 43)),.v (.int .i64),.v (.int .i64),.v .bool,.v (.int .i64),.v .str,.v .str,.v (.int .i64),.v .bool,.v (.int .i64),.v .str,.v (.sl (.int .i64)),.v (.sl (.st 45)),.v .str,.v (.int .i64),.v (.sl (.st 47)),.v (.sl (.st 48)),.v .str,.v (.int .i64)]),(29,true,.row 152 (.st 39) [])],[2,4,6,9],[2,13],[],40⟩ ⟨[(12,.d .str)],[(0,true,.box 160 (.st 60))],[2,4,6],[2,13],[],40⟩ false (.s .p (.s (.j ⟨[(14,.one (.ptr 44)),(15,.one (.ptr 45)),(16,.one (.own 46))],[(29,true,.row 152 (.st 39) []),(44,false,.box 39 (.st 35)),(45,false,.box 68 (.st 43)),(46,false,.row 366 (.st 63) [])],[2,4,6,9,12,13],[0,2,13],[],47⟩ false (.ot 16 (.alt 16 (.free 17 (.free 18 (.free 19 (.free 20 (.alt 21 (.alt 22 (.alt 23 (.alt 24 (.free 25 .nil) .nil) .nil) .nil) (.alt 22 (.alt 21 (.alt 23 (.alt 24 (.free 25 .nil) .nil) .nil) .nil) .nil)))))) (.alt 21 (.alt 16 (.free 17 (.free 18 (.free 19 (.free 20 (.alt 22 (.alt 23 (.alt 24 (.free 25 .nil) .nil) .nil) .nil))))) (.alt 22 (.alt 16 (.free 17 (.free 18 (.free 19 (.free 20 (.alt 23 (.alt 24 (.free 25 .nil) .nil) .nil))))) .nil) .nil)) (.alt 22 (.alt 16 (.free 17 (.free 18 (.free 19 (.free 20 (.alt 21 (.alt 23 (.alt 24 (.free 25 .nil) .nil) .nil) .nil))))) (.alt 21 (.alt 16 (.free 17 (.free 18 (.free 19 (.free 20 (.alt 23 (.alt 24 (.free 25 .nil) .nil) .nil))))) .nil) .nil)) .nil)))) (.s .p (.s .p (.lp ⟨[(12,.d .str),(17,.d (.int .i64))],[(46,true,.row 366 (.st 63) [])],[2,4,6,9,13,16],[0,2,13,29,50],[],55⟩ ⟨[(12,.d .str)],[],[2,4,6,9,13],[0,2,13,29,50],[],55⟩ false (.s .p (.j ⟨[(12,.d .str)],[(46,true,.row 366 (.st 63) [])],[2,4,6,9,13,16,17],[0,2,13,29,50],[],59⟩ false (.s (.dr [0,0,0,0,0,0,0,0,0] [] false []) .p) .p)))))) .p)))) .p)))))) λ_=>by kernel_rfl,by kernel_rfl⟩
def c_86:Con te:=ae_ te [.d (.st 60),.d (.st 39)] [(.st 60,[]),(.st 39,[]),(.bool,[]),(.int .i64,[])] true λa=>cQ_ a.1 a.2.1
theorem ok_86:OKF 86 c_86:=⟨aa_ ad_ (ac_ ok_129 (ac_ ok_128 ab_)) Tryz.func86 (by kernel_rfl) (pl := .s .p (.s .p (.s .p (.s .p (.s .p (.s (.s .p (.lp ⟨[(14,.d (.int .i64))],[],[4,5,8,9,12,13],[4,6,20,40],[],46⟩ ⟨[],[],[4,5,8,9,12],[4,6,20,40],[],46⟩ true (.s .p (.s (.s .p (.s (.s (.dr [0,0,0,0,0,1,1,4,4] [] true [4,6]) .p) .p)) .p)))) .p)))))) λ_=>by kernel_rfl,by kernel_rfl⟩
def c_46:Con te:=ae_ te [.d (.st 60)] [(.st 60,[]),(.int .i64,[])] true λa=>ev_ a.1
theorem ok_46:OKF 46 c_46:=⟨aa_ ad_ (ac_ ok_86 (ac_ ok_85 (ac_ ok_21 (ac_ ok_84 (ac_ ok_83 ab_))))) Tryz.func46 (by kernel_rfl) (pl := .s .p (.s .p (.s .p (.s .p (.s .p (.s .p (.s .p (.s .p (.s .p (.s (.s .p (.s (.s (.dr [0,0,0,1,4] [] true [2]) .p) .p)) .p)))))))))) λ_=>by kernel_rfl,by kernel_rfl⟩
def c_87:Con te:=ae_ te [.d (.st 46)] [(.st 46,[]),(.int .i64,[]),(.int .i64,[])] true λa=>j6_ a.1
theorem ok_87:OKF 87 c_87:=⟨aa_ ad_ ab_ Tryz.func87 (by kernel_rfl) (pl := .s .p (.s .p (.s .p (.s (.lp ⟨[(5,.d (.int .i64))],[],[1,2],[0,2],[],11⟩ ⟨[(5,.d (.int .i64))],[],[1,2],[0,2],[],11⟩ false .p) .p)))) λ_=>by kernel_rfl,by kernel_rfl⟩
def c_47:Con te:=ae_ te [.d (.st 60),.d .str] [(.st 60,[]),(.int .i64,[])] true λa=>fR_ a.1 a.2.1
theorem ok_47:OKF 47 c_47:=⟨aa_ ad_ (ac_ ok_86 (ac_ ok_87 ab_)) Tryz.func47 (by kernel_rfl) (pl := .s .p (.s .p (.s .p (.s .p (.s .p (.s .p (.s .p (.s (.s .p (.s (.s (.dr [0,0,0,1,4] [] true [2]) .p) .p)) .p)))))))) λ_=>by kernel_rfl,by kernel_rfl⟩
def c_25:Con te:=ae_ te [.d (.st 35),.d (.sl (.st 43)),.d (.st 50),.d .str] [(.st 35,[]),(.sl (.st 43),[]),(.st 50,[]),(.int .i64,[])] true λa=>ck_ a.1 a.2.1 a.2.2.1 a.2.2.2.1
theorem ok_25:OKF 25 c_25:=⟨aa_ ad_ (ac_ ok_47 (ac_ ok_46 ab_)) Tryz.func25 (by kernel_rfl) (pl := .s .p (.s (.s .p (.s (.s (.dr [0,0,0,1,4,1,4] [] true [4,7]) .p) .p)) (.s (.s .p (.s (.s (.dr [0,0,0,1,4,1,4] [] true [4,7]) .p) .p)) (.s .p (.s (.s .p (.s (.s (.dr [0,0,0,0,1,4,1,4] [] true [4,7]) .p) .p)) (.s .p (.s (.s .p (.s (.s (.dr [0,0,0,0,1,4,1,4] [] true [4,7]) .p) .p)) (.s (.dr [0,0,0,0,0,0,1,4,1,4] [] true [4,7]) .p)))))))) λ_=>by kernel_rfl,by kernel_rfl⟩
def c_48:Con te:=ae_ te [.d (.int .i64),.d (.st 51)] [(.st 54,[])] true λa=>j7_ a.1 a.2.1
theorem ok_48:OKF 48 c_48:=⟨aa_ ad_ ab_ Tryz.func48 (by kernel_rfl) (pl := .p) λ_=>by kernel_rfl,by kernel_rfl⟩
def c_278:Con te:=ae_ te [.d (.int .u8)] [(.int .i64,[])] false λa=>lk_ a.1
theorem ok_278:OKF 278 c_278:=⟨aa_ ad_ ab_ Tryz.func278 (by kernel_rfl) (pl := .p) λ_=>by kernel_rfl,by kernel_rfl⟩
def c_192:Con te:=ae_ te [.d .str,.d (.int .i64),.d (.int .i64)] [(.int .i64,[]),(.int .i64,[])] false λa=>hr_ a.1 a.2.1 a.2.2.1
theorem ok_192:OKF 192 c_192:=⟨aa_ ad_ (ac_ ok_278 (ac_ ok_15 ab_)) Tryz.func192 (by kernel_rfl) (pl := .s .p (.s .p (.s .p (.s .p (.s (.s .p (.lp ⟨[(8,.d (.int .i64)),(9,.d (.int .i64))],[],[0,1,2],[],[],12011⟩ ⟨[(8,.d (.int .i64))],[],[],[],[],12011⟩ true .p)) .p))))) λ_=>by kernel_rfl,by kernel_rfl⟩
def c_280:Con te:=ae_ te [.d .str] [(.bool,[])] false λa=>cB_ a.1
theorem ok_280:OKF 280 c_280:=⟨aa_ ad_ ab_ Tryz.func280 (by kernel_rfl) (pl := .p) λ_=>by kernel_rfl,by kernel_rfl⟩
def c_388:Con te:=ae_ te [.d .str] [(.sl .str,[some 9])] false λa=>ll_ a.1
theorem ok_388:OKF 388 c_388:=⟨aa_ ad_ ab_ Tryz.func388 (by kernel_rfl) (pl := .s .p (.s .p (.s .p (.s (.s .p (.lp ⟨[(3,.one (.own 4)),(4,.d (.int .i64)),(5,.d (.int .i64))],[(4,false,.row 9 .str [])],[0],[],[],5⟩ ⟨[(3,.one (.own 4))],[(4,false,.row 9 .str [])],[],[],[],5⟩ false (.s .p (.j ⟨[(3,.one (.own 9)),(4,.d (.int .i64))],[(9,false,.row 9 .str [])],[0,5],[],[],10⟩ false .p .p)))) .p)))) λ_=>by kernel_rfl,by kernel_rfl⟩
def c_283:Con te:=ae_ te [.d .str] [(.sl .str,[some 9]),(.int .i64,[])] false λa=>e9_ a.1
theorem ok_283:OKF 283 c_283:=⟨aa_ ad_ (ac_ ok_280 (ac_ ok_36 (ac_ ok_388 ab_))) Tryz.func283 (by kernel_rfl) (pl := .s .p (.s .p (.s .p (.s (.s .p (.lp ⟨[(5,.d (.int .i64))],[(6,true,.row 9 .str [])],[0,4],[],[],10⟩ ⟨[],[(6,true,.row 9 .str [])],[0,4],[],[],10⟩ true (.s .p (.s (.s (.ot 0 (.free 0 (.free 1 (.alt 2 (.alt 3 (.free 4 (.free 5 (.spl 5 (.free 6 (.free 7 (.alt 8 (.alt 9 (.free 10 (.alt 11 (.free 12 (.spl 12 (.free 13 (.free 14 (.alt 15 (.alt 16 (.free 17 (.alt 18 (.free 19 (.spl 19 (.free 20 (.free 21 (.alt 22 (.alt 23 (.alt 24 (.free 25 (.alt 26 .nil .nil)) .nil) .nil) .nil))) (.free 20 (.free 21 (.alt 22 (.alt 23 (.alt 24 (.free 25 (.alt 26 .nil .nil)) .nil) .nil) .nil))))) .nil)) .nil) .nil))) (.free 13 (.free 14 (.alt 15 (.alt 16 (.free 17 (.alt 18 (.free 19 (.spl 19 (.free 20 (.free 21 (.alt 22 (.alt 23 (.alt 24 (.free 25 (.alt 26 .nil .nil)) .nil) .nil) .nil))) (.free 20 (.free 21 (.alt 22 (.alt 23 (.alt 24 (.free 25 (.alt 26 .nil .nil)) .nil) .nil) .nil))))) .nil)) .nil) .nil))))) .nil)) .nil) .nil))) (.free 6 (.free 7 (.alt 8 (.alt 9 (.free 10 (.alt 11 (.free 12 (.spl 12 (.free 13 (.free 14 (.alt 15 (.alt 16 (.free 17 (.alt 18 (.free 19 (.spl 19 (.free 20 (.free 21 (.alt 22 (.alt 23 (.alt 24 (.free 25 (.alt 26 .nil .nil)) .nil) .nil) .nil))) (.free 20 (.free 21 (.alt 22 (.alt 23 (.alt 24 (.free 25 (.alt 26 .nil .nil)) .nil) .nil) .nil))))) .nil)) .nil) .nil))) (.free 13 (.free 14 (.alt 15 (.alt 16 (.free 17 (.alt 18 (.free 19 (.spl 19 (.free 20 (.free 21 (.alt 22 (.alt 23 (.alt 24 (.free 25 (.alt 26 .nil .nil)) .nil) .nil) .nil))) (.free 20 (.free 21 (.alt 22 (.alt 23 (.alt 24 (.free 25 (.alt 26 .nil .nil)) .nil) .nil) .nil))))) .nil)) .nil) .nil))))) .nil)) .nil) .nil)))))) .nil) .nil)))) .p) .p)))) (.s .p (.s (.s .p (.lp ⟨[(6,.one (.own 12)),(7,.d (.int .i64))],[(6,true,.row 9 .str []),(12,false,.row 9 .str [])],[0,4],[],[],13⟩ ⟨[(6,.one (.own 12))],[(12,false,.row 9 .str [])],[],[],[],13⟩ false (.s .p (.j ⟨[(6,.one (.own 17))],[(6,true,.row 9 .str []),(17,false,.row 9 .str [])],[0,4,7],[],[],18⟩ false (.s .p (.s (.ot 0 (.free 0 (.free 1 (.alt 2 (.alt 3 (.free 4 (.free 5 (.spl 5 (.free 6 (.free 7 (.alt 8 (.alt 9 (.free 10 (.alt 11 (.free 12 .nil) .nil)) .nil) .nil))) (.free 6 (.free 7 (.alt 8 (.alt 9 (.free 10 (.alt 11 (.free 12 .nil) .nil)) .nil) .nil)))))) .nil) .nil)))) (.s .p (.s (.ot 0 (.free 0 (.free 1 (.alt 2 (.alt 3 (.free 4 (.free 5 (.spl 5 (.free 6 (.free 7 (.alt 8 (.free 9 (.spl 9 (.free 10 (.free 11 (.free 12 (.alt 13 (.alt 14 (.free 15 (.alt 16 (.free 17 .nil) .nil)) .nil) .nil)))) (.free 10 (.free 11 (.free 12 (.alt 13 (.alt 14 (.free 15 (.alt 16 (.free 17 .nil) .nil)) .nil) .nil)))))) .nil))) (.free 6 (.free 7 (.alt 8 (.free 9 (.spl 9 (.free 10 (.free 11 (.free 12 (.alt 13 (.alt 14 (.free 15 (.alt 16 (.free 17 .nil) .nil)) .nil) .nil)))) (.free 10 (.free 11 (.free 12 (.alt 13 (.alt 14 (.free 15 (.alt 16 (.free 17 .nil) .nil)) .nil) .nil)))))) .nil)))))) .nil) .nil)))) .p)))) .p)))) .p)))))) λ_=>by kernel_rfl,by kernel_rfl⟩
def c_387:Con te:=ae_ te [.d .bool,.d (.sl .str)] [(.str,[])] false λa=>lm_ a.1 a.2.1
theorem ok_387:OKF 387 c_387:=⟨aa_ ad_ ab_ Tryz.func387 (by kernel_rfl) (pl := .s .p (.s .p (.s (.s .p (.lp ⟨[(5,.d .str),(6,.d (.int .i64))],[],[0,1],[],[],3⟩ ⟨[(5,.d .str)],[],[0],[],[],3⟩ false (.s .p (.s (.j ⟨[(5,.d .str)],[],[0,1,6],[],[],7⟩ false .p .p) .p)))) .p))) λ_=>by kernel_rfl,by kernel_rfl⟩
def c_281:Con te:=ae_ te [.d .str] [(.str,[]),(.int .i64,[])] false λa=>hs_ a.1
theorem ok_281:OKF 281 c_281:=⟨aa_ ad_ (ac_ ok_387 (ac_ ok_280 (ac_ ok_283 ab_))) Tryz.func281 (by kernel_rfl) (pl := .p) λ_=>by kernel_rfl,by kernel_rfl⟩
def c_195:Con te:=ae_ te [.d .str,.d .str] [(.str,[]),(.int .i64,[])] false λa=>dv_ a.1 a.2.1
theorem ok_195:OKF 195 c_195:=⟨aa_ ad_ (ac_ ok_281 (ac_ ok_280 ab_)) Tryz.func195 (by kernel_rfl) (pl := .p) λ_=>by kernel_rfl,by kernel_rfl⟩
def c_386:Con te:=ae_ te [.d (.st 51),.d (.st 51)] [(.bool,[])] false λa=>nf_ a.1 a.2.1
theorem ok_386:OKF 386 c_386:=⟨aa_ ad_ ab_ Tryz.func386 (by kernel_rfl) (pl := .p) λ_=>by kernel_rfl,by kernel_rfl⟩
def c_279:Con te:=ae_ te [.d (.st 54),.d (.st 51)] [(.int .i64,[])] false λa=>l3_ a.1 a.2.1
theorem ok_279:OKF 279 c_279:=⟨aa_ ad_ (ac_ ok_386 ab_) Tryz.func279 (by kernel_rfl) (pl := .s .p (.s (.s .p (.lp ⟨[(9,.d (.int .i64))],[],[2,3,8],[0,2],[],9⟩ ⟨[],[],[],[],[],9⟩ true (.s .p (.s .p (.s (.s .p (.s (.dr [0,0,0,0,0,0,0,0] [] false []) .p)) .p))))) .p)) λ_=>by kernel_rfl,by kernel_rfl⟩
def c_275:Con te:=ae_ te [.d (.st 54),.d (.st 51)] [(.sl (.st 52),[]),(.bool,[])] true λa=>ht_ a.1 a.2.1
theorem ok_275:OKF 275 c_275:=⟨aa_ ad_ (ac_ ok_279 ab_) Tryz.func275 (by kernel_rfl) (pl := .p) λ_=>by kernel_rfl,by kernel_rfl⟩
def c_282:Con te:=ae_ te [.d (.st 54),.d (.st 51)] [(.sl (.st 51),[some 125])] false λa=>eT_ a.1 a.2.1
theorem ok_282:OKF 282 c_282:=⟨aa_ ad_ (ac_ ok_275 ab_) Tryz.func282 (by kernel_rfl) (pl := .s .p (.s .p (.s .p (.s .p (.s (.s .p (.lp ⟨[(7,.one (.own 19)),(21,.d (.int .i64))],[(19,false,.row 125 (.st 51) [])],[5,20],[],[],20⟩ ⟨[(7,.one (.own 19))],[(19,false,.row 125 (.st 51) [])],[],[],[],20⟩ false .p)) .p))))) λ_=>by kernel_rfl,by kernel_rfl⟩
def c_285:Con te:=ae_ te [.d (.st 59),.d (.st 51)] [(.bool,[])] false λa=>gn_ a.1 a.2.1
theorem ok_285:OKF 285 c_285:=⟨aa_ ad_ ab_ Tryz.func285 (by kernel_rfl) (pl := .p) λ_=>by kernel_rfl,by kernel_rfl⟩
def c_494:Con te:=ae_ te [.d .str,.d .str] [(.str,[])] false λa=>ln_ a.1 a.2.1
theorem ok_494:OKF 494 c_494:=⟨aa_ ad_ ab_ Tryz.func494 (by kernel_rfl) (pl := .p) λ_=>by kernel_rfl,by kernel_rfl⟩
def c_286:Con te:=ae_ te [.d (.st 59),.d (.st 51)] [(.bool,[])] false λa=>go_ a.1 a.2.1
theorem ok_286:OKF 286 c_286:=⟨aa_ ad_ ab_ Tryz.func286 (by kernel_rfl) (pl := .p) λ_=>by kernel_rfl,by kernel_rfl⟩
def c_607:Con te:=ae_ te [.d (.st 35),.d (.int .i64),.d .str] [(.int .i64,[])] false λa=>ref32_bad a.1 a.2.1 a.2.2.1
theorem ok_607:OKF 607 c_607:=⟨aa_ ad_ (ac_ ok_45 (ac_ ok_390 ab_)) Tryz.func607 (by kernel_rfl) (pl := .p) λ_=>by kernel_rfl,by kernel_rfl⟩
def c_721:Con te:=ae_ te [.d (.int .i64),.d (.int .i64)] [(.bool,[])] false λa=>ref13_has a.1 a.2.1
theorem ok_721:OKF 721 c_721:=⟨aa_ ad_ ab_ Tryz.func721 (by kernel_rfl) (pl := .p) λ_=>by kernel_rfl,by kernel_rfl⟩
def c_847:Con te:=ae_ te [.d (.int .i64),.d (.int .i64)] [(.bool,[])] false λa=>gZ_ a.1 a.2.1
theorem ok_847:OKF 847 c_847:=⟨aa_ ad_ ab_ Tryz.func847 (by kernel_rfl) (pl := .p) λ_=>by kernel_rfl,by kernel_rfl⟩
def c_848:Con te:=ae_ te [.d (.sl (.st 1)),.d .str,.d .str] [(.bool,[])] false λa=>j8_ a.1 a.2.1 a.2.2.1
theorem ok_848:OKF 848 c_848:=⟨aa_ ad_ ab_ Tryz.func848 (by kernel_rfl) (pl := .p) λ_=>by kernel_rfl,by kernel_rfl⟩
def c_771:Con te:=ae_ te [.d (.sl (.st 1)),.d .str,.d .str,.d .str,.d (.int .i64),.d (.int .i64)] [(.bool,[])] false λa=>j9_ a.1 a.2.1 a.2.2.1 a.2.2.2.1 a.2.2.2.2.1 a.2.2.2.2.2.1
theorem ok_771:OKF 771 c_771:=⟨aa_ ad_ (ac_ ok_848 (ac_ ok_847 ab_)) Tryz.func771 (by kernel_rfl) (pl := .s .p (.s .p (.s (.s .p (.lp ⟨[(13,.d (.int .i64))],[],[0,1,2,3,4,5],[],[],6006⟩ ⟨[],[],[],[],[],6006⟩ true .p)) .p))) λ_=>by kernel_rfl,by kernel_rfl⟩
def c_722:Con te:=ae_ te [.d (.st 5),.d .str,.d (.int .i64),.d (.int .i64)] [(.bool,[])] false λa=>ref13_may a.1 a.2.1 a.2.2.1 a.2.2.2.1
theorem ok_722:OKF 722 c_722:=⟨aa_ ad_ (ac_ ok_771 (ac_ gD_ ab_)) Tryz.func722 (by kernel_rfl) (pl := .p) λ_=>by kernel_rfl,by kernel_rfl⟩
def c_608:Con te:=ae_ te [.d (.st 5),.d .str,.d (.int .i64),.d .str] [(.int .i64,[]),(.int .i64,[])] false λa=>nh_ a.1 a.2.1 a.2.2.1 a.2.2.2.1
theorem ok_608:OKF 608 c_608:=⟨aa_ ad_ (ac_ ok_122 (ac_ ok_722 (ac_ ok_721 (ac_ ok_45 (ac_ gD_ ab_))))) Tryz.func608 (by kernel_rfl) (pl := .p) λ_=>by kernel_rfl,by kernel_rfl⟩
def c_495:Con te:=ae_ te [.d (.st 35),.d (.int .i64),.d .str,.d (.int .i64),.d .str] [(.int .i64,[]),(.int .i64,[])] false λa=>ni_ a.1 a.2.1 a.2.2.1 a.2.2.2.1 a.2.2.2.2.1
theorem ok_495:OKF 495 c_495:=⟨aa_ ad_ (ac_ ok_608 (ac_ ok_607 ab_)) Tryz.func495 (by kernel_rfl) (pl := .p) λ_=>by kernel_rfl,by kernel_rfl⟩
def c_389:Con te:=ae_ te [.d (.st 59),.d .str,.d (.st 51),.d .str] [(.st 59,[]),(.st 51,[]),(.int .i64,[])] true λa=>bc_ a.1 a.2.1 a.2.2.1 a.2.2.2.1
theorem ok_389:OKF 389 c_389:=⟨aa_ ad_ (ac_ ok_495 (ac_ ok_286 (ac_ ok_195 (ac_ ok_494 (ac_ ok_285 ab_))))) Tryz.func389 (by kernel_rfl) (pl := .s .p (.s .p (.s (.dr [0,0,0,0,0,0,0,1,2] [] false []) (.s .p (.j ⟨[],[(20,true,.box 125 (.st 51))],[4,8,9,11],[0,4,6],[],34⟩ true (.s .p (.s (.s .p (.s .p (.j ⟨[],[],[4,8,9,11,12,13],[0,4,6,20,49],[],53⟩ false .p .p))) .p)) (.s .p (.s (.dr [0,0,1,1,4] [] true [4,6]) .p))))))) λ_=>by kernel_rfl,by kernel_rfl⟩
def c_284:Con te:=ae_ te [.d (.st 59),.d .str,.d (.st 54),.d (.st 51),.d .str] [(.st 59,[]),(.st 51,[]),(.int .i64,[])] true λa=>fS_ a.1 a.2.1 a.2.2.1 a.2.2.2.1 a.2.2.2.2.1
theorem ok_284:OKF 284 c_284:=⟨aa_ ad_ (ac_ ok_195 (ac_ ok_389 (ac_ ok_282 ab_))) Tryz.func284 (by kernel_rfl) (pl := .s .p (.s .p (.s (.s .p (.lp ⟨[(14,.d (.int .i64)),(24,.d (.int .i64))],[(0,true,.box 47 (.st 59)),(13,true,.row 125 (.st 51) [])],[1,4,5,8,10,11,13,23],[4,6,8],[],20⟩ ⟨[(14,.d (.int .i64))],[(0,true,.box 47 (.st 59))],[5,10,11],[6,8],[],20⟩ true (.s .p (.s .p (.j ⟨[(14,.d (.int .i64))],[(0,true,.box 47 (.st 59)),(13,true,.row 125 (.st 51) [])],[1,4,5,8,10,11,13,23,24],[4,6,8],[],21⟩ true (.s .p (.j ⟨[(16,.one (.ptr 23)),(17,.one (.ptr 24)),(18,.d (.int .i64))],[(13,true,.row 125 (.st 51) []),(23,false,.box 47 (.st 59)),(24,false,.box 125 (.st 51))],[1,4,5,8,10,11,13,14,23,24],[0,4,6,8],[],25⟩ false (.ot 7 (.alt 7 (.free 8 (.free 9 (.free 10 (.free 11 (.alt 12 (.alt 13 (.alt 14 (.alt 15 (.free 16 .nil) .nil) .nil) .nil) (.alt 13 (.alt 12 (.alt 14 (.alt 15 (.free 16 .nil) .nil) .nil) .nil) .nil)))))) (.alt 12 (.alt 7 (.free 8 (.free 9 (.free 10 (.free 11 (.alt 13 (.alt 14 (.alt 15 (.free 16 .nil) .nil) .nil) .nil))))) (.alt 13 (.alt 7 (.free 8 (.free 9 (.free 10 (.free 11 (.alt 14 (.alt 15 (.free 16 .nil) .nil) .nil))))) .nil) .nil)) (.alt 13 (.alt 7 (.free 8 (.free 9 (.free 10 (.free 11 (.alt 12 (.alt 14 (.alt 15 (.free 16 .nil) .nil) .nil) .nil))))) (.alt 12 (.alt 7 (.free 8 (.free 9 (.free 10 (.free 11 (.alt 14 (.alt 15 (.free 16 .nil) .nil) .nil))))) .nil) .nil)) .nil)))) (.s .p (.s (.s .p (.s (.s .p (.s (.dr [0,0,1,1,4] [] true [6,8]) .p)) .p)) .p)))) .p))))) .p))) λ_=>by kernel_rfl,by kernel_rfl⟩
def c_197:Con te:=ae_ te [.d (.st 59),.d .str,.d (.st 54),.d .str] [(.st 59,[]),(.st 51,[]),(.int .i64,[])] true λa=>fT_ a.1 a.2.1 a.2.2.1 a.2.2.2.1
theorem ok_197:OKF 197 c_197:=⟨aa_ ad_ (ac_ ok_284 (ac_ ok_283 ab_)) Tryz.func197 (by kernel_rfl) (pl := .s .p (.s .p (.s .p (.s .p (.s .p (.s .p (.s (.s .p (.lp ⟨[(39,.d (.int .i64))],[(0,true,.box 47 (.st 59)),(10,true,.row 9 .str []),(4024,true,.box 125 (.st 51))],[1,4,6,8,9,11,13,38],[2,4,6],[],4034⟩ ⟨[],[(0,true,.box 47 (.st 59)),(4024,true,.box 125 (.st 51))],[4,8,9,13],[4,6],[],4034⟩ true (.s .p (.s .p (.s (.s .p (.s (.dr [0,0,0,0,0,0,0,0,1,4,4,4,4,2,2,4] [] false []) .p)) .p))))) (.s (.dr [0,0,1,1,4] [] true [4,6]) .p)))))))) λ_=>by kernel_rfl,by kernel_rfl⟩
def c_134:Con te:=ae_ te [.d (.st 59),.d .str,.d (.st 54),.d .str,.d .str,.d .bool] [(.st 59,[]),(.st 51,[]),(.int .i64,[])] true λa=>fj_ a.1 a.2.1 a.2.2.1 a.2.2.2.1 a.2.2.2.2.1 a.2.2.2.2.2.1
theorem ok_134:OKF 134 c_134:=⟨aa_ ad_ (ac_ ok_197 (ac_ ok_195 ab_)) Tryz.func134 (by kernel_rfl) (pl := .p) λ_=>by kernel_rfl,by kernel_rfl⟩
def c_198:Con te:=ae_ te [.d (.st 59),.d .str,.d (.st 51)] [(.st 59,[]),(.st 38,[]),(.int .i64,[])] true λa=>nj_ a.1 a.2.1 a.2.2.1
theorem ok_198:OKF 198 c_198:=⟨aa_ ad_ (ac_ ok_287 (ac_ ok_286 (ac_ ok_285 ab_))) Tryz.func198 (by kernel_rfl) (pl := .s .p (.s .p (.s (.s .p (.s (.s .p (.s (.dr [0,0,0,1,1,4] [] true [4,6]) .p)) .p)) (.s .p (.s (.df [0,0,0,0,1,1,1,4,4,4,4,4,1,2,4,2,4] [] 8) .p))))) λ_=>by kernel_rfl,by kernel_rfl⟩
def c_135:Con te:=ae_ te [.d (.st 59),.d .str,.d (.st 51)] [(.st 59,[]),(.bool,[]),(.int .i64,[])] true λa=>cl_ a.1 a.2.1 a.2.2.1
theorem ok_135:OKF 135 c_135:=⟨aa_ ad_ (ac_ ok_198 ab_) Tryz.func135 (by kernel_rfl) (pl := .s .p (.s .p (.s (.dr [0,0,0,0,0,0,0,0,0,0,1,4,4] [] true [4]) .p))) λ_=>by kernel_rfl,by kernel_rfl⟩
def c_274:Con te:=ae_ te [.d (.st 51)] [(.bool,[])] false λa=>hu_ a.1
theorem ok_274:OKF 274 c_274:=⟨aa_ ad_ ab_ Tryz.func274 (by kernel_rfl) (pl := .p) λ_=>by kernel_rfl,by kernel_rfl⟩
def c_277:Con te:=ae_ te [.d (.st 54),.d (.st 51),.d (.sl (.st 52))] [(.st 54,[none,none,none,none,none,none,some 315])] true λa=>nk_ a.1 a.2.1 a.2.2.1
theorem ok_277:OKF 277 c_277:=⟨aa_ ad_ (ac_ ok_279 ab_) Tryz.func277 (by kernel_rfl) (pl := .p) λ_=>by kernel_rfl,by kernel_rfl⟩
def c_191:Con te:=ae_ te [.d (.st 54),.d (.st 51),.d (.st 51),.d (.int .i64)] [(.st 54,[]),(.int .i64,[])] true λa=>ka_ a.1 a.2.1 a.2.2.1 a.2.2.2.1
theorem ok_191:OKF 191 c_191:=⟨aa_ ad_ (ac_ ok_277 (ac_ ok_275 (ac_ ok_274 ab_))) Tryz.func191 (by kernel_rfl) (pl := .s .p (.s .p (.s .p (.s .p (.s .p (.j ⟨[(11,.d (.sl (.st 52)))],[],[3,4,5,6,8,10,12],[0,2,4,6,10021],[],10033⟩ false .p (.s .p (.s (.s .p (.s .p (.s .p (.s .p (.s .p (.s .p (.s .p (.s .p (.s .p (.s (.s (.ot 0 .nil) .p) .p)))))))))) (.s (.ot 0 .nil) .p))))))))) λ_=>by kernel_rfl,by kernel_rfl⟩
def c_132:Con te:=ae_ te [.d (.st 59),.d .str,.d (.st 54),.d .str,.d (.st 64)] [(.st 59,[]),(.st 54,[]),(.int .i64,[])] true λa=>ew_ a.1 a.2.1 a.2.2.1 a.2.2.2.1 a.2.2.2.2.1
theorem ok_132:OKF 132 c_132:=⟨aa_ ad_ (ac_ ok_191 (ac_ ok_135 (ac_ ok_134 (ac_ ok_192 ab_)))) Tryz.func132 (by kernel_rfl) (pl := .s .p (.s (.s .p (.s (.s (.dr [0,0,1,1,4] [] true [6,8]) .p) .p)) (.s .p (.s (.s .p (.s (.s (.dr [0,0,1,1,4] [] true [6,8]) .p) .p)) (.s .p (.s (.s .p (.s (.s (.dr [0,0,0,1,1,4] [] true [6,8]) .p) .p)) (.s .p (.s (.s .p (.s (.s (.dr [0,0,0,1,1,4] [] true [6,8]) .p) .p)) (.s (.s .p (.s (.s (.dr [0,0,1,1,4] [] true [6,8]) .p) .p)) (.s .p (.s (.dr [0,0,0,1,1,4] [] true [6,8]) .p))))))))))) λ_=>by kernel_rfl,by kernel_rfl⟩
def c_88:Con te:=ae_ te [.d (.st 59),.d .str,.d (.st 54),.d .str,.d (.st 64)] [(.st 59,[]),(.st 54,[]),(.str,[]),(.int .i64,[])] true λa=>bX_ a.1 a.2.1 a.2.2.1 a.2.2.2.1 a.2.2.2.2.1
theorem ok_88:OKF 88 c_88:=⟨aa_ ad_ (ac_ ok_135 (ac_ ok_134 (ac_ ok_132 ab_))) Tryz.func88 (by kernel_rfl) (pl := .s .p (.s (.s .p (.s (.s (.dr [0,0,0,1,1,4,4] [] true [6,8]) .p) .p)) (.s .p (.j ⟨[(15,.d (.int .i64))],[(0,true,.box 47 (.st 59)),(4016,true,.box 128 (.st 54))],[3,5,7,10,11,14],[2,6,8],[],4021⟩ true (.s .p (.s .p (.s .p (.s .p (.s .p (.s .p (.s .p (.s .p (.s .p (.s .p (.s (.s .p (.s (.s .p (.s (.s (.dr [0,0,0,0,1,1,4,4] [] true [6,8]) .p) .p)) (.s .p (.s (.s .p (.s (.s (.dr [0,0,0,0,1,1,4,4] [] true [6,8]) .p) .p)) (.s (.s .p (.s (.s (.dr [0,0,0,1,1,4,4] [] true [6,8]) .p) .p)) (.s (.dr [0,0,0,0,1,1,4,4] [] true [6,8]) .p)))))) .p))))))))))) (.s (.s .p (.s (.s (.dr [0,0,0,0,1,1,4,4] [] true [6,8]) .p) .p)) (.s (.dr [0,0,0,1,1,4,4] [] true [6,8]) .p)))))) λ_=>by kernel_rfl,by kernel_rfl⟩
def c_49:Con te:=ae_ te [.d (.st 59),.d .str,.d (.st 54),.d .str,.d (.sl (.st 64))] [(.st 59,[]),(.st 54,[]),(.str,[]),(.int .i64,[]),(.int .i64,[])] true λa=>g0_ a.1 a.2.1 a.2.2.1 a.2.2.2.1 a.2.2.2.2.1
theorem ok_49:OKF 49 c_49:=⟨aa_ ad_ (ac_ ok_88 ab_) Tryz.func49 (by kernel_rfl) (pl := .s .p (.s (.s .p (.lp ⟨[(3,.d .str),(22,.d (.int .i64))],[(0,true,.box 47 (.st 59)),(2,true,.box 128 (.st 54))],[1,4,5,7,10,11,21],[4,6],[],14⟩ ⟨[(3,.d .str)],[(0,true,.box 47 (.st 59)),(2,true,.box 128 (.st 54))],[4,5,7,10,11],[4,6],[],14⟩ true (.s .p (.s .p (.s (.s .p (.j ⟨[(16,.one (.ptr 17)),(17,.one (.ptr 18)),(18,.d .str),(19,.d (.int .i64))],[(17,false,.box 47 (.st 59)),(18,false,.box 128 (.st 54))],[1,3,4,5,7,10,11,15,21,22],[0,2,4,6],[],19⟩ false (.ot 8 (.alt 8 (.free 9 (.free 10 (.free 11 (.free 12 (.free 13 (.alt 14 (.alt 15 (.alt 16 (.alt 17 (.free 18 (.free 19 .nil)) .nil) .nil) .nil) (.alt 15 (.alt 14 (.alt 16 (.alt 17 (.free 18 (.free 19 .nil)) .nil) .nil) .nil) .nil))))))) (.alt 14 (.alt 8 (.free 9 (.free 10 (.free 11 (.free 12 (.free 13 (.alt 15 (.alt 16 (.alt 17 (.free 18 (.free 19 .nil)) .nil) .nil) .nil)))))) (.alt 15 (.alt 8 (.free 9 (.free 10 (.free 11 (.free 12 (.free 13 (.alt 16 (.alt 17 (.free 18 (.free 19 .nil)) .nil) .nil)))))) .nil) .nil)) (.alt 15 (.alt 8 (.free 9 (.free 10 (.free 11 (.free 12 (.free 13 (.alt 14 (.alt 16 (.alt 17 (.free 18 (.free 19 .nil)) .nil) .nil) .nil)))))) (.alt 14 (.alt 8 (.free 9 (.free 10 (.free 11 (.free 12 (.free 13 (.alt 16 (.alt 17 (.free 18 (.free 19 .nil)) .nil) .nil)))))) .nil) .nil)) .nil)))) (.s .p (.s (.s .p (.s (.s (.dr [0,0,0,0,0,1,1,4,4,4] [] true [4,6]) .p) .p)) .p)))) .p))))) (.s (.dr [0,0,0,0,0,1,1,4,4,4] [] true [4,6]) .p))) λ_=>by kernel_rfl,by kernel_rfl⟩
def c_26:Con te:=ae_ te [.d (.st 59),.d (.int .i64),.d (.int .i64)] [(.st 59,[]),(.st 54,[]),(.int .i64,[])] true λa=>fU_ a.1 a.2.1 a.2.2.1
theorem ok_26:OKF 26 c_26:=⟨aa_ ad_ (ac_ ok_49 (ac_ ok_8 (ac_ ok_48 ab_))) Tryz.func26 (by kernel_rfl) (pl := .s .p (.s .p (.s .p (.s .p (.s (.s .p (.lp ⟨[(11,.d (.int .i64)),(33,.d (.int .i64))],[],[2,3,6,7,9,10,32],[0,2,4,11,15],[],29⟩ ⟨[(11,.d (.int .i64))],[],[2,3,6,7,9,10],[0,2,4,11,15],[],29⟩ false (.s .p (.s .p (.j ⟨[(11,.d (.int .i64))],[],[2,3,6,7,9,10,32,33],[0,2,4,11,15],[],30⟩ false .p .p))))) (.s .p (.s .p (.s (.s .p (.lp ⟨[(14,.one (.own 47)),(70,.d (.int .i64))],[(15,true,.row 9 .str []),(40,true,.row 3 (.int .i64) []),(47,false,.row 167 (.st 64) [])],[3,6,7,9,10,13,69],[0,2,4,11],[],48⟩ ⟨[(14,.one (.own 47))],[(47,false,.row 167 (.st 64) [])],[3,6,7,9],[0,2,4,11],[],48⟩ false (.s .p (.s .p (.s (.s .p (.dr [0,0,0,0,0,0,0,0,0,0,0,0,1,2,4] [] false [])) .p))))) (.s .p (.s (.dr [0,0,0,1,1,4] [] true [2,4]) .p)))))))))) λ_=>by kernel_rfl,by kernel_rfl⟩
def c_9:Con te:=ae_ te [.d (.sl .str)] [(.st 59,[none,none,none,none,none,none,none,none,none,none,none,some 128,some 133]),(.int .i64,[])] true λa=>g1_ a.1
theorem ok_9:OKF 9 c_9:=⟨aa_ ad_ (ac_ ok_26 (ac_ ok_25 (ac_ ok_24 (ac_ ok_23 (ac_ ok_22 (ac_ ok_20 (ac_ ok_21 (ac_ ok_19 (ac_ ok_18 (ac_ ok_17 ab_)))))))))) Tryz.func9 (by kernel_rfl) (pl := .s .p (.s .p (.s .p (.s .p (.s (.s .p (.lp ⟨[(37,.d (.int .i64))],[(9,true,.cells 47 [.v (.int .i64),.own 28,.own 29,.v (.int .i64),.own 30,.v (.int .i64),.v (.int .i64),.own 31,.own 32,.own 33,.own 34,.own 35,.own 36,.own 37,.own 38,.v (.int .i64)]),(28,false,.row 106 (.st 25) []),(29,false,.row 61 (.st 26) []),(30,false,.row 382 (.st 28) []),(31,false,.row 158 (.st 31) []),(32,false,.row 119 (.st 34) []),(33,false,.row 68 (.st 43) []),(34,false,.row 116 (.st 50) []),(35,false,.row 128 (.st 54) []),(36,false,.row 133 (.st 56) []),(37,false,.row 247 (.st 58) []),(38,false,.row 251 (.st 57) [])],[0,2,5,36],[0],[],39⟩ ⟨[],[(9,true,.cells 47 [.v (.int .i64),.own 28,.own 29,.v (.int .i64),.own 30,.v (.int .i64),.v (.int .i64),.own 31,.own 32,.own 33,.own 34,.own 35,.own 36,.own 37,.own 38,.v (.int .i64)]),(28,false,.row 106 (.st 25) []),(29,false,.row 61 (.st 26) []),(30,false,.row 382 (.st 28) []),(31,false,.row 158 (.st 31) []),(32,false,.row 119 (.st 34) []),(33,false,.row 68 (.st 43) []),(34,false,.row 116 (.st 50) []),(35,false,.row 128 (.st 54) []),(36,false,.row 133 (.st 56) []),(37,false,.row 247 (.st 58) []),(38,false,.row 251 (.st 57) [])],[0,2,5],[0],[],39⟩ true (.s .p (.s .p (.s (.s .p (.s .p (.s .p (.s .p (.s (.dr [0,0,0,0,0,0,0,0,0,1,4,1,2,4,4,4,2] [] false []) (.dr [0,0,0,0,1,1,2,4,2] [] false [])))))) .p))))) (.s .p (.s .p (.s (.s .p (.lp ⟨[(94,.d (.int .i64))],[(9,true,.cells 47 [.v (.int .i64),.own 57,.own 29,.v (.int .i64),.own 30,.v (.int .i64),.v (.int .i64),.own 31,.own 32,.own 33,.own 58,.own 35,.own 36,.own 37,.own 38,.v (.int .i64)]),(57,false,.row 106 (.st 25) []),(29,true,.row 61 (.st 26) []),(30,true,.row 382 (.st 28) []),(31,true,.row 158 (.st 31) []),(32,true,.row 119 (.st 34) []),(33,true,.row 68 (.st 43) []),(58,false,.row 116 (.st 50) []),(35,true,.row 128 (.st 54) []),(36,true,.row 133 (.st 56) []),(37,true,.row 247 (.st 58) []),(38,true,.row 251 (.st 57) [])],[0,2,5,9,93],[0,49],[],59⟩ ⟨[],[(9,true,.cells 47 [.v (.int .i64),.own 57,.own 29,.v (.int .i64),.own 30,.v (.int .i64),.v (.int .i64),.own 31,.own 32,.own 33,.own 58,.own 35,.own 36,.own 37,.own 38,.v (.int .i64)]),(57,false,.row 106 (.st 25) []),(29,true,.row 61 (.st 26) []),(30,true,.row 382 (.st 28) []),(31,true,.row 158 (.st 31) []),(32,true,.row 119 (.st 34) []),(33,true,.row 68 (.st 43) []),(58,false,.row 116 (.st 50) []),(35,true,.row 128 (.st 54) []),(36,true,.row 133 (.st 56) []),(37,true,.row 247 (.st 58) []),(38,true,.row 251 (.st 57) [])],[2,5],[0],[],59⟩ false (.s .p (.s .p (.s (.s .p (.s .p (.lp ⟨[(99,.d (.int .i64))],[(9,true,.cells 47 [.v (.int .i64),.own 65,.own 29,.v (.int .i64),.own 30,.v (.int .i64),.v (.int .i64),.own 31,.own 32,.own 33,.own 66,.own 35,.own 36,.own 37,.own 38,.v (.int .i64)]),(65,false,.row 106 (.st 25) []),(29,true,.row 61 (.st 26) []),(30,true,.row 382 (.st 28) []),(31,true,.row 158 (.st 31) []),(32,true,.row 119 (.st 34) []),(33,true,.row 68 (.st 43) []),(66,false,.row 116 (.st 50) []),(35,true,.row 128 (.st 54) []),(36,true,.row 133 (.st 56) []),(37,true,.row 247 (.st 58) []),(38,true,.row 251 (.st 57) [])],[0,2,5,9,11,93,94,98],[0,49],[],67⟩ ⟨[],[(9,true,.cells 47 [.v (.int .i64),.own 65,.own 29,.v (.int .i64),.own 30,.v (.int .i64),.v (.int .i64),.own 31,.own 32,.own 33,.own 66,.own 35,.own 36,.own 37,.own 38,.v (.int .i64)]),(65,false,.row 106 (.st 25) []),(29,true,.row 61 (.st 26) []),(30,true,.row 382 (.st 28) []),(31,true,.row 158 (.st 31) []),(32,true,.row 119 (.st 34) []),(33,true,.row 68 (.st 43) []),(66,false,.row 116 (.st 50) []),(35,true,.row 128 (.st 54) []),(36,true,.row 133 (.st 56) []),(37,true,.row 247 (.st 58) []),(38,true,.row 251 (.st 57) [])],[0,2,5,9,93,94],[0,49],[],67⟩ false (.s .p (.s .p (.j ⟨[],[(9,true,.cells 47 [.v (.int .i64),.own 68,.own 29,.v (.int .i64),.own 30,.v (.int .i64),.v (.int .i64),.own 31,.own 32,.own 33,.own 69,.own 35,.own 36,.own 37,.own 38,.v (.int .i64)]),(68,false,.row 106 (.st 25) []),(29,true,.row 61 (.st 26) []),(30,true,.row 382 (.st 28) []),(31,true,.row 158 (.st 31) []),(32,true,.row 119 (.st 34) []),(33,true,.row 68 (.st 43) []),(69,false,.row 116 (.st 50) []),(35,true,.row 128 (.st 54) []),(36,true,.row 133 (.st 56) []),(37,true,.row 247 (.st 58) []),(38,true,.row 251 (.st 57) [])],[0,2,5,9,11,93,94,98,99],[0,49],[],70⟩ false (.s .p (.s .p (.s (.s .p (.dr [0,0,0,0,0,1,4,1,2,4,2] [] false [])) .p))) .p)))))) .p))))) (.s .p (.s .p (.s .p (.s .p (.s .p (.s (.s .p (.lp ⟨[(154,.d (.int .i64))],[(9,true,.cells 47 [.v (.int .i64),.v (.sl (.st 25)),.v (.sl (.st 26)),.v (.int .i64),.v (.sl (.st 28)),.v (.int .i64),.v (.int .i64),.v (.sl (.st 31)),.v (.sl (.st 34)),.v (.sl (.st 43)),.own 58,.own 35,.own 36,.own 37,.own 38,.v (.int .i64)]),(58,true,.row 116 (.st 50) []),(35,true,.row 128 (.st 54) []),(36,true,.row 133 (.st 56) []),(37,true,.row 247 (.st 58) []),(38,true,.row 251 (.st 57) [])],[2,5,153],[0],[],100⟩ ⟨[],[(9,true,.cells 47 [.v (.int .i64),.v (.sl (.st 25)),.v (.sl (.st 26)),.v (.int .i64),.v (.sl (.st 28)),.v (.int .i64),.v (.int .i64),.v (.sl (.st 31)),.v (.sl (.st 34)),.v (.sl (.st 43)),.own 58,.own 35,.own 36,.own 37,.own 38,.v (.int .i64)]),(58,true,.row 116 (.st 50) []),(35,true,.row 128 (.st 54) []),(36,true,.row 133 (.st 56) []),(37,true,.row 247 (.st 58) []),(38,true,.row 251 (.st 57) [])],[2,5],[0],[],100⟩ true (.s .p (.s .p (.j ⟨[],[(9,true,.cells 47 [.v (.int .i64),.v (.sl (.st 25)),.v (.sl (.st 26)),.v (.int .i64),.v (.sl (.st 28)),.v (.int .i64),.v (.int .i64),.v (.sl (.st 31)),.v (.sl (.st 34)),.v (.sl (.st 43)),.own 58,.own 35,.own 36,.own 37,.own 38,.v (.int .i64)]),(58,true,.row 116 (.st 50) []),(35,true,.row 128 (.st 54) []),(36,true,.row 133 (.st 56) []),(37,true,.row 247 (.st 58) []),(38,true,.row 251 (.st 57) [])],[2,5,153,154],[0],[],101⟩ true (.s .p (.j ⟨[(16,.one (.ptr 103)),(17,.d (.sl (.st 43))),(18,.one (.ptr 104)),(19,.d (.int .i64))],[(58,true,.row 116 (.st 50) []),(103,false,.box 39 (.st 35)),(104,false,.box 116 (.st 50))],[2,5,15,153,154],[0,9,35,36,37,38],[],105⟩ false (.ot 9 (.alt 9 (.free 10 (.free 11 (.free 12 (.free 13 (.free 14 (.alt 15 (.alt 16 (.alt 17 (.free 18 (.alt 19 (.free 20 .nil) .nil)) .nil) .nil) (.alt 16 (.alt 15 (.alt 17 (.free 18 (.alt 19 (.free 20 .nil) .nil)) .nil) .nil) .nil))))))) (.alt 15 (.alt 9 (.free 10 (.free 11 (.free 12 (.free 13 (.free 14 (.alt 16 (.alt 17 (.free 18 (.alt 19 (.free 20 .nil) .nil)) .nil) .nil)))))) (.alt 16 (.alt 9 (.free 10 (.free 11 (.free 12 (.free 13 (.free 14 (.alt 17 (.free 18 (.alt 19 (.free 20 .nil) .nil)) .nil)))))) .nil) .nil)) (.alt 16 (.alt 9 (.free 10 (.free 11 (.free 12 (.free 13 (.free 14 (.alt 15 (.alt 17 (.free 18 (.alt 19 (.free 20 .nil) .nil)) .nil) .nil)))))) (.alt 15 (.alt 9 (.free 10 (.free 11 (.free 12 (.free 13 (.free 14 (.alt 17 (.free 18 (.alt 19 (.free 20 .nil) .nil)) .nil)))))) .nil) .nil)) .nil)))) (.s .p (.ot 0 (.free 0 (.free 2 (.free 4 (.alt 1 (.alt 3 (.free 6 (.alt 5 (.alt 7 (.free 8 (.alt 9 (.alt 10 (.alt 11 .nil .nil) .nil) .nil)) .nil) (.alt 7 (.free 8 (.alt 5 (.alt 9 (.alt 10 (.alt 11 .nil .nil) .nil) .nil) (.alt 9 (.alt 5 (.alt 10 (.alt 11 .nil .nil) .nil) .nil) .nil))) .nil))) (.alt 5 (.alt 3 (.free 6 (.alt 7 (.free 8 (.alt 9 (.alt 10 (.alt 11 .nil .nil) .nil) .nil)) .nil)) .nil) .nil)) (.alt 3 (.alt 1 (.free 6 (.alt 5 (.alt 7 (.free 8 (.alt 9 (.alt 10 (.alt 11 .nil .nil) .nil) .nil)) .nil) (.alt 7 (.free 8 (.alt 5 (.alt 9 (.alt 10 (.alt 11 .nil .nil) .nil) .nil) (.alt 9 (.alt 5 (.alt 10 (.alt 11 .nil .nil) .nil) .nil) .nil))) .nil))) (.alt 5 (.alt 1 (.free 6 (.alt 7 (.free 8 (.alt 9 (.alt 10 (.alt 11 .nil .nil) .nil) .nil)) .nil)) .nil) .nil)) (.alt 5 (.alt 1 (.alt 3 (.free 6 (.alt 7 (.free 8 (.alt 9 (.alt 10 (.alt 11 .nil .nil) .nil) .nil)) .nil)) .nil) (.alt 3 (.alt 1 (.free 6 (.alt 7 (.free 8 (.alt 9 (.alt 10 (.alt 11 .nil .nil) .nil) .nil)) .nil)) .nil) .nil)) .nil)))))))))) .p))))) .p)))))))))))))) λ_=>by kernel_rfl,by kernel_rfl⟩
def c_522:Con te:=ae_ te [.d (.sl (.st 19)),.f1 (.st 19) .bool] [(.int .i64,[])] false λa=>b5_ a.1 a.2.1
theorem ok_522:OKF 522 c_522:=⟨aa_ ad_ ab_ Tryz.func522 (by kernel_rfl) (pl := .s .p (.s (.s .p (.lp ⟨[(8,.d (.int .i64))],[],[0,1,7],[],[],4⟩ ⟨[],[],[],[],[],4⟩ true .p)) .p)) λ_=>by kernel_rfl,by kernel_rfl⟩
def c_404:Con te:=ae_ te [.d (.sl (.st 19)),.f1 (.st 19) .bool] [(.bool,[])] false λa=>aS_ a.1 a.2.1
theorem ok_404:OKF 404 c_404:=⟨aa_ ad_ (ac_ ok_522 ab_) Tryz.func404 (by kernel_rfl) (pl := .p) λ_=>by kernel_rfl,by kernel_rfl⟩
def c_405:Con te:=ae_ te [.d (.st 19)] [(.bool,[])] false λa=>lo_ a.1
theorem ok_405:OKF 405 c_405:=⟨aa_ ad_ ab_ Tryz.func405 (by kernel_rfl) (pl := .p) λ_=>by kernel_rfl,by kernel_rfl⟩
def c_294:Con te:=ae_ te [.d (.sl (.st 19))] [(.bool,[])] false λa=>dial_asks a.1
theorem ok_294:OKF 294 c_294:=⟨aa_ ad_ (ac_ ok_405 (ac_ ok_404 ab_)) Tryz.func294 (by kernel_rfl) (pl := .p) λ_=>by kernel_rfl,by kernel_rfl⟩
def c_169:Con te:=ae_ te [.d .str,.d .str] [(.bool,[])] false λa=>bd_ a.1 a.2.1
theorem ok_169:OKF 169 c_169:=⟨aa_ ad_ ab_ Tryz.func169 (by kernel_rfl) (pl := .p) λ_=>by kernel_rfl,by kernel_rfl⟩
def c_826:Con te:=ae_ te [.d .str,.d .str] [(.str,[])] false λa=>b6_ a.1 a.2.1
theorem ok_826:OKF 826 c_826:=⟨aa_ ad_ (ac_ ok_169 ab_) Tryz.func826 (by kernel_rfl) (pl := .p) λ_=>by kernel_rfl,by kernel_rfl⟩
def c_732:Con te:=ae_ te [.d .str,.d .str] [(.str,[])] false λa=>strings_TrimPrefix a.1 a.2.1
theorem ok_732:OKF 732 c_732:=⟨aa_ ad_ (ac_ ok_826 ab_) Tryz.func732 (by kernel_rfl) (pl := .p) λ_=>by kernel_rfl,by kernel_rfl⟩
def c_626:Con te:=ae_ te [.d .str] [(.bool,[])] false λa=>lp_ a.1
theorem ok_626:OKF 626 c_626:=⟨aa_ ad_ (ac_ ok_732 ab_) Tryz.func626 (by kernel_rfl) (pl := .s .p (.s .p (.s .p (.s (.s .p (.lp ⟨[(26,.d (.int .i64))],[],[0,25],[],[],12012⟩ ⟨[],[],[],[],[],12012⟩ true .p)) .p)))) λ_=>by kernel_rfl,by kernel_rfl⟩
def c_628:Con te:=ae_ te [.d .str,.d (.int .u8)] [(.int .i64,[])] false λa=>strings_IndexByte a.1 a.2.1
theorem ok_628:OKF 628 c_628:=⟨aa_ ad_ (ac_ eW_ ab_) Tryz.func628 (by kernel_rfl) (pl := .p) λ_=>by kernel_rfl,by kernel_rfl⟩
def c_524:Con te:=ae_ te [.d .str,.d .str] [(.int .i64,[])] false λa=>iP_ a.1 a.2.1
theorem ok_524:OKF 524 c_524:=⟨aa_ ad_ (ac_ ok_628 ab_) Tryz.func524 (by kernel_rfl) (pl := .s .p (.s (.s .p (.lp ⟨[(8,.d (.int .i64))],[],[0,1,7],[],[],4⟩ ⟨[],[],[0],[],[],4⟩ true .p)) .p)) λ_=>by kernel_rfl,by kernel_rfl⟩
def c_627:Con te:=ae_ te [.d (.st 19),.p (.st 19)] [(.bool,[])] false λa=>kd_ a.1 a.2.1
theorem ok_627:OKF 627 c_627:=⟨aa_ ad_ ab_ Tryz.func627 (by kernel_rfl) (pl := .p) λ_=>by kernel_rfl,by kernel_rfl⟩
def c_523:Con te:=ae_ te [.d (.sl (.st 19)),.d (.st 19)] [(.int .i64,[])] false λa=>nl_ a.1 a.2.1
theorem ok_523:OKF 523 c_523:=⟨aa_ ad_ (ac_ ok_627 (ac_ ok_404 (ac_ ok_524 (ac_ ok_626 ab_)))) Tryz.func523 (by kernel_rfl) (pl := .s .p (.s (.s .p (.s .p (.s .p (.s .p (.s .p (.s .p (.s (.dr [0,0,0,0,0,0,0,0] [] false []) .p))))))) .p)) λ_=>by kernel_rfl,by kernel_rfl⟩
def c_406:Con te:=ae_ te [.d (.sl (.st 19))] [(.int .i64,[])] false λa=>nm_ a.1
theorem ok_406:OKF 406 c_406:=⟨aa_ ad_ (ac_ ok_523 ab_) Tryz.func406 (by kernel_rfl) (pl := .s .p (.s (.s .p (.lp ⟨[(8,.d (.int .i64))],[],[0,6,7],[],[],4⟩ ⟨[],[],[],[],[],4⟩ true (.s .p (.s .p (.s (.s .p (.s (.dr [0,0,0,0,0,0] [] false []) .p)) .p))))) .p)) λ_=>by kernel_rfl,by kernel_rfl⟩
def c_451:Con te:=ae_ te [.d .str,.d .str] [(.int .i64,[])] false λa=>strings_Index a.1 a.2.1
theorem ok_451:OKF 451 c_451:=⟨aa_ ad_ (ac_ gC_ ab_) Tryz.func451 (by kernel_rfl) (pl := .p) λ_=>by kernel_rfl,by kernel_rfl⟩
def c_567:Con te:=ae_ te [.d .str] [(.int .i32,[]),(.int .i64,[])] false λa=>utf8_DecodeRuneInString a.1
theorem ok_567:OKF 567 c_567:=⟨m0_ λ_=>rfl,by kernel_rfl⟩
theorem e_629(a:PA te [.d .str,.d .str,.d .str,.d (.int .i64)]):strings_Replace a.1 a.2.1 a.2.2.1 a.2.2.2.1=evFun Tryz.prog te eqL (ti 296 (inlF Tryz.prog te eqL (ti 408 cR_ tnil) Tryz.f296 (.p:Pl)) (tb 567 c_567 (tb 451 c_451 (tb 450 fz_ (ti 297 ez_ (ti 339 mj_ tnil)))))) Tryz.f629 [.d .str,.d .str,.d .str,.d (.int .i64)] [(.str,[])] (.s .p (.s .p (.j ⟨[(3,.d (.int .i64))],[],[0,1,2],[],[],3005⟩ true .p (.s .p (.s .p (.s .p (.j ⟨[(11,.d (.int .i64))],[(3005,true,.cells 472 [.sbp 3005,.own 3021]),(3021,false,.row 5 (.int .u8) [])],[0,10],[],[],3022⟩ false (.s .p (.s (.s .p (.lp ⟨[(11,.d (.int .i64)),(53,.d (.int .i64))],[(3005,true,.cells 472 [.sbp 3005,.own 3026]),(3026,false,.row 5 (.int .u8) [])],[0,1,2,10,52],[],[],3027⟩ ⟨[(11,.d (.int .i64))],[(3005,true,.cells 472 [.sbp 3005,.own 3026]),(3026,false,.row 5 (.int .u8) [])],[0,10],[],[],3027⟩ false .p)) (.s .p (.s .p (.lp ⟨[(11,.d (.int .i64)),(78,.d (.int .i64))],[(3005,true,.cells 472 [.sbp 3005,.own 3249]),(3249,false,.row 5 (.int .u8) [])],[0,2,10,77],[],[],3250⟩ ⟨[(11,.d (.int .i64))],[(3005,true,.cells 472 [.sbp 3005,.own 3249]),(3249,false,.row 5 (.int .u8) [])],[0,10],[],[],3250⟩ false .p))))) .p))))))) a:=by kernel_rfl
def c_629:Con te:=ae_ te [.d .str,.d .str,.d .str,.d (.int .i64)] [(.str,[])] false λa=>strings_Replace a.1 a.2.1 a.2.2.1 a.2.2.2.1
theorem ok_629:OKF 629 c_629:=⟨aa_ ad_ (c5_ ⟨hR_ ad_ (c5_ d3_ ab_) Tryz.func296,by kernel_rfl⟩ (ac_ ok_567 (ac_ ok_451 (ac_ ey_ (c5_ dS_ (c5_ lD_ ab_)))))) Tryz.func629 (by kernel_rfl) e_629,by kernel_rfl⟩
def c_525:Con te:=ae_ te [.d .str,.d .str,.d .str] [(.str,[])] false λa=>strings_ReplaceAll a.1 a.2.1 a.2.2.1
theorem ok_525:OKF 525 c_525:=⟨aa_ ad_ (ac_ ok_629 ab_) Tryz.func525 (by kernel_rfl) (pl := .p) λ_=>by kernel_rfl,by kernel_rfl⟩
def c_407:Con te:=ae_ te [.d .str] [(.str,[])] false λa=>nn_ a.1
theorem ok_407:OKF 407 c_407:=⟨aa_ ad_ (ac_ ok_525 (ac_ ok_524 ab_)) Tryz.func407 (by kernel_rfl) (pl := .p) λ_=>by kernel_rfl,by kernel_rfl⟩
theorem e_239(a:PA te [.d (.sl .str),.d .str]):strings_Join a.1 a.2.1=evFun Tryz.prog te eqL (ti 296 (inlF Tryz.prog te eqL (ti 408 cR_ tnil) Tryz.f296 (.p:Pl)) (ti 297 ez_ (ti 339 mj_ tnil))) Tryz.f239 [.d (.sl .str),.d .str] [(.str,[])] (.s .p (.s .p (.s .p (.j ⟨[(5,.d (.int .i64))],[],[0,1],[],[],8⟩ false (.s .p (.s (.j ⟨[],[],[0,1,5],[],[],11⟩ false .p .p) .p)) (.s (.s .p (.lp ⟨[(5,.d (.int .i64)),(41,.d (.int .i64))],[],[0,1,39,40],[],[],11⟩ ⟨[(5,.d (.int .i64))],[],[0,1],[],[],11⟩ false (.s .p (.s .p (.s (.s .p (.j ⟨[],[],[0,1,5,7,39,40,41],[],[],15⟩ false .p .p)) .p))))) (.s .p (.s .p (.s .p (.s (.s .p (.lp ⟨[(65,.d (.int .i64))],[(11,true,.cells 472 [.sbp 11,.own 245]),(245,false,.row 5 (.int .u8) [])],[1,8,63,64],[],[],246⟩ ⟨[],[(11,true,.cells 472 [.sbp 11,.own 245]),(245,false,.row 5 (.int .u8) [])],[8],[],[],246⟩ false .p)) .p))))))))) a:=by kernel_rfl
def c_239:Con te:=ae_ te [.d (.sl .str),.d .str] [(.str,[])] false λa=>strings_Join a.1 a.2.1
theorem ok_239:OKF 239 c_239:=⟨aa_ ad_ (c5_ ⟨hR_ ad_ (c5_ d3_ ab_) Tryz.func296,by kernel_rfl⟩ (c5_ dS_ (c5_ lD_ ab_))) Tryz.func239 (by kernel_rfl) e_239,by kernel_rfl⟩
def c_295:Con te:=ae_ te [.d (.sl (.st 19))] [(.str,[]),(.int .i64,[])] false λa=>nq_ a.1
theorem ok_295:OKF 295 c_295:=⟨aa_ ad_ (ac_ ok_239 (ac_ ok_407 (ac_ ok_406 ab_))) Tryz.func295 (by kernel_rfl) (pl := .s .p (.s .p (.s .p (.s (.s .p (.lp ⟨[(5,.one (.own 15)),(18,.d (.int .i64))],[(15,false,.row 9 .str [])],[16,17],[],[],16⟩ ⟨[(5,.one (.own 15))],[(15,false,.row 9 .str [])],[],[],[],16⟩ false (.s .p (.s .p (.j ⟨[(5,.one (.own 17))],[(17,false,.row 9 .str [])],[16,17,18],[],[],18⟩ false (.s .p (.s .p (.s .p (.dr [0,0,0,0,0,0,0,0,1,2,4] [] false [])))) .p))))) .p)))) λ_=>by kernel_rfl,by kernel_rfl⟩
theorem e_199(a:PA te [.d (.sl (.st 26))]):kg_ a.1=evFun Tryz.prog te eqL (ti 296 (inlF Tryz.prog te eqL (ti 408 cR_ tnil) Tryz.f296 (.p:Pl)) (tb 295 c_295 (tb 294 c_294 (ti 297 ez_ tnil)))) Tryz.f199 [.d (.sl (.st 26))] [(.str,[]),(.int .i64,[])] (.s .p (.s .p (.s .p (.s (.s .p (.lp ⟨[(14,.d (.int .i64))],[(5,true,.cells 472 [.sbp 5,.own 10]),(10,false,.row 5 (.int .u8) [])],[4,12,13],[],[],11⟩ ⟨[],[(5,true,.cells 472 [.sbp 5,.own 10]),(10,false,.row 5 (.int .u8) [])],[4],[],[],11⟩ true .p)) .p)))) a:=by kernel_rfl
def c_199:Con te:=ae_ te [.d (.sl (.st 26))] [(.str,[]),(.int .i64,[])] false λa=>kg_ a.1
theorem ok_199:OKF 199 c_199:=⟨aa_ ad_ (c5_ ⟨hR_ ad_ (c5_ d3_ ab_) Tryz.func296,by kernel_rfl⟩ (ac_ ok_295 (ac_ ok_294 (c5_ dS_ ab_)))) Tryz.func199 (by kernel_rfl) e_199,by kernel_rfl⟩
def c_298:Con te:=ae_ te [.d (.sl (.st 28)),.f1 (.st 28) .bool] [(.int .i64,[])] false λa=>b7_ a.1 a.2.1
theorem ok_298:OKF 298 c_298:=⟨aa_ ad_ ab_ Tryz.func298 (by kernel_rfl) (pl := .s .p (.s (.s .p (.lp ⟨[(8,.d (.int .i64))],[],[0,1,7],[],[],4⟩ ⟨[],[],[],[],[],4⟩ true .p)) .p)) λ_=>by kernel_rfl,by kernel_rfl⟩
def c_200:Con te:=ae_ te [.d (.sl (.st 28)),.f1 (.st 28) .bool] [(.bool,[])] false λa=>bN_ a.1 a.2.1
theorem ok_200:OKF 200 c_200:=⟨aa_ ad_ (ac_ ok_298 ab_) Tryz.func200 (by kernel_rfl) (pl := .p) λ_=>by kernel_rfl,by kernel_rfl⟩
def c_201:Con te:=ae_ te [.d (.st 28),.p (.st 29)] [(.bool,[])] false λa=>ja_ a.1 a.2.1
theorem ok_201:OKF 201 c_201:=⟨aa_ ad_ ab_ Tryz.func201 (by kernel_rfl) (pl := .p) λ_=>by kernel_rfl,by kernel_rfl⟩
def c_136:Con te:=ae_ te [.d (.st 29)] [(.bool,[])] false λa=>lq_ a.1
theorem ok_136:OKF 136 c_136:=⟨aa_ ad_ (ac_ ok_201 (ac_ ok_200 (ac_ ok_199 ab_))) Tryz.func136 (by kernel_rfl) (pl := .s .p (.s .p (.s .p (.s (.s .p (.lp ⟨[(5,.d (.int .i64)),(35,.d (.int .i64))],[],[1,33,34],[0],[],13021⟩ ⟨[],[],[1],[0],[],13021⟩ true .p)) .p)))) λ_=>by kernel_rfl,by kernel_rfl⟩
def c_203:Con te:=ae_ te [.d (.st 32),.d (.int .i64)] [(.bool,[])] false λa=>lr_ a.1 a.2.1
theorem ok_203:OKF 203 c_203:=⟨aa_ ad_ ab_ Tryz.func203 (by kernel_rfl) (pl := .s .p (.s .p (.s .p (.s (.dr [0,0,0,0,0,0,0,0,0,0,0,0,0,0,0,0,0,0,0,0,0,0,0,0,0] [] false []) .p)))) λ_=>by kernel_rfl,by kernel_rfl⟩
def c_305:Con te:=ae_ te [.d (.int .i64)] [(.bool,[])] false λa=>nr_ a.1
theorem ok_305:OKF 305 c_305:=⟨aa_ ad_ ab_ Tryz.func305 (by kernel_rfl) (pl := .p) λ_=>by kernel_rfl,by kernel_rfl⟩
def c_306:Con te:=ae_ te [.d .str] [(.bool,[])] false λa=>fV_ a.1
theorem ok_306:OKF 306 c_306:=⟨aa_ ad_ ab_ Tryz.func306 (by kernel_rfl) (pl := .s .p (.s .p (.s (.s .p (.lp ⟨[(16,.d (.int .i64))],[],[0,15],[],[],4007⟩ ⟨[],[],[],[],[],4007⟩ true .p)) .p))) λ_=>by kernel_rfl,by kernel_rfl⟩
def c_216:Con te:=ae_ te [.d .str] [(.bool,[])] false λa=>bu_ a.1
theorem ib_:OKF 216 c_216:=⟨aa_ ad_ ab_ Tryz.func216 (by kernel_rfl) (pl := .s .p (.s .p (.s (.s .p (.lp ⟨[(21,.d (.int .i64))],[],[0,20],[],[],10009⟩ ⟨[],[],[],[],[],10009⟩ true .p)) .p))) λ_=>by kernel_rfl,by kernel_rfl⟩
def c_449:Con te:=ae_ te [.d .str,.d (.int .i64)] [(.sl .str,[])] false λa=>g2_ a.1 a.2.1
theorem ok_449:OKF 449 c_449:=⟨m0_ λ_=>rfl,by kernel_rfl⟩
def c_338:Con te:=ae_ te [.d .str,.d .str,.d (.int .i64),.d (.int .i64)] [(.sl .str,[])] true λa=>strings_genSplit a.1 a.2.1 a.2.2.1 a.2.2.2.1
theorem ok_338:OKF 338 c_338:=⟨aa_ ad_ (ac_ ok_451 (ac_ ey_ (ac_ ok_449 ab_))) Tryz.func338 (by kernel_rfl) (pl := .s .p (.s .p (.s .p (.j ⟨[(3,.d (.int .i64))],[],[0,1,2],[],[],5⟩ false .p (.s .p (.s .p (.s .p (.s .p (.s (.lp ⟨[(0,.d .str),(10,.d (.int .i64))],[(12,true,.row 9 .str [])],[1,2,3,9],[],[],19⟩ ⟨[(0,.d .str),(10,.d (.int .i64))],[(12,true,.row 9 .str [])],[9],[],[],19⟩ false .p) .p))))))))) λ_=>by kernel_rfl,by kernel_rfl⟩
def c_238:Con te:=ae_ te [.d .str,.d .str] [(.sl .str,[])] true λa=>strings_Split a.1 a.2.1
theorem ok_238:OKF 238 c_238:=⟨aa_ ad_ (ac_ ok_338 ab_) Tryz.func238 (by kernel_rfl) (pl := .p) λ_=>by kernel_rfl,by kernel_rfl⟩
def c_110:Con te:=ae_ te [.d .str,.d .str] [(.bool,[])] false λa=>strings_HasPrefix a.1 a.2.1
theorem ok_110:OKF 110 c_110:=⟨aa_ ad_ (ac_ ok_169 ab_) Tryz.func110 (by kernel_rfl) (pl := .p) λ_=>by kernel_rfl,by kernel_rfl⟩
def c_162:Con te:=ae_ te [.d .str] [(.bool,[])] false λa=>dK_ a.1
theorem ok_162:OKF 162 c_162:=⟨aa_ ad_ (ac_ ok_110 ab_) Tryz.func162 (by kernel_rfl) (pl := .p) λ_=>by kernel_rfl,by kernel_rfl⟩
def c_160:Con te:=ae_ te [.d .str] [(.sl .str,[some 9]),(.int .i64,[])] false λa=>path_Split a.1
theorem ok_160:OKF 160 c_160:=⟨aa_ ad_ (ac_ ib_ (ac_ ok_162 (ac_ ok_238 ab_))) Tryz.func160 (by kernel_rfl) (pl := .s .p (.s .p (.s .p (.s (.s .p (.lp ⟨[(4,.one (.own 10)),(14,.d (.int .i64))],[(10,false,.row 9 .str [])],[0,12,13],[],[],11⟩ ⟨[(4,.one (.own 10))],[(10,false,.row 9 .str [])],[],[],[],11⟩ true (.s .p (.s .p (.j ⟨[(4,.one (.own 12))],[(12,false,.row 9 .str [])],[0,12,13,14],[],[],13⟩ true (.s .p (.s .p (.s .p (.s .p (.s (.ot 0 (.free 0 (.free 1 (.free 2 (.spl 2 (.free 3 (.free 4 (.alt 5 (.free 6 (.spl 6 (.free 7 (.free 8 (.alt 9 (.alt 10 (.free 11 (.alt 12 (.free 13 .nil) .nil)) .nil) .nil))) (.free 7 (.free 8 (.alt 9 (.alt 10 (.free 11 (.alt 12 (.free 13 .nil) .nil)) .nil) .nil))))) .nil))) (.free 3 (.free 4 (.alt 5 (.free 6 (.spl 6 (.free 7 (.free 8 (.alt 9 (.alt 10 (.free 11 (.alt 12 (.free 13 .nil) .nil)) .nil) .nil))) (.free 7 (.free 8 (.alt 9 (.alt 10 (.free 11 (.alt 12 (.free 13 .nil) .nil)) .nil) .nil))))) .nil)))))))) .p))))) .p))))) .p)))) λ_=>by kernel_rfl,by kernel_rfl⟩
def c_161:Con te:=ae_ te [.d (.sl .str),.d .bool] [(.str,[])] false λa=>ns_ a.1 a.2.1
theorem ok_161:OKF 161 c_161:=⟨aa_ ad_ (ac_ ok_239 ab_) Tryz.func161 (by kernel_rfl) (pl := .p) λ_=>by kernel_rfl,by kernel_rfl⟩
def c_96:Con te:=ae_ te [.d .str] [(.str,[]),(.int .i64,[])] false λa=>path_Clean a.1
theorem ok_96:OKF 96 c_96:=⟨aa_ ad_ (ac_ ok_161 (ac_ ok_162 (ac_ ok_160 ab_))) Tryz.func96 (by kernel_rfl) (pl := .p) λ_=>by kernel_rfl,by kernel_rfl⟩
def c_307:Con te:=ae_ te [.d .str] [(.bool,[])] false λa=>ls_ a.1
theorem ok_307:OKF 307 c_307:=⟨aa_ ad_ (ac_ ok_96 ab_) Tryz.func307 (by kernel_rfl) (pl := .p) λ_=>by kernel_rfl,by kernel_rfl⟩
def c_204:Con te:=ae_ te [.d (.st 32),.d (.st 31)] [(.bool,[])] false λa=>lt_ a.1 a.2.1
theorem ok_204:OKF 204 c_204:=⟨aa_ ad_ (ac_ ok_307 (ac_ ib_ (ac_ ok_306 (ac_ ok_305 ab_)))) Tryz.func204 (by kernel_rfl) (pl := .s .p (.s .p (.s (.s .p (.lp ⟨[(51,.d (.int .i64))],[(24019,true,.row 3 (.int .i64) [])],[2,3,49,50],[0,2],[],24023⟩ ⟨[],[],[2,3],[0,2],[],24023⟩ true .p)) (.s .p (.s (.s .p (.lp ⟨[],[],[2,3,75,76,77],[0,2],[],29032⟩ ⟨[],[],[2,3],[0,2],[],29032⟩ true .p)) (.s (.s .p (.lp ⟨[(88,.d (.int .i64))],[],[2,86,87],[0],[],29036⟩ ⟨[],[],[],[],[],29036⟩ true .p)) .p)))))) λ_=>by kernel_rfl,by kernel_rfl⟩
def c_137:Con te:=ae_ te [.d (.st 32)] [(.bool,[])] false λa=>nt_ a.1
theorem ok_137:OKF 137 c_137:=⟨aa_ ad_ (ac_ ok_204 (ac_ ok_203 ab_)) Tryz.func137 (by kernel_rfl) (pl := .s .p (.s .p (.s (.s (.dr [0,0,0,0,0,0,0,0,0,0,0,0,0,0,0,0,0,0,0,0,0,0,0,0,0,0,0,0,0,0,0,0,0] [] false []) .p) (.s (.s .p (.lp ⟨[(45,.d (.int .i64))],[],[1,43,44],[0],[],26018⟩ ⟨[],[],[],[],[],26018⟩ true .p)) .p)))) λ_=>by kernel_rfl,by kernel_rfl⟩
def c_205:Con te:=ae_ te [.d (.st 34)] [(.bool,[])] false λa=>env_sound a.1
theorem ok_205:OKF 205 c_205:=⟨aa_ ad_ (ac_ ib_ ab_) Tryz.func205 (by kernel_rfl) (pl := .s .p (.s .p (.s (.s .p (.lp ⟨[],[],[1,32,33,34],[0],[],17014⟩ ⟨[],[],[],[],[],17014⟩ true (.s .p (.s .p (.s (.s .p (.s (.s (.dr [0,0,0,0,0,0,0,0,0,0,0,0,0,0,0,0,0,0,0,0,0,0,0,0,0,0,0,0,0,0,0,0,0,0,0,0,0,0,0,0] [] false []) .p) .p)) .p))))) .p))) λ_=>by kernel_rfl,by kernel_rfl⟩
def c_138:Con te:=ae_ te [.d (.sl (.st 34))] [(.bool,[])] false λa=>env_Right a.1
theorem ok_138:OKF 138 c_138:=⟨aa_ ad_ (ac_ ok_205 ab_) Tryz.func138 (by kernel_rfl) (pl := .s .p (.s .p (.s (.s .p (.lp ⟨[(10,.d (.int .i64))],[],[0,8,9],[],[],7⟩ ⟨[],[],[],[],[],7⟩ true (.s .p (.s .p (.s (.s .p (.s (.dr [0,0,0,0,0,0,0,0,0,0,0,0,0,0,0,0,0,0] [] false []) .p)) .p))))) .p))) λ_=>by kernel_rfl,by kernel_rfl⟩
def c_206:Con te:=ae_ te [.d (.st 5)] [(.bool,[])] false λa=>eU_ a.1
theorem ok_206:OKF 206 c_206:=⟨aa_ ad_ ab_ Tryz.func206 (by kernel_rfl) (pl := .p) λ_=>by kernel_rfl,by kernel_rfl⟩
def c_207:Con te:=ae_ te [.d (.st 9)] [(.bool,[])] false λa=>jb_ a.1
theorem ok_207:OKF 207 c_207:=⟨aa_ ad_ (ac_ ok_206 ab_) Tryz.func207 (by kernel_rfl) (pl := .p) λ_=>by kernel_rfl,by kernel_rfl⟩
def c_208:Con te:=ae_ te [.d (.st 16)] [(.bool,[])] false λa=>gr_ a.1
theorem ok_208:OKF 208 c_208:=⟨aa_ ad_ ab_ Tryz.func208 (by kernel_rfl) (pl := .p) λ_=>by kernel_rfl,by kernel_rfl⟩
def c_209:Con te:=ae_ te [.d (.st 24)] [(.bool,[])] false λa=>hY_ a.1
theorem ok_209:OKF 209 c_209:=⟨aa_ ad_ ab_ Tryz.func209 (by kernel_rfl) (pl := .p) λ_=>by kernel_rfl,by kernel_rfl⟩
def c_139:Con te:=ae_ te [.d (.st 25)] [(.bool,[])] false λa=>jc_ a.1
theorem ok_139:OKF 139 c_139:=⟨aa_ ad_ (ac_ ok_209 (ac_ ok_208 (ac_ ok_207 (ac_ ok_206 ab_)))) Tryz.func139 (by kernel_rfl) (pl := .p) λ_=>by kernel_rfl,by kernel_rfl⟩
def c_418:Con te:=ae_ te [.mp 618 .str (.int .i64),.d (.sl .str)] [(.int .i64,[])] false λa=>kh_ a.1 a.2.1
theorem ok_418:OKF 418 c_418:=⟨aa_ ad_ ab_ Tryz.func418 (by kernel_rfl) (pl := .s .p (.s (.s .p (.lp ⟨[(9,.d (.int .i64))],[],[0,1,7,8],[0],[],5⟩ ⟨[],[],[],[0],[],5⟩ true .p)) .p)) λ_=>by kernel_rfl,by kernel_rfl⟩
def c_311:Con te:=ae_ te [.d (.sl (.st 1))] [(.int .i64,[])] false λa=>nv_ a.1
theorem ok_311:OKF 311 c_311:=⟨aa_ ad_ (ac_ ok_418 (ac_ ok_306 ab_)) Tryz.func311 (by kernel_rfl) (pl := .s .p (.s .p (.s .p (.s (.s .p (.lp ⟨[(17,.d (.int .i64))],[(4,true,.map 618 .str (.int .i64))],[0,3,4,15,16],[6],[],13⟩ ⟨[],[(4,true,.map 618 .str (.int .i64))],[0,3,4],[6],[],13⟩ false .p)) (.s (.s .p (.lp ⟨[(29,.d (.int .i64))],[(4,true,.map 618 .str (.int .i64)),(6,true,.map 618 .str (.int .i64))],[3,4,27,28],[],[],16⟩ ⟨[],[],[],[],[],16⟩ true .p)) .p))))) λ_=>by kernel_rfl,by kernel_rfl⟩
def c_312:Con te:=ae_ te [.d (.sl (.st 2))] [(.int .i64,[])] false λa=>lu_ a.1
theorem ok_312:OKF 312 c_312:=⟨aa_ ad_ (ac_ ok_306 ab_) Tryz.func312 (by kernel_rfl) (pl := .s .p (.s .p (.s (.s .p (.lp ⟨[(10,.d (.int .i64))],[],[0,8,9],[],[],7⟩ ⟨[],[],[],[],[],7⟩ true (.s .p (.s .p (.s (.s .p (.s .p (.s .p (.s (.dr [0,0,0,0,0,0,0,0,0,0,0,0,0,0] [] false []) .p)))) .p))))) .p))) λ_=>by kernel_rfl,by kernel_rfl⟩
def c_361:Con te:=ae_ te [.d (.int .i64)] [(.bool,[])] false λa=>nw_ a.1
theorem ok_361:OKF 361 c_361:=⟨aa_ ad_ ab_ Tryz.func361 (by kernel_rfl) (pl := .s .p (.s .p (.s (.s .p (.j ⟨[(9,.d .bool)],[],[],[],[],7⟩ false .p .p)) .p))) λ_=>by kernel_rfl,by kernel_rfl⟩
def c_362:Con te:=ae_ te [.d (.int .i64)] [(.int .i64,[])] false λa=>iQ_ a.1
theorem ok_362:OKF 362 c_362:=⟨aa_ ad_ ab_ Tryz.func362 (by kernel_rfl) (pl := .p) λ_=>by kernel_rfl,by kernel_rfl⟩
def c_259:Con te:=ae_ te [.d (.int .i64)] [(.bool,[])] false λa=>b1_ a.1
theorem ok_259:OKF 259 c_259:=⟨aa_ ad_ ab_ Tryz.func259 (by kernel_rfl) (pl := .p) λ_=>by kernel_rfl,by kernel_rfl⟩
def c_258:Con te:=ae_ te [.d (.st 3)] [(.bool,[])] false λa=>iR_ a.1
theorem ok_258:OKF 258 c_258:=⟨aa_ ad_ (ac_ ok_259 (ac_ ok_362 (ac_ ok_361 ab_))) Tryz.func258 (by kernel_rfl) (pl := .s .p (.s (.s (.dr [0,0,0,0,0,0,0,0,0,0,0,0,0,0,0,0,0,0,0,0,0,0,0,0,0,0,0,0,0,0] [] false []) .p) .p)) λ_=>by kernel_rfl,by kernel_rfl⟩
def c_176:Con te:=ae_ te [.d (.st 4)] [(.bool,[])] false λa=>fW_ a.1
theorem ok_176:OKF 176 c_176:=⟨aa_ ad_ (ac_ ib_ (ac_ ok_259 (ac_ ok_258 ab_))) Tryz.func176 (by kernel_rfl) (pl := .s .p (.s .p (.s .p (.s (.s .p (.lp ⟨[(27,.d (.int .i64))],[(9009,true,.map 430 (.int .i64) (.int .i64)),(9011,true,.map 431 (.st 65) (.int .i64))],[1,3,4,25,26],[0],[],9019⟩ ⟨[],[],[],[],[],9019⟩ true (.s .p (.s .p (.j ⟨[],[(9009,true,.map 430 (.int .i64) (.int .i64)),(9011,true,.map 431 (.st 65) (.int .i64))],[1,3,4,25,26,27],[0],[],9020⟩ true (.s .p (.s (.s (.dr [0,0,0,0,0,0,0,0,0,0,0,0,0,0,0,0,0,0,0,0,0,0,0,0,0,0] [] false []) .p) (.j ⟨[],[],[1,3,4,5,6,25,26,27],[0,9009,9011,9023],[],30033⟩ true .p (.j ⟨[],[(9011,true,.map 431 (.st 65) (.int .i64))],[1,3,4,6,25,26,27],[0,9009,9023],[],30033⟩ false (.s .p (.s (.ot 6 (.alt 6 (.free 7 (.alt 8 (.free 9 (.alt 10 .nil .nil)) .nil)) (.alt 8 (.free 9 (.alt 6 (.free 7 (.alt 10 .nil .nil)) .nil)) .nil))) .p)) .p)))) .p))))) .p)))) λa=>(congrFun e_tree_Right a.1).symm.trans (by kernel_rfl),by kernel_rfl⟩
def c_210:Con te:=ae_ te [.d (.st 5)] [(.bool,[])] false λa=>ft_ a.1
theorem ok_210:OKF 210 c_210:=⟨aa_ ad_ (ac_ ok_176 (ac_ ok_312 (ac_ ok_311 ab_))) Tryz.func210 (by kernel_rfl) (pl := .s .p (.s .p (.s .p (.s (.s .p (.lp ⟨[],[],[1,3,25,26,27],[0],[],10014⟩ ⟨[],[],[],[],[],10014⟩ true .p)) .p)))) λ_=>by kernel_rfl,by kernel_rfl⟩
def c_315:Con te:=ae_ te [.d (.st 7)] [(.bool,[])] false λa=>lv_ a.1
theorem ok_315:OKF 315 c_315:=⟨aa_ ad_ ab_ Tryz.func315 (by kernel_rfl) (pl := .s .p (.s .p (.s .p (.s (.s .p (.lp ⟨[],[],[3,24,25,26],[11008],[],11015⟩ ⟨[],[],[],[],[],11015⟩ true .p)) .p)))) λ_=>by kernel_rfl,by kernel_rfl⟩
end
end Go.Proofs.YtkammpnldgkiiaaGreatDoor
