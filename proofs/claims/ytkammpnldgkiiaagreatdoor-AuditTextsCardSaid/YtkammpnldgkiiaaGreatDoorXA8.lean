/-
 What the statements of this seat hang on,part 8: K13 K14 K15 K16 K17 K18 Num Fa0 Ga Gb Gc.
-/
import Derived.Test.YtkammpnldgkiiaaGreatDoorXA7
import Derived.Laws.BitsLemmas
import Derived.KernelRfl
namespace Go.Proofs.YtkammpnldgkiiaaGreatDoor
open Go.Rt Go.RowKit
noncomputable section
def c_211:Con te:=ae_ te [.d (.st 9)] [(.bool,[])] false λa=>hZ_ a.1
theorem ok_211:OKF 211 c_211:=⟨aa_ ad_ (ac_ ok_315 (ac_ ok_210 ab_)) Tryz.func211 (by kernel_rfl) (pl := .s .p (.s .p (.s .p (.s (.s .p (.lp ⟨[],[],[1,3,25,26,27],[0],[],10014⟩ ⟨[],[],[],[],[],10014⟩ true .p)) .p)))) λ_=>by kernel_rfl,by kernel_rfl⟩
def c_212:Con te:=ae_ te [.d (.st 13)] [(.bool,[])] false λa=>ny_ a.1
theorem ok_212:OKF 212 c_212:=⟨aa_ ad_ ab_ Tryz.func212 (by kernel_rfl) (pl := .s .p (.s .p (.s .p (.s (.s .p (.lp ⟨[],[],[1,29,30,31],[0],[],14016⟩ ⟨[],[],[],[],[],14016⟩ true (.s .p (.s .p (.s (.s .p (.s (.s (.dr [0,0,0,0,0,0,0,0,0,0,0,0,0,0,0,0,0,0,0,0,0,0,0,0,0,0] [] false []) .p) .p)) .p))))) .p)))) λ_=>by kernel_rfl,by kernel_rfl⟩
def c_213:Con te:=ae_ te [.d (.st 16)] [(.bool,[])] false λa=>kj_ a.1
theorem ok_213:OKF 213 c_213:=⟨aa_ ad_ ab_ Tryz.func213 (by kernel_rfl) (pl := .s .p (.s .p (.s (.s .p (.lp ⟨[(23,.d (.int .i64))],[],[1,21,22],[0],[],9012⟩ ⟨[],[],[1],[0],[],9012⟩ true (.s .p (.s .p (.s (.s .p (.s (.dr [0,0,0,0,0,0,0,0,0,0,0,0,0,0,0,0,0,0,0,0,0,0,0,0,0,0,0,0,0,0,0] [] false []) .p)) .p))))) .p))) λ_=>by kernel_rfl,by kernel_rfl⟩
def c_320:Con te:=ae_ te [.d (.sl (.st 18))] [(.str,[]),(.int .i64,[])] false λa=>nA_ a.1
theorem ok_320:OKF 320 c_320:=⟨aa_ ad_ (c5_ dS_ ab_) Tryz.func320 (by kernel_rfl) (pl := .s .p (.s .p (.s .p (.s (.s .p (.lp ⟨[],[],[4,12,13,14],[5],[],10⟩ ⟨[],[],[4],[5],[],10⟩ true .p)) .p)))) λ_=>by kernel_rfl,by kernel_rfl⟩
def c_425:Con te:=ae_ te [.d .str] [(.bool,[])] false λa=>h0_ a.1
theorem ok_425:OKF 425 c_425:=⟨aa_ ad_ ab_ Tryz.func425 (by kernel_rfl) (pl := .s .p (.s .p (.s (.s .p (.lp ⟨[(32,.d (.int .i64))],[],[0,31],[],[],18011⟩ ⟨[],[],[],[],[],18011⟩ true .p)) .p))) λ_=>by kernel_rfl,by kernel_rfl⟩
def c_533:Con te:=ae_ te [.d (.sl (.st 20)),.f1 (.st 20) .bool] [(.int .i64,[])] false λa=>bY_ a.1 a.2.1
theorem ok_533:OKF 533 c_533:=⟨aa_ ad_ ab_ Tryz.func533 (by kernel_rfl) (pl := .s .p (.s (.s .p (.lp ⟨[(8,.d (.int .i64))],[],[0,1,7],[],[],4⟩ ⟨[],[],[],[],[],4⟩ true .p)) .p)) λ_=>by kernel_rfl,by kernel_rfl⟩
def c_426:Con te:=ae_ te [.d (.sl (.st 20)),.f1 (.st 20) .bool] [(.bool,[])] false λa=>by_ a.1 a.2.1
theorem ok_426:OKF 426 c_426:=⟨aa_ ad_ (ac_ ok_533 ab_) Tryz.func426 (by kernel_rfl) (pl := .p) λ_=>by kernel_rfl,by kernel_rfl⟩
def c_427:Con te:=ae_ te [.d (.st 20)] [(.bool,[])] false λa=>eC_ a.1
theorem ok_427:OKF 427 c_427:=⟨aa_ ad_ ab_ Tryz.func427 (by kernel_rfl) (pl := .p) λ_=>by kernel_rfl,by kernel_rfl⟩
def c_321:Con te:=ae_ te [.d (.st 21)] [(.bool,[])] false λa=>fx_ a.1
theorem ok_321:OKF 321 c_321:=⟨aa_ ad_ (ac_ ok_427 (ac_ ok_426 (ac_ ok_425 ab_))) Tryz.func321 (by kernel_rfl) (pl := .p) λ_=>by kernel_rfl,by kernel_rfl⟩
def c_214:Con te:=ae_ te [.d (.st 22)] [(.bool,[])] false λa=>jd_ a.1
theorem ok_214:OKF 214 c_214:=⟨aa_ ad_ (ac_ ok_321 (ac_ ok_320 ab_)) Tryz.func214 (by kernel_rfl) (pl := .s .p (.s .p (.s (.s .p (.lp ⟨[(24,.d (.int .i64))],[],[1,22,23],[0],[],5018⟩ ⟨[],[],[],[],[],5018⟩ true (.s .p (.s .p (.s (.s .p (.s (.dr [0,0,0,0,0,0,0,0,0,0,0,0,0,0,0,0,0,0,0] [] false []) .p)) .p))))) .p))) λ_=>by kernel_rfl,by kernel_rfl⟩
def c_322:Con te:=ae_ te [.d (.st 24)] [(.bool,[])] false λa=>nB_ a.1
theorem ok_322:OKF 322 c_322:=⟨aa_ ad_ ab_ Tryz.func322 (by kernel_rfl) (pl := .s .p (.s (.s .p (.lp ⟨[],[],[1,6,7,8],[0],[],7⟩ ⟨[],[],[1],[0],[],7⟩ true .p)) .p)) λ_=>by kernel_rfl,by kernel_rfl⟩
def c_215:Con te:=ae_ te [.d (.st 24)] [(.bool,[])] false λa=>lw_ a.1
theorem ok_215:OKF 215 c_215:=⟨aa_ ad_ (ac_ ok_322 ab_) Tryz.func215 (by kernel_rfl) (pl := .s .p (.s .p (.s .p (.s (.s .p (.lp ⟨[],[],[56,57,58],[],[],35022⟩ ⟨[],[],[],[],[],35022⟩ false (.s .p (.s .p (.s (.s (.ot 0 .nil) .p) .p))))) .p)))) λ_=>by kernel_rfl,by kernel_rfl⟩
def c_325:Con te:=ae_ te [.d (.sl (.st 34)),.f1 (.st 34) .bool] [(.int .i64,[])] false λa=>cs_ a.1 a.2.1
theorem ok_325:OKF 325 c_325:=⟨aa_ ad_ ab_ Tryz.func325 (by kernel_rfl) (pl := .s .p (.s (.s .p (.lp ⟨[(8,.d (.int .i64))],[],[0,1,7],[],[],4⟩ ⟨[],[],[],[],[],4⟩ true .p)) .p)) λ_=>by kernel_rfl,by kernel_rfl⟩
def c_217:Con te:=ae_ te [.d (.sl (.st 34)),.f1 (.st 34) .bool] [(.bool,[])] false λa=>b3_ a.1 a.2.1
theorem ok_217:OKF 217 c_217:=⟨aa_ ad_ (ac_ ok_325 ab_) Tryz.func217 (by kernel_rfl) (pl := .p) λ_=>by kernel_rfl,by kernel_rfl⟩
def c_218:Con te:=ae_ te [.d (.st 34),.p (.st 25)] [(.bool,[])] false λa=>h1_ a.1 a.2.1
theorem ok_218:OKF 218 c_218:=⟨aa_ ad_ ab_ Tryz.func218 (by kernel_rfl) (pl := .p) λ_=>by kernel_rfl,by kernel_rfl⟩
def c_140:Con te:=ae_ te [.d (.st 35),.d (.st 25)] [(.bool,[])] false λa=>kk_ a.1 a.2.1
theorem ok_140:OKF 140 c_140:=⟨aa_ ad_ (ac_ ok_218 (ac_ ok_217 (ac_ ib_ (ac_ ok_215 (ac_ ok_214 (ac_ ok_213 (ac_ ok_212 (ac_ ok_211 (ac_ ok_210 ab_))))))))) Tryz.func140 (by kernel_rfl) (pl := .p) λ_=>by kernel_rfl,by kernel_rfl⟩
def c_89:Con te:=ae_ te [.d (.st 35)] [(.bool,[])] false λa=>gs_ a.1
theorem ok_89:OKF 89 c_89:=⟨aa_ ad_ (ac_ ok_140 (ac_ ok_139 (ac_ ok_138 (ac_ ok_137 (ac_ ok_136 ab_))))) Tryz.func89 (by kernel_rfl) (pl := .s .p (.s .p (.s (.s .p (.lp ⟨[(40,.d (.int .i64))],[],[1,38,39],[0],[],24015⟩ ⟨[],[],[],[],[],24015⟩ true .p)) .p))) λ_=>by kernel_rfl,by kernel_rfl⟩
theorem e_141(a:PA te [.d (.st 35),.d (.int .i64)]):hv_ a.1 a.2.1=evFun Tryz.prog te eqL (ti 219 (inlF Tryz.prog te eqL tnil Tryz.f219 (.p:Pl)) tnil) Tryz.f141 [.d (.st 35),.d (.int .i64)] [(.int .i64,[]),(.int .i64,[])] (.p:Pl) a:=by kernel_rfl
def c_141:Con te:=ae_ te [.d (.st 35),.d (.int .i64)] [(.int .i64,[]),(.int .i64,[])] false λa=>hv_ a.1 a.2.1
theorem ok_141:OKF 141 c_141:=⟨aa_ ad_ (c5_ ⟨hR_ ad_ ab_ Tryz.func219,by kernel_rfl⟩ ab_) Tryz.func141 (by kernel_rfl) e_141,by kernel_rfl⟩
def c_142:Con te:=ae_ te [.d (.st 35),.d (.st 43)] [(.bool,[])] false λa=>gt_ a.1 a.2.1
theorem ok_142:OKF 142 c_142:=⟨aa_ ad_ ab_ Tryz.func142 (by kernel_rfl) (pl := .p) λ_=>by kernel_rfl,by kernel_rfl⟩
def c_143:Con te:=ae_ te [.d (.sl (.st 41))] [(.bool,[])] false λa=>lx_ a.1
theorem ok_143:OKF 143 c_143:=⟨aa_ ad_ ab_ Tryz.func143 (by kernel_rfl) (pl := .s .p (.s .p (.s (.s .p (.lp ⟨[],[],[0,8,9,10],[],[],7⟩ ⟨[],[],[],[],[],7⟩ true .p)) .p))) λ_=>by kernel_rfl,by kernel_rfl⟩
def c_329:Con te:=ae_ te [.d (.st 36)] [(.bool,[])] false λa=>nD_ a.1
theorem ok_329:OKF 329 c_329:=⟨aa_ ad_ ab_ Tryz.func329 (by kernel_rfl) (pl := .p) λ_=>by kernel_rfl,by kernel_rfl⟩
def c_223:Con te:=ae_ te [.d (.sl (.st 36))] [(.bool,[])] false λa=>iS_ a.1
theorem ok_223:OKF 223 c_223:=⟨aa_ ad_ (ac_ ok_329 ab_) Tryz.func223 (by kernel_rfl) (pl := .s .p (.s .p (.s (.s .p (.lp ⟨[(10,.d (.int .i64))],[],[0,8,9],[],[],7⟩ ⟨[],[],[],[],[],7⟩ true (.s .p (.s .p (.s (.s .p (.s (.dr [0,0,0,0,0,0,0,0,0,0,0,0,0,0,0,0,0,0] [] false []) .p)) .p))))) .p))) λ_=>by kernel_rfl,by kernel_rfl⟩
def c_144:Con te:=ae_ te [.d (.sl (.st 42))] [(.bool,[])] false λa=>je_ a.1
theorem ok_144:OKF 144 c_144:=⟨aa_ ad_ (ac_ ok_223 (ac_ ib_ ab_)) Tryz.func144 (by kernel_rfl) (pl := .s .p (.s .p (.s (.s .p (.lp ⟨[(10,.d (.int .i64))],[],[0,8,9],[],[],7⟩ ⟨[],[],[],[],[],7⟩ true .p)) .p))) λ_=>by kernel_rfl,by kernel_rfl⟩
def c_145:Con te:=ae_ te [.d (.sl (.st 42)),.f1 (.st 42) .bool] [(.int .i64,[])] false λa=>eD_ a.1 a.2.1
theorem ok_145:OKF 145 c_145:=⟨aa_ ad_ ab_ Tryz.func145 (by kernel_rfl) (pl := .s .p (.s (.s .p (.lp ⟨[(9,.d (.int .i64))],[],[1,7,8],[],[],4⟩ ⟨[],[],[],[],[],4⟩ true .p)) .p)) λ_=>by kernel_rfl,by kernel_rfl⟩
def c_147:Con te:=ae_ te [.d (.sl (.st 36)),.f1 (.st 36) .bool] [(.int .i64,[])] false λa=>di_ a.1 a.2.1
theorem ok_147:OKF 147 c_147:=⟨aa_ ad_ ab_ Tryz.func147 (by kernel_rfl) (pl := .s .p (.s (.s .p (.lp ⟨[(9,.d (.int .i64))],[],[1,7,8],[],[],4⟩ ⟨[],[],[],[],[],4⟩ true .p)) .p)) λ_=>by kernel_rfl,by kernel_rfl⟩
def c_148:Con te:=ae_ te [.d (.st 36)] [(.bool,[])] false λa=>fu_ a.1
theorem ok_148:OKF 148 c_148:=⟨aa_ ad_ ab_ Tryz.func148 (by kernel_rfl) (pl := .p) λ_=>by kernel_rfl,by kernel_rfl⟩
def c_146:Con te:=ae_ te [.d (.st 42)] [(.bool,[])] false λa=>h3_ a.1
theorem ok_146:OKF 146 c_146:=⟨aa_ ad_ (ac_ ok_148 (ac_ ok_147 ab_)) Tryz.func146 (by kernel_rfl) (pl := .p) λ_=>by kernel_rfl,by kernel_rfl⟩
def c_224:Con te:=ae_ te [.d (.sl (.st 39))] [(.bool,[])] false λa=>fy_ a.1
theorem ok_224:OKF 224 c_224:=⟨aa_ ad_ ab_ Tryz.func224 (by kernel_rfl) (pl := .s .p (.s .p (.s (.s .p (.lp ⟨[],[],[0,8,9,10],[],[],7⟩ ⟨[],[],[],[],[],7⟩ true .p)) .p))) λ_=>by kernel_rfl,by kernel_rfl⟩
def c_225:Con te:=ae_ te [.d (.int .i64),.d (.int .i64)] [(.str,[])] false λa=>kl_ a.1 a.2.1
theorem ok_225:OKF 225 c_225:=⟨aa_ ad_ (ac_ ok_7 ab_) Tryz.func225 (by kernel_rfl) (pl := .p) λ_=>by kernel_rfl,by kernel_rfl⟩
def c_149:Con te:=ae_ te [.d (.st 43),.d (.st 40)] [(.bool,[])] false λa=>gu_ a.1 a.2.1
theorem ok_149:OKF 149 c_149:=⟨aa_ ad_ (ac_ ok_225 (ac_ ok_148 (ac_ ok_147 (ac_ ok_224 (ac_ ok_223 ab_))))) Tryz.func149 (by kernel_rfl) (pl := .s .p (.s .p (.s .p (.s (.dr [0,0,0,0,0,0,0,0,0,0,0,0,0,0,0,0,0] [] false []) .p)))) λ_=>by kernel_rfl,by kernel_rfl⟩
def c_90:Con te:=ae_ te [.d (.st 35),.d (.st 43)] [(.bool,[])] false λa=>gv_ a.1 a.2.1
theorem ok_90:OKF 90 c_90:=⟨aa_ ad_ (ac_ ok_149 (ac_ ok_146 (ac_ ok_145 (ac_ ok_144 (ac_ ok_143 (ac_ ok_142 (ac_ ok_89 (ac_ ok_141 ab_)))))))) Tryz.func90 (by kernel_rfl) (pl := .s .p (.s .p (.s .p (.s .p (.s .p (.s (.s .p (.lp ⟨[(7,.d (.int .i64)),(73,.d (.int .i64))],[],[3,71,72],[2],[],36036⟩ ⟨[],[],[],[],[],36036⟩ true .p)) .p)))))) λ_=>by kernel_rfl,by kernel_rfl⟩
def c_150:Con te:=ae_ te [.d (.st 44)] [(.bool,[])] false λa=>nF_ a.1
theorem ok_150:OKF 150 c_150:=⟨aa_ ad_ ab_ Tryz.func150 (by kernel_rfl) (pl := .p) λ_=>by kernel_rfl,by kernel_rfl⟩
def c_151:Con te:=ae_ te [.d (.st 44)] [(.bool,[])] false λa=>ly_ a.1
theorem ok_151:OKF 151 c_151:=⟨aa_ ad_ ab_ Tryz.func151 (by kernel_rfl) (pl := .p) λ_=>by kernel_rfl,by kernel_rfl⟩
def c_227:Con te:=ae_ te [.d (.sl (.int .i64))] [(.bool,[])] false λa=>jf_ a.1
theorem ok_227:OKF 227 c_227:=⟨aa_ ad_ ab_ Tryz.func227 (by kernel_rfl) (pl := .s .p (.s .p (.s (.s .p (.lp ⟨[(10,.d (.int .i64))],[],[0,8,9],[],[],7⟩ ⟨[],[],[],[],[],7⟩ true .p)) .p))) λ_=>by kernel_rfl,by kernel_rfl⟩
def c_229:Con te:=ae_ te [.d .str,.d (.int .i64)] [(.sl (.st 39),[]),(.str,[]),(.int .i64,[])] true λa=>nG_ a.1 a.2.1
theorem ok_229:OKF 229 c_229:=⟨aa_ ad_ ab_ Tryz.func229 (by kernel_rfl) (pl := .s .p (.s .p (.j ⟨[(7,.d (.int .i64))],[],[0],[],[],5⟩ false .p (.s .p (.s (.lp ⟨[],[],[0,7,8],[],[],6⟩ ⟨[],[],[0,8],[],[],6⟩ true .p) .p))))) λ_=>by kernel_rfl,by kernel_rfl⟩
def c_152:Con te:=ae_ te [.d (.st 46)] [(.bool,[])] false λa=>rpc_Right a.1
theorem ok_152:OKF 152 c_152:=⟨aa_ ad_ (ac_ ok_229 (ac_ ok_227 ab_)) Tryz.func152 (by kernel_rfl) (pl := .s .p (.s .p (.s (.s .p (.lp ⟨[],[],[1,40,41],[0],[],24014⟩ ⟨[],[],[1],[0],[],24014⟩ true .p)) .p))) λ_=>by kernel_rfl,by kernel_rfl⟩
def c_230:Con te:=ae_ te [.d (.sl (.st 48))] [(.bool,[])] false λa=>cache_holds a.1
theorem ok_230:OKF 230 c_230:=⟨aa_ ad_ ab_ Tryz.func230 (by kernel_rfl) (pl := .s .p (.s (.s .p (.lp ⟨[(7,.d (.int .i64))],[],[0,5,6],[],[],4⟩ ⟨[],[],[0],[],[],4⟩ true (.s .p (.s .p (.s (.s .p (.s (.dr [0,0,0,0,0,0,0,0,0,0,0,0,0,0,0,0,0,0,0,0,0,0,0,0,0,0,0,0,0,0,0,0,0,0,0,0,0,0,0,0,0,0,0] [] false []) .p)) .p))))) .p)) λ_=>by kernel_rfl,by kernel_rfl⟩
def c_153:Con te:=ae_ te [.d (.st 49)] [(.bool,[])] false λa=>lz_ a.1
theorem ok_153:OKF 153 c_153:=⟨aa_ ad_ (ac_ ok_230 ab_) Tryz.func153 (by kernel_rfl) (pl := .s .p (.s .p (.s (.s .p (.lp ⟨[],[],[1,32,33,34],[0],[],16013⟩ ⟨[],[],[],[],[],16013⟩ true .p)) .p))) λ_=>by kernel_rfl,by kernel_rfl⟩
def c_103:Con te:=ae_ te [.d (.sl (.st 40)),.f1 (.st 40) .bool] [(.int .i64,[])] false λa=>aY_ a.1 a.2.1
theorem ok_103:OKF 103 c_103:=⟨aa_ ad_ ab_ Tryz.func103 (by kernel_rfl) (pl := .s .p (.s (.s .p (.lp ⟨[(8,.d (.int .i64))],[],[0,1,7],[],[],4⟩ ⟨[],[],[],[],[],4⟩ true .p)) .p)) λ_=>by kernel_rfl,by kernel_rfl⟩
def c_232:Con te:=ae_ te [.d (.st 40),.p (.st 50)] [(.bool,[])] false λa=>g3_ a.1 a.2.1
theorem ok_232:OKF 232 c_232:=⟨aa_ ad_ ab_ Tryz.func232 (by kernel_rfl) (pl := .p) λ_=>by kernel_rfl,by kernel_rfl⟩
def c_154:Con te:=ae_ te [.d (.st 43),.d (.st 50)] [(.bool,[])] false λa=>jg_ a.1 a.2.1
theorem ok_154:OKF 154 c_154:=⟨aa_ ad_ (ac_ ok_232 (ac_ ok_103 ab_)) Tryz.func154 (by kernel_rfl) (pl := .p) λ_=>by kernel_rfl,by kernel_rfl⟩
def c_91:Con te:=ae_ te [.d (.st 35),.d (.sl (.st 43)),.d (.st 50)] [(.bool,[])] false λa=>km_ a.1 a.2.1 a.2.2.1
theorem ok_91:OKF 91 c_91:=⟨aa_ ad_ (ac_ ok_154 (ac_ ok_153 (ac_ ok_152 (ac_ ok_151 (ac_ ok_150 (ac_ ok_90 ab_)))))) Tryz.func91 (by kernel_rfl) (pl := .s .p (.s (.s .p (.lp ⟨[(11,.d (.int .i64))],[],[1,3,5,9,10],[0,2],[],8⟩ ⟨[],[],[1,5],[2],[],8⟩ true .p)) (.s .p (.s .p (.s .p (.s (.s .p (.s (.s (.dr [0,0,0,0,0,0,0,0,0,0,0,0,0] [] false []) .p) .p)) .p)))))) λ_=>by kernel_rfl,by kernel_rfl⟩
def c_92:Con te:=ae_ te [.d (.sl (.st 50)),.d (.st 50)] [(.bool,[])] false λa=>h4_ a.1 a.2.1
theorem ok_92:OKF 92 c_92:=⟨aa_ ad_ ab_ Tryz.func92 (by kernel_rfl) (pl := .s .p (.s (.s .p (.lp ⟨[(9,.d (.int .i64))],[],[3,7,8],[0],[],6⟩ ⟨[],[],[],[],[],6⟩ true .p)) .p)) λ_=>by kernel_rfl,by kernel_rfl⟩
def c_50:Con te:=ae_ te [.d (.st 59)] [(.bool,[])] false λa=>jh_ a.1
theorem ok_50:OKF 50 c_50:=⟨aa_ ad_ (ac_ ok_92 (ac_ ok_91 (ac_ ok_90 (ac_ ok_89 ab_)))) Tryz.func50 (by kernel_rfl) (pl := .s .p (.s .p (.s (.s .p (.lp ⟨[(30,.d (.int .i64))],[],[1,28,29],[0],[],10013⟩ ⟨[],[],[1],[0],[],10013⟩ true (.s .p (.s .p (.s (.s .p (.s .p (.s .p (.lp ⟨[(45,.d (.int .i64))],[],[1,4,28,29,30,43,44],[0,10017],[],10033⟩ ⟨[],[],[1,28,29,30],[0],[],10033⟩ true .p)))) .p))))) (.s (.s .p (.lp ⟨[(59,.d (.int .i64))],[],[1,57,58],[0],[],10017⟩ ⟨[],[],[1],[0],[],10017⟩ true (.s .p (.s .p (.s (.s .p (.s (.dr [0,0,0,0,0,0,0,0,0,0,0,0,0,0,0] [] false []) .p)) .p))))) (.s (.s .p (.lp ⟨[(84,.d (.int .i64))],[],[1,82,83],[0],[],10022⟩ ⟨[],[],[],[],[],10022⟩ true .p)) .p))))) λ_=>by kernel_rfl,by kernel_rfl⟩
def c_155:Con te:=ae_ te [.d (.st 51)] [(.bool,[])] false λa=>fa_ a.1
theorem ok_155:OKF 155 c_155:=⟨aa_ ad_ ab_ Tryz.func155 (by kernel_rfl) (pl := .p) λ_=>by kernel_rfl,by kernel_rfl⟩
def c_233:Con te:=ae_ te [.d (.sl (.st 53)),.f1 (.st 53) .bool] [(.int .i64,[])] false λa=>bZ_ a.1 a.2.1
theorem ok_233:OKF 233 c_233:=⟨aa_ ad_ ab_ Tryz.func233 (by kernel_rfl) (pl := .s .p (.s (.s .p (.lp ⟨[(8,.d (.int .i64))],[],[0,1,7],[],[],4⟩ ⟨[],[],[],[],[],4⟩ true .p)) .p)) λ_=>by kernel_rfl,by kernel_rfl⟩
def c_235:Con te:=ae_ te [.d (.st 51),.d (.st 51)] [(.bool,[])] false λa=>iU_ a.1 a.2.1
theorem ok_235:OKF 235 c_235:=⟨aa_ ad_ ab_ Tryz.func235 (by kernel_rfl) (pl := .p) λ_=>by kernel_rfl,by kernel_rfl⟩
def c_234:Con te:=ae_ te [.d (.st 53),.p (.st 51)] [(.bool,[])] false λa=>kn_ a.1 a.2.1
theorem ok_234:OKF 234 c_234:=⟨aa_ ad_ (ac_ ok_235 ab_) Tryz.func234 (by kernel_rfl) (pl := .p) λ_=>by kernel_rfl,by kernel_rfl⟩
def c_156:Con te:=ae_ te [.d (.st 54),.d (.st 51)] [(.int .i64,[])] false λa=>nI_ a.1 a.2.1
theorem ok_156:OKF 156 c_156:=⟨aa_ ad_ (ac_ ok_234 (ac_ ok_233 ab_)) Tryz.func156 (by kernel_rfl) (pl := .p) λ_=>by kernel_rfl,by kernel_rfl⟩
def c_236:Con te:=ae_ te [.d (.sl (.st 52)),.f1 (.st 52) .bool] [(.int .i64,[])] false λa=>bG_ a.1 a.2.1
theorem ok_236:OKF 236 c_236:=⟨aa_ ad_ ab_ Tryz.func236 (by kernel_rfl) (pl := .s .p (.s (.s .p (.lp ⟨[(8,.d (.int .i64))],[],[0,1,7],[],[],4⟩ ⟨[],[],[],[],[],4⟩ true .p)) .p)) λ_=>by kernel_rfl,by kernel_rfl⟩
def c_237:Con te:=ae_ te [.d (.st 52),.p (.st 51)] [(.bool,[])] false λa=>g4_ a.1 a.2.1
theorem ok_237:OKF 237 c_237:=⟨aa_ ad_ (ac_ ok_235 ab_) Tryz.func237 (by kernel_rfl) (pl := .p) λ_=>by kernel_rfl,by kernel_rfl⟩
def c_157:Con te:=ae_ te [.d (.sl (.st 52)),.d (.st 51)] [(.int .i64,[])] false λa=>ji_ a.1 a.2.1
theorem ok_157:OKF 157 c_157:=⟨aa_ ad_ (ac_ ok_237 (ac_ ok_236 ab_)) Tryz.func157 (by kernel_rfl) (pl := .p) λ_=>by kernel_rfl,by kernel_rfl⟩
def c_93:Con te:=ae_ te [.d (.st 54)] [(.bool,[])] false λa=>lA_ a.1
theorem ok_93:OKF 93 c_93:=⟨aa_ ad_ (ac_ ok_157 (ac_ ok_156 (ac_ ok_155 ab_))) Tryz.func93 (by kernel_rfl) (pl := .s .p (.s .p (.s (.s .p (.lp ⟨[(30,.d (.int .i64))],[],[1,28,29],[0],[],14013⟩ ⟨[],[],[],[],[],14013⟩ true (.s .p (.s .p (.s (.s .p (.s .p (.s .p (.lp ⟨[(62,.d (.int .i64))],[],[1,4,28,29,30,60,61],[0,14017],[],31033⟩ ⟨[],[],[1,28,29,30],[0],[],31033⟩ true .p)))) .p))))) .p))) λ_=>by kernel_rfl,by kernel_rfl⟩
def c_94:Con te:=ae_ te [.d (.st 56)] [(.bool,[])] false λa=>fds_Right a.1
theorem ok_94:OKF 94 c_94:=⟨aa_ ad_ ab_ Tryz.func94 (by kernel_rfl) (pl := .s .p (.s .p (.s (.s .p (.lp ⟨[(18,.d (.int .i64))],[],[1,16,17],[0],[],4011⟩ ⟨[],[],[],[],[],4011⟩ true (.s .p (.s .p (.s (.s .p (.s (.s (.dr [0,0,0,0,0,0,0,0,0,0,0,0,0,0,0,0,0,0,0,0,0,0,0,0,0,0,0,0,0,0,0,0,0,0,0,0,0,0,0,0] [] false []) .p) (.s .p (.s .p (.lp ⟨[(86,.d (.int .i64))],[],[1,4,16,17,18,84,85],[0,4015],[],48040⟩ ⟨[],[],[1,16,17,18],[0],[],48040⟩ true .p))))) .p))))) .p))) λ_=>by kernel_rfl,by kernel_rfl⟩
theorem e_95(a:PA te [.d (.sl (.sl (.int .i64)))]):cK_ a.1=evFun Tryz.prog te eqL (ti 159 (inlF Tryz.prog te eqL tnil Tryz.f159 (.s .p (.j ⟨[],[],[0,1],[],[],7⟩ false .p (.j ⟨[(0,.one (.own 7))],[(7,false,.row 3 (.int .i64) [])],[],[],[],8⟩ false .p .p)))) tnil) Tryz.f95 [.d (.sl (.sl (.int .i64)))] [(.sl (.int .i64),[some 3])] (.s .p (.s .p (.s (.s .p (.lp ⟨[(3,.d (.int .i64)),(11,.d (.int .i64))],[],[0,9,10],[],[],5⟩ ⟨[(3,.d (.int .i64))],[],[0],[],[],5⟩ false (.s .p (.s .p (.j ⟨[(3,.d (.int .i64))],[],[0,9,10,11],[],[],6⟩ false .p .p))))) (.j ⟨[(6,.one (.own 5))],[(5,false,.row 3 (.int .i64) [])],[0],[],[],6⟩ false .p (.s (.s .p (.lp ⟨[(6,.one (.own 9)),(27,.d (.int .i64))],[(9,false,.row 3 (.int .i64) [])],[25,26],[],[],10⟩ ⟨[(6,.one (.own 9))],[(9,false,.row 3 (.int .i64) [])],[],[],[],10⟩ false .p)) .p))))) a:=by kernel_rfl
def c_95:Con te:=ae_ te [.d (.sl (.sl (.int .i64)))] [(.sl (.int .i64),[some 3])] false λa=>cK_ a.1
theorem ok_95:OKF 95 c_95:=⟨aa_ ad_ (c5_ ⟨hR_ ad_ ab_ Tryz.func159,by kernel_rfl⟩ ab_) Tryz.func95 (by kernel_rfl) e_95,by kernel_rfl⟩
def c_163:Con te:=ae_ te [.d (.sl (.int .i64)),.d (.int .i64)] [(.int .i64,[])] false λa=>eE_ a.1 a.2.1
theorem ok_163:OKF 163 c_163:=⟨aa_ ad_ ab_ Tryz.func163 (by kernel_rfl) (pl := .s .p (.s (.s .p (.lp ⟨[(8,.d (.int .i64))],[],[0,1,7],[],[],4⟩ ⟨[],[],[],[],[],4⟩ true .p)) .p)) λ_=>by kernel_rfl,by kernel_rfl⟩
def c_97:Con te:=ae_ te [.d (.sl (.int .i64)),.d (.int .i64)] [(.bool,[])] false λa=>aT_ a.1 a.2.1
theorem ok_97:OKF 97 c_97:=⟨aa_ ad_ (ac_ ok_163 ab_) Tryz.func97 (by kernel_rfl) (pl := .p) λ_=>by kernel_rfl,by kernel_rfl⟩
def c_98:Con te:=ae_ te [.d (.sl (.int .i64))] [(.bool,[])] false λa=>c6_ a.1
theorem ok_98:OKF 98 c_98:=⟨aa_ ad_ (ac_ ok_97 ab_) Tryz.func98 (by kernel_rfl) (pl := .s .p (.s (.s .p (.lp ⟨[(7,.d (.int .i64))],[],[0,5,6],[],[],4⟩ ⟨[],[],[],[],[],4⟩ true .p)) .p)) λ_=>by kernel_rfl,by kernel_rfl⟩
def c_51:Con te:=ae_ te [.d (.st 59)] [(.bool,[])] false λa=>jj_ a.1
theorem ok_51:OKF 51 c_51:=⟨aa_ ad_ (ac_ ok_98 (ac_ ok_97 (ac_ ok_96 (ac_ ok_95 (ac_ ok_94 (ac_ ok_93 ab_)))))) Tryz.func51 (by kernel_rfl) (pl := .s .p (.s .p (.s (.s .p (.lp ⟨[(3,.one (.own 10)),(21,.d (.int .i64))],[(10,false,.row 3 (.int .i64) [])],[1,4,5,19,20],[0],[],11⟩ ⟨[(3,.one (.own 10))],[(10,false,.row 3 (.int .i64) [])],[1,4,5],[0],[],11⟩ true .p)) (.s (.s .p (.lp ⟨[(4,.one (.own 15)),(37,.d (.int .i64))],[(15,false,.row 3 (.int .i64) [])],[1,3,5,35,36],[0,10],[],16⟩ ⟨[(4,.one (.own 15))],[(15,false,.row 3 (.int .i64) [])],[1,3,5],[0,10],[],16⟩ true .p)) (.s (.s .p (.lp ⟨[(5,.one (.own 21)),(54,.d (.int .i64))],[(21,false,.row 3 (.int .i64) [])],[1,3,4,52,53],[0,10,15],[],22⟩ ⟨[(5,.one (.own 21))],[(21,false,.row 3 (.int .i64) [])],[1,3,4],[0,10,15],[],22⟩ false .p)) (.s (.s .p (.lp ⟨[(70,.d (.int .i64))],[(30,true,.row 3 (.int .i64) [])],[1,3,4,5,68,69],[0,10,15,21],[],34⟩ ⟨[],[],[1,3,4,5],[0,10,15,21],[],34⟩ true .p)) (.s (.s .p (.lp ⟨[(86,.d (.int .i64))],[],[3,4,5,84,85],[10,15,21],[],40⟩ ⟨[],[],[3,4],[10,15],[],40⟩ true (.s .p (.s .p (.j ⟨[],[],[3,4,5,84,85,86],[10,15,21],[],41⟩ true .p .p))))) .p))))))) λ_=>by kernel_rfl,by kernel_rfl⟩
def c_52:Con te:=ae_ te [.d (.sl (.st 58)),.d (.int .i64)] [(.bool,[])] false λa=>lB_ a.1 a.2.1
theorem ok_52:OKF 52 c_52:=⟨aa_ ad_ (ac_ ok_98 ab_) Tryz.func52 (by kernel_rfl) (pl := .s .p (.s .p (.s (.s .p (.lp ⟨[(5,.one (.own 5)),(10,.d (.int .i64))],[(5,false,.row 3 (.int .i64) [])],[0,1,8,9],[],[],6⟩ ⟨[(5,.one (.own 5))],[(5,false,.row 3 (.int .i64) [])],[0],[],[],6⟩ true .p)) .p))) λ_=>by kernel_rfl,by kernel_rfl⟩
def c_53:Con te:=ae_ te [.d (.sl (.st 57))] [(.bool,[])] false λa=>gw_ a.1
theorem ok_53:OKF 53 c_53:=⟨aa_ ad_ ab_ Tryz.func53 (by kernel_rfl) (pl := .s .p (.s .p (.s (.s .p (.lp ⟨[],[],[0,6,7,8],[],[],5⟩ ⟨[],[],[0],[],[],5⟩ false (.s .p (.s .p (.s (.s (.ot 0 .nil) .p) .p))))) .p))) λ_=>by kernel_rfl,by kernel_rfl⟩
def c_27:Con te:=ae_ te [.d (.st 59)] [(.bool,[])] false λa=>kp_ a.1
theorem ok_27:OKF 27 c_27:=⟨aa_ ad_ (ac_ ok_53 (ac_ ok_52 (ac_ ok_51 (ac_ ok_50 ab_)))) Tryz.func27 (by kernel_rfl) (pl := .p) λ_=>by kernel_rfl,by kernel_rfl⟩
def c_54:Con te:=ae_ te [.d (.sl (.st 2)),.d (.st 4)] [(.sl .str,[])] true λa=>iV_ a.1 a.2.1
theorem ok_54:OKF 54 c_54:=⟨aa_ ad_ ab_ Tryz.func54 (by kernel_rfl) (pl := .s .p (.s .p (.s (.s .p (.lp ⟨[],[],[3,5,10,11,12],[0],[],7⟩ ⟨[],[],[5],[],[],7⟩ false (.s .p (.s .p (.j ⟨[],[],[],[],[],8⟩ false .p .p))))) .p))) λ_=>by kernel_rfl,by kernel_rfl⟩
def c_101:Con te:=ae_ te [.d (.sl .str),.d .str] [(.int .i64,[])] false λa=>c7_ a.1 a.2.1
theorem ok_101:OKF 101 c_101:=⟨aa_ ad_ ab_ Tryz.func101 (by kernel_rfl) (pl := .s .p (.s (.s .p (.lp ⟨[(8,.d (.int .i64))],[],[0,1,7],[],[],4⟩ ⟨[],[],[],[],[],4⟩ true .p)) .p)) λ_=>by kernel_rfl,by kernel_rfl⟩
def c_55:Con te:=ae_ te [.d (.sl .str),.d .str] [(.bool,[])] false λa=>bm_ a.1 a.2.1
theorem ok_55:OKF 55 c_55:=⟨aa_ ad_ (ac_ ok_101 ab_) Tryz.func55 (by kernel_rfl) (pl := .p) λ_=>by kernel_rfl,by kernel_rfl⟩
def c_28:Con te:=ae_ te [.d (.st 59)] [(.sl (.st 0),[some 23])] false λa=>g5_ a.1
theorem ok_28:OKF 28 c_28:=⟨aa_ ad_ (ac_ ok_55 (ac_ ok_54 ab_)) Tryz.func28 (by kernel_rfl) (pl := .s .p (.s .p (.s (.s .p (.lp ⟨[(3,.one (.own 9)),(14,.d (.int .i64))],[(9,false,.row 23 (.st 0) [])],[12,13],[],[],10⟩ ⟨[(3,.one (.own 9))],[(9,false,.row 23 (.st 0) [])],[],[],[],10⟩ false (.s .p (.s .p (.j ⟨[(3,.one (.own 11))],[(11,false,.row 23 (.st 0) [])],[12,13,14],[],[],12⟩ false (.s .p (.s .p (.s .p (.s .p (.s .p (.lp ⟨[(3,.one (.own 41)),(38,.d (.int .i64))],[(41,false,.row 23 (.st 0) [])],[4,7,12,13,14,36,37],[],[],42⟩ ⟨[(3,.one (.own 41))],[(41,false,.row 23 (.st 0) [])],[12,13,14],[],[],42⟩ false (.s .p (.s .p (.j ⟨[(3,.one (.own 43))],[(43,false,.row 23 (.st 0) [])],[4,7,12,13,14,36,37,38],[],[],44⟩ false .p .p))))))))) .p))))) .p))) λ_=>by kernel_rfl,by kernel_rfl⟩
def c_102:Con te:=ae_ te [.d (.sl (.st 41)),.f1 (.st 41) .bool] [(.int .i64,[])] false λa=>b0_ a.1 a.2.1
theorem ok_102:OKF 102 c_102:=⟨aa_ ad_ ab_ Tryz.func102 (by kernel_rfl) (pl := .s .p (.s (.s .p (.lp ⟨[(8,.d (.int .i64))],[],[0,1,7],[],[],4⟩ ⟨[],[],[],[],[],4⟩ true .p)) .p)) λ_=>by kernel_rfl,by kernel_rfl⟩
def c_56:Con te:=ae_ te [.d (.sl (.st 41)),.f1 (.st 41) .bool] [(.bool,[])] false λa=>bz_ a.1 a.2.1
theorem ok_56:OKF 56 c_56:=⟨aa_ ad_ (ac_ ok_102 ab_) Tryz.func56 (by kernel_rfl) (pl := .p) λ_=>by kernel_rfl,by kernel_rfl⟩
def c_57:Con te:=ae_ te [.d (.st 41),.p (.st 41),.p (.st 59)] [(.bool,[])] false λa=>g6_ a.1 a.2.1 a.2.2.1
theorem ok_57:OKF 57 c_57:=⟨aa_ ad_ ab_ Tryz.func57 (by kernel_rfl) (pl := .p) λ_=>by kernel_rfl,by kernel_rfl⟩
def c_29:Con te:=ae_ te [.d (.st 59)] [(.sl (.st 0),[some 23])] false λa=>jk_ a.1
theorem ok_29:OKF 29 c_29:=⟨aa_ ad_ (ac_ ok_57 (ac_ ok_56 ab_)) Tryz.func29 (by kernel_rfl) (pl := .s .p (.s .p (.s (.s .p (.lp ⟨[(3,.one (.own 8)),(11,.d (.int .i64))],[(8,false,.row 23 (.st 0) [])],[1,9,10],[0],[],9⟩ ⟨[(3,.one (.own 8))],[(8,false,.row 23 (.st 0) [])],[],[],[],9⟩ false (.s .p (.s .p (.s (.s .p (.s .p (.lp ⟨[(3,.one (.own 22)),(19,.d (.int .i64))],[(22,false,.row 23 (.st 0) [])],[1,4,5,9,10,11,17,18],[0,13],[],23⟩ ⟨[(3,.one (.own 22))],[(22,false,.row 23 (.st 0) [])],[1,9,10,11],[0],[],23⟩ false (.s .p (.s .p (.j ⟨[(3,.one (.own 24))],[(24,false,.row 23 (.st 0) [])],[1,4,5,9,10,11,17,18,19],[0,13],[],25⟩ false .p .p)))))) .p))))) .p))) λ_=>by kernel_rfl,by kernel_rfl⟩
def c_59:Con te:=ae_ te [.d (.st 59),.d (.st 50)] [(.st 43,[]),(.bool,[])] true λa=>gx_ a.1 a.2.1
theorem ok_59:OKF 59 c_59:=⟨aa_ ad_ ab_ Tryz.func59 (by kernel_rfl) (pl := .p) λ_=>by kernel_rfl,by kernel_rfl⟩
def c_60:Con te:=ae_ te [.d (.sl (.st 40)),.f1 (.st 40) .bool] [(.bool,[])] false λa=>bO_ a.1 a.2.1
theorem ok_60:OKF 60 c_60:=⟨aa_ ad_ (ac_ ok_103 ab_) Tryz.func60 (by kernel_rfl) (pl := .p) λ_=>by kernel_rfl,by kernel_rfl⟩
def c_61:Con te:=ae_ te [.d (.st 40),.p (.st 50)] [(.bool,[])] false λa=>gy_ a.1 a.2.1
theorem ok_61:OKF 61 c_61:=⟨aa_ ad_ ab_ Tryz.func61 (by kernel_rfl) (pl := .p) λ_=>by kernel_rfl,by kernel_rfl⟩
def c_30:Con te:=ae_ te [.d (.st 59)] [(.sl (.st 0),[some 23])] false λa=>h5_ a.1
theorem ok_30:OKF 30 c_30:=⟨aa_ ad_ (ac_ ok_61 (ac_ ok_60 (ac_ ok_59 ab_))) Tryz.func30 (by kernel_rfl) (pl := .s .p (.s .p (.s .p (.s (.s .p (.lp ⟨[(3,.one (.own 12)),(17,.d (.int .i64))],[(12,false,.row 23 (.st 0) [])],[1,4,15,16],[0],[],13⟩ ⟨[(3,.one (.own 12))],[(12,false,.row 23 (.st 0) [])],[],[],[],13⟩ false (.s .p (.s .p (.j ⟨[(3,.one (.own 14))],[(14,false,.row 23 (.st 0) [])],[1,4,15,16,17],[0],[],15⟩ false (.s .p (.s .p (.s .p (.s .p (.lp ⟨[(3,.one (.own 6041)),(41,.d (.int .i64))],[(6041,false,.row 23 (.st 0) [])],[1,4,5,6,7,15,16,17,39,40],[0,17,28],[],6042⟩ ⟨[(3,.one (.own 6041))],[(6041,false,.row 23 (.st 0) [])],[1,4,15,16,17],[0],[],6042⟩ false (.s .p (.s .p (.j ⟨[(3,.one (.own 6043))],[(6043,false,.row 23 (.st 0) [])],[1,4,5,6,7,15,16,17,39,40,41],[0,17,28],[],6044⟩ false .p .p)))))))) .p))))) .p)))) λ_=>by kernel_rfl,by kernel_rfl⟩
def c_31:Con te:=ae_ te [.d (.st 59)] [(.sl (.st 0),[])] true λa=>h6_ a.1
theorem ok_31:OKF 31 c_31:=⟨aa_ ad_ (ac_ ok_59 ab_) Tryz.func31 (by kernel_rfl) (pl := .s .p (.s .p (.s (.s .p (.lp ⟨[(13,.d (.int .i64))],[],[1,3,11,12],[0],[],8⟩ ⟨[],[],[3],[],[],8⟩ false (.s .p (.s .p (.j ⟨[],[],[1,3,11,12,13],[0],[],9⟩ false (.s .p (.s .p (.s .p (.s .p (.lp ⟨[],[],[1,3,4,5,6,11,12,13,53,54,55],[0,12,23],[],22038⟩ ⟨[],[],[1,3,11,12,13],[0],[],22038⟩ false (.s .p (.s .p (.j ⟨[],[],[],[],[],22039⟩ false (.s .p (.s (.dr [0,0,0,0,0,0,0,0,0,0,0,0,0,0,0,0,0,0,0,0,0,0] [] false []) .p)) .p)))))))) .p))))) .p))) λ_=>by kernel_rfl,by kernel_rfl⟩
def c_32:Con te:=ae_ te [.d (.st 59)] [(.sl (.st 0),[])] true λa=>gz_ a.1
theorem ok_32:OKF 32 c_32:=⟨aa_ ad_ ab_ Tryz.func32 (by kernel_rfl) (pl := .s .p (.s .p (.s (.s .p (.lp ⟨[(14,.d (.int .i64))],[],[3,12,13],[],[],9⟩ ⟨[],[],[3],[],[],9⟩ false (.s .p (.s .p (.j ⟨[],[],[3,12,13,14],[],[],10⟩ false (.s .p (.s .p (.s .p (.lp ⟨[],[],[3,4,5,12,13,14,24,25,26],[13],[],26⟩ ⟨[],[],[3,12,13,14],[],[],26⟩ false (.s .p (.s .p (.j ⟨[],[],[],[],[],27⟩ false .p .p))))))) .p))))) .p))) λ_=>by kernel_rfl,by kernel_rfl⟩
def c_10:Con te:=ae_ te [.d (.st 59)] [(.sl (.st 0),[some 23])] false λa=>cL_ a.1
theorem ok_10:OKF 10 c_10:=⟨aa_ ad_ (ac_ ok_32 (ac_ ok_31 (ac_ ok_30 (ac_ ok_29 (ac_ ok_28 (ac_ ok_27 ab_)))))) Tryz.func10 (by kernel_rfl) (pl := .p) λ_=>by kernel_rfl,by kernel_rfl⟩
def c_11:Con te:=ae_ te [.d (.st 59)] [(.bool,[])] false λa=>dL_ a.1
theorem ok_11:OKF 11 c_11:=⟨aa_ ad_ (ac_ ok_10 ab_) Tryz.func11 (by kernel_rfl) (pl := .p) λ_=>by kernel_rfl,by kernel_rfl⟩
def c_67:Con te:=ae_ te [.d (.sl (.st 0)),.f1 (.st 0) .bool] [(.int .i64,[])] false λa=>bn_ a.1 a.2.1
theorem ok_67:OKF 67 c_67:=⟨aa_ ad_ ab_ Tryz.func67 (by kernel_rfl) (pl := .s .p (.s (.s .p (.lp ⟨[(8,.d (.int .i64))],[],[0,1,7],[],[],4⟩ ⟨[],[],[],[],[],4⟩ true .p)) .p)) λ_=>by kernel_rfl,by kernel_rfl⟩
def c_33:Con te:=ae_ te [.d (.sl (.st 0)),.f1 (.st 0) .bool] [(.bool,[])] false λa=>be_ a.1 a.2.1
theorem ok_33:OKF 33 c_33:=⟨aa_ ad_ (ac_ ok_67 ab_) Tryz.func33 (by kernel_rfl) (pl := .p) λ_=>by kernel_rfl,by kernel_rfl⟩
def c_34:Con te:=ae_ te [.d (.st 0)] [(.bool,[])] false λa=>gA_ a.1
theorem ok_34:OKF 34 c_34:=⟨aa_ ad_ ab_ Tryz.func34 (by kernel_rfl) (pl := .p) λ_=>by kernel_rfl,by kernel_rfl⟩
def c_12:Con te:=ae_ te [.d (.st 59)] [(.bool,[])] false λa=>cC_ a.1
theorem ok_12:OKF 12 c_12:=⟨aa_ ad_ (ac_ ok_34 (ac_ ok_33 (ac_ ok_10 ab_))) Tryz.func12 (by kernel_rfl) (pl := .p) λ_=>by kernel_rfl,by kernel_rfl⟩
def c_6:Con te:=ae_ te [] [(.bool,[])] false λ_=>dM_
theorem ok_6:OKF 6 c_6:=⟨aa_ ad_ (ac_ ok_4 (ac_ ok_12 (ac_ ok_11 (ac_ ok_10 (ac_ ok_9 ab_))))) Tryz.func6 (by kernel_rfl) (pl := .s .p (.s .p (.s .p (.s .p (.s .p (.s .p (.s (.ot 0 (.alt 0 (.alt 1 (.alt 2 (.free 3 (.free 4 (.spl 4 (.alt 5 (.alt 6 (.alt 7 (.free 8 (.spl 8 (.alt 9 (.alt 10 (.alt 11 (.free 12 (.spl 12 (.free 13 (.alt 14 (.free 15 (.alt 16 (.free 17 (.spl 17 (.free 18 (.alt 19 (.free 20 (.alt 21 (.free 22 (.alt 23 (.free 24 (.spl 24 (.alt 25 (.alt 26 (.free 27 (.alt 28 (.free 29 (.spl 29 (.alt 30 (.alt 31 (.free 32 (.alt 33 (.free 34 (.spl 34 (.free 35 (.alt 36 (.free 37 (.alt 38 (.free 39 (.spl 39 (.free 40 (.alt 41 (.free 42 (.alt 43 (.free 44 .nil) .nil)) .nil)) (.free 40 (.alt 41 (.free 42 (.alt 43 (.free 44 .nil) .nil)) .nil)))) .nil)) .nil)) (.free 35 (.alt 36 (.free 37 (.alt 38 (.free 39 (.spl 39 (.free 40 (.alt 41 (.free 42 (.alt 43 (.free 44 .nil) .nil)) .nil)) (.free 40 (.alt 41 (.free 42 (.alt 43 (.free 44 .nil) .nil)) .nil)))) .nil)) .nil)))) .nil)) .nil) .nil) (.alt 30 (.alt 31 (.free 32 (.alt 33 (.free 34 (.spl 34 (.free 35 (.alt 36 (.free 37 (.alt 38 (.free 39 (.spl 39 (.free 40 (.alt 41 (.free 42 (.alt 43 (.free 44 .nil) .nil)) .nil)) (.free 40 (.alt 41 (.free 42 (.alt 43 (.free 44 .nil) .nil)) .nil)))) .nil)) .nil)) (.free 35 (.alt 36 (.free 37 (.alt 38 (.free 39 (.spl 39 (.free 40 (.alt 41 (.free 42 (.alt 43 (.free 44 .nil) .nil)) .nil)) (.free 40 (.alt 41 (.free 42 (.alt 43 (.free 44 .nil) .nil)) .nil)))) .nil)) .nil)))) .nil)) .nil) .nil))) .nil)) .nil) .nil) (.alt 25 (.alt 26 (.free 27 (.alt 28 (.free 29 (.spl 29 (.alt 30 (.alt 31 (.free 32 (.alt 33 (.free 34 (.spl 34 (.free 35 (.alt 36 (.free 37 (.alt 38 (.free 39 (.spl 39 (.free 40 (.alt 41 (.free 42 (.alt 43 (.free 44 .nil) .nil)) .nil)) (.free 40 (.alt 41 (.free 42 (.alt 43 (.free 44 .nil) .nil)) .nil)))) .nil)) .nil)) (.free 35 (.alt 36 (.free 37 (.alt 38 (.free 39 (.spl 39 (.free 40 (.alt 41 (.free 42 (.alt 43 (.free 44 .nil) .nil)) .nil)) (.free 40 (.alt 41 (.free 42 (.alt 43 (.free 44 .nil) .nil)) .nil)))) .nil)) .nil)))) .nil)) .nil) .nil) (.alt 30 (.alt 31 (.free 32 (.alt 33 (.free 34 (.spl 34 (.free 35 (.alt 36 (.free 37 (.alt 38 (.free 39 (.spl 39 (.free 40 (.alt 41 (.free 42 (.alt 43 (.free 44 .nil) .nil)) .nil)) (.free 40 (.alt 41 (.free 42 (.alt 43 (.free 44 .nil) .nil)) .nil)))) .nil)) .nil)) (.free 35 (.alt 36 (.free 37 (.alt 38 (.free 39 (.spl 39 (.free 40 (.alt 41 (.free 42 (.alt 43 (.free 44 .nil) .nil)) .nil)) (.free 40 (.alt 41 (.free 42 (.alt 43 (.free 44 .nil) .nil)) .nil)))) .nil)) .nil)))) .nil)) .nil) .nil))) .nil)) .nil) .nil))) .nil)) .nil)) .nil)) (.free 18 (.alt 19 (.free 20 (.alt 21 (.free 22 (.alt 23 (.free 24 (.spl 24 (.alt 25 (.alt 26 (.free 27 (.alt 28 (.free 29 (.spl 29 (.alt 30 (.alt 31 (.free 32 (.alt 33 (.free 34 (.spl 34 (.free 35 (.alt 36 (.free 37 (.alt 38 (.free 39 (.spl 39 (.free 40 (.alt 41 (.free 42 (.alt 43 (.free 44 .nil) .nil)) .nil)) (.free 40 (.alt 41 (.free 42 (.alt 43 (.free 44 .nil) .nil)) .nil)))) .nil)) .nil)) (.free 35 (.alt 36 (.free 37 (.alt 38 (.free 39 (.spl 39 (.free 40 (.alt 41 (.free 42 (.alt 43 (.free 44 .nil) .nil)) .nil)) (.free 40 (.alt 41 (.free 42 (.alt 43 (.free 44 .nil) .nil)) .nil)))) .nil)) .nil)))) .nil)) .nil) .nil) (.alt 30 (.alt 31 (.free 32 (.alt 33 (.free 34 (.spl 34 (.free 35 (.alt 36 (.free 37 (.alt 38 (.free 39 (.spl 39 (.free 40 (.alt 41 (.free 42 (.alt 43 (.free 44 .nil) .nil)) .nil)) (.free 40 (.alt 41 (.free 42 (.alt 43 (.free 44 .nil) .nil)) .nil)))) .nil)) .nil)) (.free 35 (.alt 36 (.free 37 (.alt 38 (.free 39 (.spl 39 (.free 40 (.alt 41 (.free 42 (.alt 43 (.free 44 .nil) .nil)) .nil)) (.free 40 (.alt 41 (.free 42 (.alt 43 (.free 44 .nil) .nil)) .nil)))) .nil)) .nil)))) .nil)) .nil) .nil))) .nil)) .nil) .nil) (.alt 25 (.alt 26 (.free 27 (.alt 28 (.free 29 (.spl 29 (.alt 30 (.alt 31 (.free 32 (.alt 33 (.free 34 (.spl 34 (.free 35 (.alt 36 (.free 37 (.alt 38 (.free 39 (.spl 39 (.free 40 (.alt 41 (.free 42 (.alt 43 (.free 44 .nil) .nil)) .nil)) (.free 40 (.alt 41 (.free 42 (.alt 43 (.free 44 .nil) .nil)) .nil)))) .nil)) .nil)) (.free 35 (.alt 36 (.free 37 (.alt 38 (.free 39 (.spl 39 (.free 40 (.alt 41 (.free 42 (.alt 43 (.free 44 .nil) .nil)) .nil)) (.free 40 (.alt 41 (.free 42 (.alt 43 (.free 44 .nil) .nil)) .nil)))) .nil)) .nil)))) .nil)) .nil) .nil) (.alt 30 (.alt 31 (.free 32 (.alt 33 (.free 34 (.spl 34 (.free 35 (.alt 36 (.free 37 (.alt 38 (.free 39 (.spl 39 (.free 40 (.alt 41 (.free 42 (.alt 43 (.free 44 .nil) .nil)) .nil)) (.free 40 (.alt 41 (.free 42 (.alt 43 (.free 44 .nil) .nil)) .nil)))) .nil)) .nil)) (.free 35 (.alt 36 (.free 37 (.alt 38 (.free 39 (.spl 39 (.free 40 (.alt 41 (.free 42 (.alt 43 (.free 44 .nil) .nil)) .nil)) (.free 40 (.alt 41 (.free 42 (.alt 43 (.free 44 .nil) .nil)) .nil)))) .nil)) .nil)))) .nil)) .nil) .nil))) .nil)) .nil) .nil))) .nil)) .nil)) .nil)))) .nil)) .nil)) (.free 13 (.alt 14 (.free 15 (.alt 16 (.free 17 (.spl 17 (.free 18 (.alt 19 (.free 20 (.alt 21 (.free 22 (.alt 23 (.free 24 (.spl 24 (.alt 25 (.alt 26 (.free 27 (.alt 28 (.free 29 (.spl 29 (.alt 30 (.alt 31 (.free 32 (.alt 33 (.free 34 (.spl 34 (.free 35 (.alt 36 (.free 37 (.alt 38 (.free 39 (.spl 39 (.free 40 (.alt 41 (.free 42 (.alt 43 (.free 44 .nil) .nil)) .nil)) (.free 40 (.alt 41 (.free 42 (.alt 43 (.free 44 .nil) .nil)) .nil)))) .nil)) .nil)) (.free 35 (.alt 36 (.free 37 (.alt 38 (.free 39 (.spl 39 (.free 40 (.alt 41 (.free 42 (.alt 43 (.free 44 .nil) .nil)) .nil)) (.free 40 (.alt 41 (.free 42 (.alt 43 (.free 44 .nil) .nil)) .nil)))) .nil)) .nil)))) .nil)) .nil) .nil) (.alt 30 (.alt 31 (.free 32 (.alt 33 (.free 34 (.spl 34 (.free 35 (.alt 36 (.free 37 (.alt 38 (.free 39 (.spl 39 (.free 40 (.alt 41 (.free 42 (.alt 43 (.free 44 .nil) .nil)) .nil)) (.free 40 (.alt 41 (.free 42 (.alt 43 (.free 44 .nil) .nil)) .nil)))) .nil)) .nil)) (.free 35 (.alt 36 (.free 37 (.alt 38 (.free 39 (.spl 39 (.free 40 (.alt 41 (.free 42 (.alt 43 (.free 44 .nil) .nil)) .nil)) (.free 40 (.alt 41 (.free 42 (.alt 43 (.free 44 .nil) .nil)) .nil)))) .nil)) .nil)))) .nil)) .nil) .nil))) .nil)) .nil) .nil) (.alt 25 (.alt 26 (.free 27 (.alt 28 (.free 29 (.spl 29 (.alt 30 (.alt 31 (.free 32 (.alt 33 (.free 34 (.spl 34 (.free 35 (.alt 36 (.free 37 (.alt 38 (.free 39 (.spl 39 (.free 40 (.alt 41 (.free 42 (.alt 43 (.free 44 .nil) .nil)) .nil)) (.free 40 (.alt 41 (.free 42 (.alt 43 (.free 44 .nil) .nil)) .nil)))) .nil)) .nil)) (.free 35 (.alt 36 (.free 37 (.alt 38 (.free 39 (.spl 39 (.free 40 (.alt 41 (.free 42 (.alt 43 (.free 44 .nil) .nil)) .nil)) (.free 40 (.alt 41 (.free 42 (.alt 43 (.free 44 .nil) .nil)) .nil)))) .nil)) .nil)))) .nil)) .nil) .nil) (.alt 30 (.alt 31 (.free 32 (.alt 33 (.free 34 (.spl 34 (.free 35 (.alt 36 (.free 37 (.alt 38 (.free 39 (.spl 39 (.free 40 (.alt 41 (.free 42 (.alt 43 (.free 44 .nil) .nil)) .nil)) (.free 40 (.alt 41 (.free 42 (.alt 43 (.free 44 .nil) .nil)) .nil)))) .nil)) .nil)) (.free 35 (.alt 36 (.free 37 (.alt 38 (.free 39 (.spl 39 (.free 40 (.alt 41 (.free 42 (.alt 43 (.free 44 .nil) .nil)) .nil)) (.free 40 (.alt 41 (.free 42 (.alt 43 (.free 44 .nil) .nil)) .nil)))) .nil)) .nil)))) .nil)) .nil) .nil))) .nil)) .nil) .nil))) .nil)) .nil)) .nil)) (.free 18 (.alt 19 (.free 20 (.alt 21 (.free 22 (.alt 23 (.free 24 (.spl 24 (.alt 25 (.alt 26 (.free 27 (.alt 28 (.free 29 (.spl 29 (.alt 30 (.alt 31 (.free 32 (.alt 33 (.free 34 (.spl 34 (.free 35 (.alt 36 (.free 37 (.alt 38 (.free 39 (.spl 39 (.free 40 (.alt 41 (.free 42 (.alt 43 (.free 44 .nil) .nil)) .nil)) (.free 40 (.alt 41 (.free 42 (.alt 43 (.free 44 .nil) .nil)) .nil)))) .nil)) .nil)) (.free 35 (.alt 36 (.free 37 (.alt 38 (.free 39 (.spl 39 (.free 40 (.alt 41 (.free 42 (.alt 43 (.free 44 .nil) .nil)) .nil)) (.free 40 (.alt 41 (.free 42 (.alt 43 (.free 44 .nil) .nil)) .nil)))) .nil)) .nil)))) .nil)) .nil) .nil) (.alt 30 (.alt 31 (.free 32 (.alt 33 (.free 34 (.spl 34 (.free 35 (.alt 36 (.free 37 (.alt 38 (.free 39 (.spl 39 (.free 40 (.alt 41 (.free 42 (.alt 43 (.free 44 .nil) .nil)) .nil)) (.free 40 (.alt 41 (.free 42 (.alt 43 (.free 44 .nil) .nil)) .nil)))) .nil)) .nil)) (.free 35 (.alt 36 (.free 37 (.alt 38 (.free 39 (.spl 39 (.free 40 (.alt 41 (.free 42 (.alt 43 (.free 44 .nil) .nil)) .nil)) (.free 40 (.alt 41 (.free 42 (.alt 43 (.free 44 .nil) .nil)) .nil)))) .nil)) .nil)))) .nil)) .nil) .nil))) .nil)) .nil) .nil) (.alt 25 (.alt 26 (.free 27 (.alt 28 (.free 29 (.spl 29 (.alt 30 (.alt 31 (.free 32 (.alt 33 (.free 34 (.spl 34 (.free 35 (.alt 36 (.free 37 (.alt 38 (.free 39 (.spl 39 (.free 40 (.alt 41 (.free 42 (.alt 43 (.free 44 .nil) .nil)) .nil)) (.free 40 (.alt 41 (.free 42 (.alt 43 (.free 44 .nil) .nil)) .nil)))) .nil)) .nil)) (.free 35 (.alt 36 (.free 37 (.alt 38 (.free 39 (.spl 39 (.free 40 (.alt 41 (.free 42 (.alt 43 (.free 44 .nil) .nil)) .nil)) (.free 40 (.alt 41 (.free 42 (.alt 43 (.free 44 .nil) .nil)) .nil)))) .nil)) .nil)))) .nil)) .nil) .nil) (.alt 30 (.alt 31 (.free 32 (.alt 33 (.free 34 (.spl 34 (.free 35 (.alt 36 (.free 37 (.alt 38 (.free 39 (.spl 39 (.free 40 (.alt 41 (.free 42 (.alt 43 (.free 44 .nil) .nil)) .nil)) (.free 40 (.alt 41 (.free 42 (.alt 43 (.free 44 .nil) .nil)) .nil)))) .nil)) .nil)) (.free 35 (.alt 36 (.free 37 (.alt 38 (.free 39 (.spl 39 (.free 40 (.alt 41 (.free 42 (.alt 43 (.free 44 .nil) .nil)) .nil)) (.free 40 (.alt 41 (.free 42 (.alt 43 (.free 44 .nil) .nil)) .nil)))) .nil)) .nil)))) .nil)) .nil) .nil))) .nil)) .nil) .nil))) .nil)) .nil)) .nil)))) .nil)) .nil)))) .nil) .nil) .nil) (.alt 9 (.alt 10 (.alt 11 (.free 12 (.spl 12 (.free 13 (.alt 14 (.free 15 (.alt 16 (.free 17 (.spl 17 (.free 18 (.alt 19 (.free 20 (.alt 21 (.free 22 (.alt 23 (.free 24 (.spl 24 (.alt 25 (.alt 26 (.free 27 (.alt 28 (.free 29 (.spl 29 (.alt 30 (.alt 31 (.free 32 (.alt 33 (.free 34 (.spl 34 (.free 35 (.alt 36 (.free 37 (.alt 38 (.free 39 (.spl 39 (.free 40 (.alt 41 (.free 42 (.alt 43 (.free 44 .nil) .nil)) .nil)) (.free 40 (.alt 41 (.free 42 (.alt 43 (.free 44 .nil) .nil)) .nil)))) .nil)) .nil)) (.free 35 (.alt 36 (.free 37 (.alt 38 (.free 39 (.spl 39 (.free 40 (.alt 41 (.free 42 (.alt 43 (.free 44 .nil) .nil)) .nil)) (.free 40 (.alt 41 (.free 42 (.alt 43 (.free 44 .nil) .nil)) .nil)))) .nil)) .nil)))) .nil)) .nil) .nil) (.alt 30 (.alt 31 (.free 32 (.alt 33 (.free 34 (.spl 34 (.free 35 (.alt 36 (.free 37 (.alt 38 (.free 39 (.spl 39 (.free 40 (.alt 41 (.free 42 (.alt 43 (.free 44 .nil) .nil)) .nil)) (.free 40 (.alt 41 (.free 42 (.alt 43 (.free 44 .nil) .nil)) .nil)))) .nil)) .nil)) (.free 35 (.alt 36 (.free 37 (.alt 38 (.free 39 (.spl 39 (.free 40 (.alt 41 (.free 42 (.alt 43 (.free 44 .nil) .nil)) .nil)) (.free 40 (.alt 41 (.free 42 (.alt 43 (.free 44 .nil) .nil)) .nil)))) .nil)) .nil)))) .nil)) .nil) .nil))) .nil)) .nil) .nil) (.alt 25 (.alt 26 (.free 27 (.alt 28 (.free 29 (.spl 29 (.alt 30 (.alt 31 (.free 32 (.alt 33 (.free 34 (.spl 34 (.free 35 (.alt 36 (.free 37 (.alt 38 (.free 39 (.spl 39 (.free 40 (.alt 41 (.free 42 (.alt 43 (.free 44 .nil) .nil)) .nil)) (.free 40 (.alt 41 (.free 42 (.alt 43 (.free 44 .nil) .nil)) .nil)))) .nil)) .nil)) (.free 35 (.alt 36 (.free 37 (.alt 38 (.free 39 (.spl 39 (.free 40 (.alt 41 (.free 42 (.alt 43 (.free 44 .nil) .nil)) .nil)) (.free 40 (.alt 41 (.free 42 (.alt 43 (.free 44 .nil) .nil)) .nil)))) .nil)) .nil)))) .nil)) .nil) .nil) (.alt 30 (.alt 31 (.free 32 (.alt 33 (.free 34 (.spl 34 (.free 35 (.alt 36 (.free 37 (.alt 38 (.free 39 (.spl 39 (.free 40 (.alt 41 (.free 42 (.alt 43 (.free 44 .nil) .nil)) .nil)) (.free 40 (.alt 41 (.free 42 (.alt 43 (.free 44 .nil) .nil)) .nil)))) .nil)) .nil)) (.free 35 (.alt 36 (.free 37 (.alt 38 (.free 39 (.spl 39 (.free 40 (.alt 41 (.free 42 (.alt 43 (.free 44 .nil) .nil)) .nil)) (.free 40 (.alt 41 (.free 42 (.alt 43 (.free 44 .nil) .nil)) .nil)))) .nil)) .nil)))) .nil)) .nil) .nil))) .nil)) .nil) .nil))) .nil)) .nil)) .nil)) (.free 18 (.alt 19 (.free 20 (.alt 21 (.free 22 (.alt 23 (.free 24 (.spl 24 (.alt 25 (.alt 26 (.free 27 (.alt 28 (.free 29 (.spl 29 (.alt 30 (.alt 31 (.free 32 (.alt 33 (.free 34 (.spl 34 (.free 35 (.alt 36 (.free 37 (.alt 38 (.free 39 (.spl 39 (.free 40 (.alt 41 (.free 42 (.alt 43 (.free 44 .nil) .nil)) .nil)) (.free 40 (.alt 41 (.free 42 (.alt 43 (.free 44 .nil) .nil)) .nil)))) .nil)) .nil)) (.free 35 (.alt 36 (.free 37 (.alt 38 (.free 39 (.spl 39 (.free 40 (.alt 41 (.free 42 (.alt 43 (.free 44 .nil) .nil)) .nil)) (.free 40 (.alt 41 (.free 42 (.alt 43 (.free 44 .nil) .nil)) .nil)))) .nil)) .nil)))) .nil)) .nil) .nil) (.alt 30 (.alt 31 (.free 32 (.alt 33 (.free 34 (.spl 34 (.free 35 (.alt 36 (.free 37 (.alt 38 (.free 39 (.spl 39 (.free 40 (.alt 41 (.free 42 (.alt 43 (.free 44 .nil) .nil)) .nil)) (.free 40 (.alt 41 (.free 42 (.alt 43 (.free 44 .nil) .nil)) .nil)))) .nil)) .nil)) (.free 35 (.alt 36 (.free 37 (.alt 38 (.free 39 (.spl 39 (.free 40 (.alt 41 (.free 42 (.alt 43 (.free 44 .nil) .nil)) .nil)) (.free 40 (.alt 41 (.free 42 (.alt 43 (.free 44 .nil) .nil)) .nil)))) .nil)) .nil)))) .nil)) .nil) .nil))) .nil)) .nil) .nil) (.alt 25 (.alt 26 (.free 27 (.alt 28 (.free 29 (.spl 29 (.alt 30 (.alt 31 (.free 32 (.alt 33 (.free 34 (.spl 34 (.free 35 (.alt 36 (.free 37 (.alt 38 (.free 39 (.spl 39 (.free 40 (.alt 41 (.free 42 (.alt 43 (.free 44 .nil) .nil)) .nil)) (.free 40 (.alt 41 (.free 42 (.alt 43 (.free 44 .nil) .nil)) .nil)))) .nil)) .nil)) (.free 35 (.alt 36 (.free 37 (.alt 38 (.free 39 (.spl 39 (.free 40 (.alt 41 (.free 42 (.alt 43 (.free 44 .nil) .nil)) .nil)) (.free 40 (.alt 41 (.free 42 (.alt 43 (.free 44 .nil) .nil)) .nil)))) .nil)) .nil)))) .nil)) .nil) .nil) (.alt 30 (.alt 31 (.free 32 (.alt 33 (.free 34 (.spl 34 (.free 35 (.alt 36 (.free 37 (.alt 38 (.free 39 (.spl 39 (.free 40 (.alt 41 (.free 42 (.alt 43 (.free 44 .nil) .nil)) .nil)) (.free 40 (.alt 41 (.free 42 (.alt 43 (.free 44 .nil) .nil)) .nil)))) .nil)) .nil)) (.free 35 (.alt 36 (.free 37 (.alt 38 (.free 39 (.spl 39 (.free 40 (.alt 41 (.free 42 (.alt 43 (.free 44 .nil) .nil)) .nil)) (.free 40 (.alt 41 (.free 42 (.alt 43 (.free 44 .nil) .nil)) .nil)))) .nil)) .nil)))) .nil)) .nil) .nil))) .nil)) .nil) .nil))) .nil)) .nil)) .nil)))) .nil)) .nil)) (.free 13 (.alt 14 (.free 15 (.alt 16 (.free 17 (.spl 17 (.free 18 (.alt 19 (.free 20 (.alt 21 (.free 22 (.alt 23 (.free 24 (.spl 24 (.alt 25 (.alt 26 (.free 27 (.alt 28 (.free 29 (.spl 29 (.alt 30 (.alt 31 (.free 32 (.alt 33 (.free 34 (.spl 34 (.free 35 (.alt 36 (.free 37 (.alt 38 (.free 39 (.spl 39 (.free 40 (.alt 41 (.free 42 (.alt 43 (.free 44 .nil) .nil)) .nil)) (.free 40 (.alt 41 (.free 42 (.alt 43 (.free 44 .nil) .nil)) .nil)))) .nil)) .nil)) (.free 35 (.alt 36 (.free 37 (.alt 38 (.free 39 (.spl 39 (.free 40 (.alt 41 (.free 42 (.alt 43 (.free 44 .nil) .nil)) .nil)) (.free 40 (.alt 41 (.free 42 (.alt 43 (.free 44 .nil) .nil)) .nil)))) .nil)) .nil)))) .nil)) .nil) .nil) (.alt 30 (.alt 31 (.free 32 (.alt 33 (.free 34 (.spl 34 (.free 35 (.alt 36 (.free 37 (.alt 38 (.free 39 (.spl 39 (.free 40 (.alt 41 (.free 42 (.alt 43 (.free 44 .nil) .nil)) .nil)) (.free 40 (.alt 41 (.free 42 (.alt 43 (.free 44 .nil) .nil)) .nil)))) .nil)) .nil)) (.free 35 (.alt 36 (.free 37 (.alt 38 (.free 39 (.spl 39 (.free 40 (.alt 41 (.free 42 (.alt 43 (.free 44 .nil) .nil)) .nil)) (.free 40 (.alt 41 (.free 42 (.alt 43 (.free 44 .nil) .nil)) .nil)))) .nil)) .nil)))) .nil)) .nil) .nil))) .nil)) .nil) .nil) (.alt 25 (.alt 26 (.free 27 (.alt 28 (.free 29 (.spl 29 (.alt 30 (.alt 31 (.free 32 (.alt 33 (.free 34 (.spl 34 (.free 35 (.alt 36 (.free 37 (.alt 38 (.free 39 (.spl 39 (.free 40 (.alt 41 (.free 42 (.alt 43 (.free 44 .nil) .nil)) .nil)) (.free 40 (.alt 41 (.free 42 (.alt 43 (.free 44 .nil) .nil)) .nil)))) .nil)) .nil)) (.free 35 (.alt 36 (.free 37 (.alt 38 (.free 39 (.spl 39 (.free 40 (.alt 41 (.free 42 (.alt 43 (.free 44 .nil) .nil)) .nil)) (.free 40 (.alt 41 (.free 42 (.alt 43 (.free 44 .nil) .nil)) .nil)))) .nil)) .nil)))) .nil)) .nil) .nil) (.alt 30 (.alt 31 (.free 32 (.alt 33 (.free 34 (.spl 34 (.free 35 (.alt 36 (.free 37 (.alt 38 (.free 39 (.spl 39 (.free 40 (.alt 41 (.free 42 (.alt 43 (.free 44 .nil) .nil)) .nil)) (.free 40 (.alt 41 (.free 42 (.alt 43 (.free 44 .nil) .nil)) .nil)))) .nil)) .nil)) (.free 35 (.alt 36 (.free 37 (.alt 38 (.free 39 (.spl 39 (.free 40 (.alt 41 (.free 42 (.alt 43 (.free 44 .nil) .nil)) .nil)) (.free 40 (.alt 41 (.free 42 (.alt 43 (.free 44 .nil) .nil)) .nil)))) .nil)) .nil)))) .nil)) .nil) .nil))) .nil)) .nil) .nil))) .nil)) .nil)) .nil)) (.free 18 (.alt 19 (.free 20 (.alt 21 (.free 22 (.alt 23 (.free 24 (.spl 24 (.alt 25 (.alt 26 (.free 27 (.alt 28 (.free 29 (.spl 29 (.alt 30 (.alt 31 (.free 32 (.alt 33 (.free 34 (.spl 34 (.free 35 (.alt 36 (.free 37 (.alt 38 (.free 39 (.spl 39 (.free 40 (.alt 41 (.free 42 (.alt 43 (.free 44 .nil) .nil)) .nil)) (.free 40 (.alt 41 (.free 42 (.alt 43 (.free 44 .nil) .nil)) .nil)))) .nil)) .nil)) (.free 35 (.alt 36 (.free 37 (.alt 38 (.free 39 (.spl 39 (.free 40 (.alt 41 (.free 42 (.alt 43 (.free 44 .nil) .nil)) .nil)) (.free 40 (.alt 41 (.free 42 (.alt 43 (.free 44 .nil) .nil)) .nil)))) .nil)) .nil)))) .nil)) .nil) .nil) (.alt 30 (.alt 31 (.free 32 (.alt 33 (.free 34 (.spl 34 (.free 35 (.alt 36 (.free 37 (.alt 38 (.free 39 (.spl 39 (.free 40 (.alt 41 (.free 42 (.alt 43 (.free 44 .nil) .nil)) .nil)) (.free 40 (.alt 41 (.free 42 (.alt 43 (.free 44 .nil) .nil)) .nil)))) .nil)) .nil)) (.free 35 (.alt 36 (.free 37 (.alt 38 (.free 39 (.spl 39 (.free 40 (.alt 41 (.free 42 (.alt 43 (.free 44 .nil) .nil)) .nil)) (.free 40 (.alt 41 (.free 42 (.alt 43 (.free 44 .nil) .nil)) .nil)))) .nil)) .nil)))) .nil)) .nil) .nil))) .nil)) .nil) .nil) (.alt 25 (.alt 26 (.free 27 (.alt 28 (.free 29 (.spl 29 (.alt 30 (.alt 31 (.free 32 (.alt 33 (.free 34 (.spl 34 (.free 35 (.alt 36 (.free 37 (.alt 38 (.free 39 (.spl 39 (.free 40 (.alt 41 (.free 42 (.alt 43 (.free 44 .nil) .nil)) .nil)) (.free 40 (.alt 41 (.free 42 (.alt 43 (.free 44 .nil) .nil)) .nil)))) .nil)) .nil)) (.free 35 (.alt 36 (.free 37 (.alt 38 (.free 39 (.spl 39 (.free 40 (.alt 41 (.free 42 (.alt 43 (.free 44 .nil) .nil)) .nil)) (.free 40 (.alt 41 (.free 42 (.alt 43 (.free 44 .nil) .nil)) .nil)))) .nil)) .nil)))) .nil)) .nil) .nil) (.alt 30 (.alt 31 (.free 32 (.alt 33 (.free 34 (.spl 34 (.free 35 (.alt 36 (.free 37 (.alt 38 (.free 39 (.spl 39 (.free 40 (.alt 41 (.free 42 (.alt 43 (.free 44 .nil) .nil)) .nil)) (.free 40 (.alt 41 (.free 42 (.alt 43 (.free 44 .nil) .nil)) .nil)))) .nil)) .nil)) (.free 35 (.alt 36 (.free 37 (.alt 38 (.free 39 (.spl 39 (.free 40 (.alt 41 (.free 42 (.alt 43 (.free 44 .nil) .nil)) .nil)) (.free 40 (.alt 41 (.free 42 (.alt 43 (.free 44 .nil) .nil)) .nil)))) .nil)) .nil)))) .nil)) .nil) .nil))) .nil)) .nil) .nil))) .nil)) .nil)) .nil)))) .nil)) .nil)))) .nil) .nil) .nil))) .nil) .nil) .nil) (.alt 5 (.alt 6 (.alt 7 (.free 8 (.spl 8 (.alt 9 (.alt 10 (.alt 11 (.free 12 (.spl 12 (.free 13 (.alt 14 (.free 15 (.alt 16 (.free 17 (.spl 17 (.free 18 (.alt 19 (.free 20 (.alt 21 (.free 22 (.alt 23 (.free 24 (.spl 24 (.alt 25 (.alt 26 (.free 27 (.alt 28 (.free 29 (.spl 29 (.alt 30 (.alt 31 (.free 32 (.alt 33 (.free 34 (.spl 34 (.free 35 (.alt 36 (.free 37 (.alt 38 (.free 39 (.spl 39 (.free 40 (.alt 41 (.free 42 (.alt 43 (.free 44 .nil) .nil)) .nil)) (.free 40 (.alt 41 (.free 42 (.alt 43 (.free 44 .nil) .nil)) .nil)))) .nil)) .nil)) (.free 35 (.alt 36 (.free 37 (.alt 38 (.free 39 (.spl 39 (.free 40 (.alt 41 (.free 42 (.alt 43 (.free 44 .nil) .nil)) .nil)) (.free 40 (.alt 41 (.free 42 (.alt 43 (.free 44 .nil) .nil)) .nil)))) .nil)) .nil)))) .nil)) .nil) .nil) (.alt 30 (.alt 31 (.free 32 (.alt 33 (.free 34 (.spl 34 (.free 35 (.alt 36 (.free 37 (.alt 38 (.free 39 (.spl 39 (.free 40 (.alt 41 (.free 42 (.alt 43 (.free 44 .nil) .nil)) .nil)) (.free 40 (.alt 41 (.free 42 (.alt 43 (.free 44 .nil) .nil)) .nil)))) .nil)) .nil)) (.free 35 (.alt 36 (.free 37 (.alt 38 (.free 39 (.spl 39 (.free 40 (.alt 41 (.free 42 (.alt 43 (.free 44 .nil) .nil)) .nil)) (.free 40 (.alt 41 (.free 42 (.alt 43 (.free 44 .nil) .nil)) .nil)))) .nil)) .nil)))) .nil)) .nil) .nil))) .nil)) .nil) .nil) (.alt 25 (.alt 26 (.free 27 (.alt 28 (.free 29 (.spl 29 (.alt 30 (.alt 31 (.free 32 (.alt 33 (.free 34 (.spl 34 (.free 35 (.alt 36 (.free 37 (.alt 38 (.free 39 (.spl 39 (.free 40 (.alt 41 (.free 42 (.alt 43 (.free 44 .nil) .nil)) .nil)) (.free 40 (.alt 41 (.free 42 (.alt 43 (.free 44 .nil) .nil)) .nil)))) .nil)) .nil)) (.free 35 (.alt 36 (.free 37 (.alt 38 (.free 39 (.spl 39 (.free 40 (.alt 41 (.free 42 (.alt 43 (.free 44 .nil) .nil)) .nil)) (.free 40 (.alt 41 (.free 42 (.alt 43 (.free 44 .nil) .nil)) .nil)))) .nil)) .nil)))) .nil)) .nil) .nil) (.alt 30 (.alt 31 (.free 32 (.alt 33 (.free 34 (.spl 34 (.free 35 (.alt 36 (.free 37 (.alt 38 (.free 39 (.spl 39 (.free 40 (.alt 41 (.free 42 (.alt 43 (.free 44 .nil) .nil)) .nil)) (.free 40 (.alt 41 (.free 42 (.alt 43 (.free 44 .nil) .nil)) .nil)))) .nil)) .nil)) (.free 35 (.alt 36 (.free 37 (.alt 38 (.free 39 (.spl 39 (.free 40 (.alt 41 (.free 42 (.alt 43 (.free 44 .nil) .nil)) .nil)) (.free 40 (.alt 41 (.free 42 (.alt 43 (.free 44 .nil) .nil)) .nil)))) .nil)) .nil)))) .nil)) .nil) .nil))) .nil)) .nil) .nil))) .nil)) .nil)) .nil)) (.free 18 (.alt 19 (.free 20 (.alt 21 (.free 22 (.alt 23 (.free 24 (.spl 24 (.alt 25 (.alt 26 (.free 27 (.alt 28 (.free 29 (.spl 29 (.alt 30 (.alt 31 (.free 32 (.alt 33 (.free 34 (.spl 34 (.free 35 (.alt 36 (.free 37 (.alt 38 (.free 39 (.spl 39 (.free 40 (.alt 41 (.free 42 (.alt 43 (.free 44 .nil) .nil)) .nil)) (.free 40 (.alt 41 (.free 42 (.alt 43 (.free 44 .nil) .nil)) .nil)))) .nil)) .nil)) (.free 35 (.alt 36 (.free 37 (.alt 38 (.free 39 (.spl 39 (.free 40 (.alt 41 (.free 42 (.alt 43 (.free 44 .nil) .nil)) .nil)) (.free 40 (.alt 41 (.free 42 (.alt 43 (.free 44 .nil) .nil)) .nil)))) .nil)) .nil)))) .nil)) .nil) .nil) (.alt 30 (.alt 31 (.free 32 (.alt 33 (.free 34 (.spl 34 (.free 35 (.alt 36 (.free 37 (.alt 38 (.free 39 (.spl 39 (.free 40 (.alt 41 (.free 42 (.alt 43 (.free 44 .nil) .nil)) .nil)) (.free 40 (.alt 41 (.free 42 (.alt 43 (.free 44 .nil) .nil)) .nil)))) .nil)) .nil)) (.free 35 (.alt 36 (.free 37 (.alt 38 (.free 39 (.spl 39 (.free 40 (.alt 41 (.free 42 (.alt 43 (.free 44 .nil) .nil)) .nil)) (.free 40 (.alt 41 (.free 42 (.alt 43 (.free 44 .nil) .nil)) .nil)))) .nil)) .nil)))) .nil)) .nil) .nil))) .nil)) .nil) .nil) (.alt 25 (.alt 26 (.free 27 (.alt 28 (.free 29 (.spl 29 (.alt 30 (.alt 31 (.free 32 (.alt 33 (.free 34 (.spl 34 (.free 35 (.alt 36 (.free 37 (.alt 38 (.free 39 (.spl 39 (.free 40 (.alt 41 (.free 42 (.alt 43 (.free 44 .nil) .nil)) .nil)) (.free 40 (.alt 41 (.free 42 (.alt 43 (.free 44 .nil) .nil)) .nil)))) .nil)) .nil)) (.free 35 (.alt 36 (.free 37 (.alt 38 (.free 39 (.spl 39 (.free 40 (.alt 41 (.free 42 (.alt 43 (.free 44 .nil) .nil)) .nil)) (.free 40 (.alt 41 (.free 42 (.alt 43 (.free 44 .nil) .nil)) .nil)))) .nil)) .nil)))) .nil)) .nil) .nil) (.alt 30 (.alt 31 (.free 32 (.alt 33 (.free 34 (.spl 34 (.free 35 (.alt 36 (.free 37 (.alt 38 (.free 39 (.spl 39 (.free 40 (.alt 41 (.free 42 (.alt 43 (.free 44 .nil) .nil)) .nil)) (.free 40 (.alt 41 (.free 42 (.alt 43 (.free 44 .nil) .nil)) .nil)))) .nil)) .nil)) (.free 35 (.alt 36 (.free 37 (.alt 38 (.free 39 (.spl 39 (.free 40 (.alt 41 (.free 42 (.alt 43 (.free 44 .nil) .nil)) .nil)) (.free 40 (.alt 41 (.free 42 (.alt 43 (.free 44 .nil) .nil)) .nil)))) .nil)) .nil)))) .nil)) .nil) .nil))) .nil)) .nil) .nil))) .nil)) .nil)) .nil)))) .nil)) .nil)) (.free 13 (.alt 14 (.free 15 (.alt 16 (.free 17 (.spl 17 (.free 18 (.alt 19 (.free 20 (.alt 21 (.free 22 (.alt 23 (.free 24 (.spl 24 (.alt 25 (.alt 26 (.free 27 (.alt 28 (.free 29 (.spl 29 (.alt 30 (.alt 31 (.free 32 (.alt 33 (.free 34 (.spl 34 (.free 35 (.alt 36 (.free 37 (.alt 38 (.free 39 (.spl 39 (.free 40 (.alt 41 (.free 42 (.alt 43 (.free 44 .nil) .nil)) .nil)) (.free 40 (.alt 41 (.free 42 (.alt 43 (.free 44 .nil) .nil)) .nil)))) .nil)) .nil)) (.free 35 (.alt 36 (.free 37 (.alt 38 (.free 39 (.spl 39 (.free 40 (.alt 41 (.free 42 (.alt 43 (.free 44 .nil) .nil)) .nil)) (.free 40 (.alt 41 (.free 42 (.alt 43 (.free 44 .nil) .nil)) .nil)))) .nil)) .nil)))) .nil)) .nil) .nil) (.alt 30 (.alt 31 (.free 32 (.alt 33 (.free 34 (.spl 34 (.free 35 (.alt 36 (.free 37 (.alt 38 (.free 39 (.spl 39 (.free 40 (.alt 41 (.free 42 (.alt 43 (.free 44 .nil) .nil)) .nil)) (.free 40 (.alt 41 (.free 42 (.alt 43 (.free 44 .nil) .nil)) .nil)))) .nil)) .nil)) (.free 35 (.alt 36 (.free 37 (.alt 38 (.free 39 (.spl 39 (.free 40 (.alt 41 (.free 42 (.alt 43 (.free 44 .nil) .nil)) .nil)) (.free 40 (.alt 41 (.free 42 (.alt 43 (.free 44 .nil) .nil)) .nil)))) .nil)) .nil)))) .nil)) .nil) .nil))) .nil)) .nil) .nil) (.alt 25 (.alt 26 (.free 27 (.alt 28 (.free 29 (.spl 29 (.alt 30 (.alt 31 (.free 32 (.alt 33 (.free 34 (.spl 34 (.free 35 (.alt 36 (.free 37 (.alt 38 (.free 39 (.spl 39 (.free 40 (.alt 41 (.free 42 (.alt 43 (.free 44 .nil) .nil)) .nil)) (.free 40 (.alt 41 (.free 42 (.alt 43 (.free 44 .nil) .nil)) .nil)))) .nil)) .nil)) (.free 35 (.alt 36 (.free 37 (.alt 38 (.free 39 (.spl 39 (.free 40 (.alt 41 (.free 42 (.alt 43 (.free 44 .nil) .nil)) .nil)) (.free 40 (.alt 41 (.free 42 (.alt 43 (.free 44 .nil) .nil)) .nil)))) .nil)) .nil)))) .nil)) .nil) .nil) (.alt 30 (.alt 31 (.free 32 (.alt 33 (.free 34 (.spl 34 (.free 35 (.alt 36 (.free 37 (.alt 38 (.free 39 (.spl 39 (.free 40 (.alt 41 (.free 42 (.alt 43 (.free 44 .nil) .nil)) .nil)) (.free 40 (.alt 41 (.free 42 (.alt 43 (.free 44 .nil) .nil)) .nil)))) .nil)) .nil)) (.free 35 (.alt 36 (.free 37 (.alt 38 (.free 39 (.spl 39 (.free 40 (.alt 41 (.free 42 (.alt 43 (.free 44 .nil) .nil)) .nil)) (.free 40 (.alt 41 (.free 42 (.alt 43 (.free 44 .nil) .nil)) .nil)))) .nil)) .nil)))) .nil)) .nil) .nil))) .nil)) .nil) .nil))) .nil)) .nil)) .nil)) (.free 18 (.alt 19 (.free 20 (.alt 21 (.free 22 (.alt 23 (.free 24 (.spl 24 (.alt 25 (.alt 26 (.free 27 (.alt 28 (.free 29 (.spl 29 (.alt 30 (.alt 31 (.free 32 (.alt 33 (.free 34 (.spl 34 (.free 35 (.alt 36 (.free 37 (.alt 38 (.free 39 (.spl 39 (.free 40 (.alt 41 (.free 42 (.alt 43 (.free 44 .nil) .nil)) .nil)) (.free 40 (.alt 41 (.free 42 (.alt 43 (.free 44 .nil) .nil)) .nil)))) .nil)) .nil)) (.free 35 (.alt 36 (.free 37 (.alt 38 (.free 39 (.spl 39 (.free 40 (.alt 41 (.free 42 (.alt 43 (.free 44 .nil) .nil)) .nil)) (.free 40 (.alt 41 (.free 42 (.alt 43 (.free 44 .nil) .nil)) .nil)))) .nil)) .nil)))) .nil)) .nil) .nil) (.alt 30 (.alt 31 (.free 32 (.alt 33 (.free 34 (.spl 34 (.free 35 (.alt 36 (.free 37 (.alt 38 (.free 39 (.spl 39 (.free 40 (.alt 41 (.free 42 (.alt 43 (.free 44 .nil) .nil)) .nil)) (.free 40 (.alt 41 (.free 42 (.alt 43 (.free 44 .nil) .nil)) .nil)))) .nil)) .nil)) (.free 35 (.alt 36 (.free 37 (.alt 38 (.free 39 (.spl 39 (.free 40 (.alt 41 (.free 42 (.alt 43 (.free 44 .nil) .nil)) .nil)) (.free 40 (.alt 41 (.free 42 (.alt 43 (.free 44 .nil) .nil)) .nil)))) .nil)) .nil)))) .nil)) .nil) .nil))) .nil)) .nil) .nil) (.alt 25 (.alt 26 (.free 27 (.alt 28 (.free 29 (.spl 29 (.alt 30 (.alt 31 (.free 32 (.alt 33 (.free 34 (.spl 34 (.free 35 (.alt 36 (.free 37 (.alt 38 (.free 39 (.spl 39 (.free 40 (.alt 41 (.free 42 (.alt 43 (.free 44 .nil) .nil)) .nil)) (.free 40 (.alt 41 (.free 42 (.alt 43 (.free 44 .nil) .nil)) .nil)))) .nil)) .nil)) (.free 35 (.alt 36 (.free 37 (.alt 38 (.free 39 (.spl 39 (.free 40 (.alt 41 (.free 42 (.alt 43 (.free 44 .nil) .nil)) .nil)) (.free 40 (.alt 41 (.free 42 (.alt 43 (.free 44 .nil) .nil)) .nil)))) .nil)) .nil)))) .nil)) .nil) .nil) (.alt 30 (.alt 31 (.free 32 (.alt 33 (.free 34 (.spl 34 (.free 35 (.alt 36 (.free 37 (.alt 38 (.free 39 (.spl 39 (.free 40 (.alt 41 (.free 42 (.alt 43 (.free 44 .nil) .nil)) .nil)) (.free 40 (.alt 41 (.free 42 (.alt 43 (.free 44 .nil) .nil)) .nil)))) .nil)) .nil)) (.free 35 (.alt 36 (.free 37 (.alt 38 (.free 39 (.spl 39 (.free 40 (.alt 41 (.free 42 (.alt 43 (.free 44 .nil) .nil)) .nil)) (.free 40 (.alt 41 (.free 42 (.alt 43 (.free 44 .nil) .nil)) .nil)))) .nil)) .nil)))) .nil)) .nil) .nil))) .nil)) .nil) .nil))) .nil)) .nil)) .nil)))) .nil)) .nil)))) .nil) .nil) .nil) (.alt 9 (.alt 10 (.alt 11 (.free 12 (.spl 12 (.free 13 (.alt 14 (.free 15 (.alt 16 (.free 17 (.spl 17 (.free 18 (.alt 19 (.free 20 (.alt 21 (.free 22 (.alt 23 (.free 24 (.spl 24 (.alt 25 (.alt 26 (.free 27 (.alt 28 (.free 29 (.spl 29 (.alt 30 (.alt 31 (.free 32 (.alt 33 (.free 34 (.spl 34 (.free 35 (.alt 36 (.free 37 (.alt 38 (.free 39 (.spl 39 (.free 40 (.alt 41 (.free 42 (.alt 43 (.free 44 .nil) .nil)) .nil)) (.free 40 (.alt 41 (.free 42 (.alt 43 (.free 44 .nil) .nil)) .nil)))) .nil)) .nil)) (.free 35 (.alt 36 (.free 37 (.alt 38 (.free 39 (.spl 39 (.free 40 (.alt 41 (.free 42 (.alt 43 (.free 44 .nil) .nil)) .nil)) (.free 40 (.alt 41 (.free 42 (.alt 43 (.free 44 .nil) .nil)) .nil)))) .nil)) .nil)))) .nil)) .nil) .nil) (.alt 30 (.alt 31 (.free 32 (.alt 33 (.free 34 (.spl 34 (.free 35 (.alt 36 (.free 37 (.alt 38 (.free 39 (.spl 39 (.free 40 (.alt 41 (.free 42 (.alt 43 (.free 44 .nil) .nil)) .nil)) (.free 40 (.alt 41 (.free 42 (.alt 43 (.free 44 .nil) .nil)) .nil)))) .nil)) .nil)) (.free 35 (.alt 36 (.free 37 (.alt 38 (.free 39 (.spl 39 (.free 40 (.alt 41 (.free 42 (.alt 43 (.free 44 .nil) .nil)) .nil)) (.free 40 (.alt 41 (.free 42 (.alt 43 (.free 44 .nil) .nil)) .nil)))) .nil)) .nil)))) .nil)) .nil) .nil))) .nil)) .nil) .nil) (.alt 25 (.alt 26 (.free 27 (.alt 28 (.free 29 (.spl 29 (.alt 30 (.alt 31 (.free 32 (.alt 33 (.free 34 (.spl 34 (.free 35 (.alt 36 (.free 37 (.alt 38 (.free 39 (.spl 39 (.free 40 (.alt 41 (.free 42 (.alt 43 (.free 44 .nil) .nil)) .nil)) (.free 40 (.alt 41 (.free 42 (.alt 43 (.free 44 .nil) .nil)) .nil)))) .nil)) .nil)) (.free 35 (.alt 36 (.free 37 (.alt 38 (.free 39 (.spl 39 (.free 40 (.alt 41 (.free 42 (.alt 43 (.free 44 .nil) .nil)) .nil)) (.free 40 (.alt 41 (.free 42 (.alt 43 (.free 44 .nil) .nil)) .nil)))) .nil)) .nil)))) .nil)) .nil) .nil) (.alt 30 (.alt 31 (.free 32 (.alt 33 (.free 34 (.spl 34 (.free 35 (.alt 36 (.free 37 (.alt 38 (.free 39 (.spl 39 (.free 40 (.alt 41 (.free 42 (.alt 43 (.free 44 .nil) .nil)) .nil)) (.free 40 (.alt 41 (.free 42 (.alt 43 (.free 44 .nil) .nil)) .nil)))) .nil)) .nil)) (.free 35 (.alt 36 (.free 37 (.alt 38 (.free 39 (.spl 39 (.free 40 (.alt 41 (.free 42 (.alt 43 (.free 44 .nil) .nil)) .nil)) (.free 40 (.alt 41 (.free 42 (.alt 43 (.free 44 .nil) .nil)) .nil)))) .nil)) .nil)))) .nil)) .nil) .nil))) .nil)) .nil) .nil))) .nil)) .nil)) .nil)) (.free 18 (.alt 19 (.free 20 (.alt 21 (.free 22 (.alt 23 (.free 24 (.spl 24 (.alt 25 (.alt 26 (.free 27 (.alt 28 (.free 29 (.spl 29 (.alt 30 (.alt 31 (.free 32 (.alt 33 (.free 34 (.spl 34 (.free 35 (.alt 36 (.free 37 (.alt 38 (.free 39 (.spl 39 (.free 40 (.alt 41 (.free 42 (.alt 43 (.free 44 .nil) .nil)) .nil)) (.free 40 (.alt 41 (.free 42 (.alt 43 (.free 44 .nil) .nil)) .nil)))) .nil)) .nil)) (.free 35 (.alt 36 (.free 37 (.alt 38 (.free 39 (.spl 39 (.free 40 (.alt 41 (.free 42 (.alt 43 (.free 44 .nil) .nil)) .nil)) (.free 40 (.alt 41 (.free 42 (.alt 43 (.free 44 .nil) .nil)) .nil)))) .nil)) .nil)))) .nil)) .nil) .nil) (.alt 30 (.alt 31 (.free 32 (.alt 33 (.free 34 (.spl 34 (.free 35 (.alt 36 (.free 37 (.alt 38 (.free 39 (.spl 39 (.free 40 (.alt 41 (.free 42 (.alt 43 (.free 44 .nil) .nil)) .nil)) (.free 40 (.alt 41 (.free 42 (.alt 43 (.free 44 .nil) .nil)) .nil)))) .nil)) .nil)) (.free 35 (.alt 36 (.free 37 (.alt 38 (.free 39 (.spl 39 (.free 40 (.alt 41 (.free 42 (.alt 43 (.free 44 .nil) .nil)) .nil)) (.free 40 (.alt 41 (.free 42 (.alt 43 (.free 44 .nil) .nil)) .nil)))) .nil)) .nil)))) .nil)) .nil) .nil))) .nil)) .nil) .nil) (.alt 25 (.alt 26 (.free 27 (.alt 28 (.free 29 (.spl 29 (.alt 30 (.alt 31 (.free 32 (.alt 33 (.free 34 (.spl 34 (.free 35 (.alt 36 (.free 37 (.alt 38 (.free 39 (.spl 39 (.free 40 (.alt 41 (.free 42 (.alt 43 (.free 44 .nil) .nil)) .nil)) (.free 40 (.alt 41 (.free 42 (.alt 43 (.free 44 .nil) .nil)) .nil)))) .nil)) .nil)) (.free 35 (.alt 36 (.free 37 (.alt 38 (.free 39 (.spl 39 (.free 40 (.alt 41 (.free 42 (.alt 43 (.free 44 .nil) .nil)) .nil)) (.free 40 (.alt 41 (.free 42 (.alt 43 (.free 44 .nil) .nil)) .nil)))) .nil)) .nil)))) .nil)) .nil) .nil) (.alt 30 (.alt 31 (.free 32 (.alt 33 (.free 34 (.spl 34 (.free 35 (.alt 36 (.free 37 (.alt 38 (.free 39 (.spl 39 (.free 40 (.alt 41 (.free 42 (.alt 43 (.free 44 .nil) .nil)) .nil)) (.free 40 (.alt 41 (.free 42 (.alt 43 (.free 44 .nil) .nil)) .nil)))) .nil)) .nil)) (.free 35 (.alt 36 (.free 37 (.alt 38 (.free 39 (.spl 39 (.free 40 (.alt 41 (.free 42 (.alt 43 (.free 44 .nil) .nil)) .nil)) (.free 40 (.alt 41 (.free 42 (.alt 43 (.free 44 .nil) .nil)) .nil)))) .nil)) .nil)))) .nil)) .nil) .nil))) .nil)) .nil) .nil))) .nil)) .nil)) .nil)))) .nil)) .nil)) (.free 13 (.alt 14 (.free 15 (.alt 16 (.free 17 (.spl 17 (.free 18 (.alt 19 (.free 20 (.alt 21 (.free 22 (.alt 23 (.free 24 (.spl 24 (.alt 25 (.alt 26 (.free 27 (.alt 28 (.free 29 (.spl 29 (.alt 30 (.alt 31 (.free 32 (.alt 33 (.free 34 (.spl 34 (.free 35 (.alt 36 (.free 37 (.alt 38 (.free 39 (.spl 39 (.free 40 (.alt 41 (.free 42 (.alt 43 (.free 44 .nil) .nil)) .nil)) (.free 40 (.alt 41 (.free 42 (.alt 43 (.free 44 .nil) .nil)) .nil)))) .nil)) .nil)) (.free 35 (.alt 36 (.free 37 (.alt 38 (.free 39 (.spl 39 (.free 40 (.alt 41 (.free 42 (.alt 43 (.free 44 .nil) .nil)) .nil)) (.free 40 (.alt 41 (.free 42 (.alt 43 (.free 44 .nil) .nil)) .nil)))) .nil)) .nil)))) .nil)) .nil) .nil) (.alt 30 (.alt 31 (.free 32 (.alt 33 (.free 34 (.spl 34 (.free 35 (.alt 36 (.free 37 (.alt 38 (.free 39 (.spl 39 (.free 40 (.alt 41 (.free 42 (.alt 43 (.free 44 .nil) .nil)) .nil)) (.free 40 (.alt 41 (.free 42 (.alt 43 (.free 44 .nil) .nil)) .nil)))) .nil)) .nil)) (.free 35 (.alt 36 (.free 37 (.alt 38 (.free 39 (.spl 39 (.free 40 (.alt 41 (.free 42 (.alt 43 (.free 44 .nil) .nil)) .nil)) (.free 40 (.alt 41 (.free 42 (.alt 43 (.free 44 .nil) .nil)) .nil)))) .nil)) .nil)))) .nil)) .nil) .nil))) .nil)) .nil) .nil) (.alt 25 (.alt 26 (.free 27 (.alt 28 (.free 29 (.spl 29 (.alt 30 (.alt 31 (.free 32 (.alt 33 (.free 34 (.spl 34 (.free 35 (.alt 36 (.free 37 (.alt 38 (.free 39 (.spl 39 (.free 40 (.alt 41 (.free 42 (.alt 43 (.free 44 .nil) .nil)) .nil)) (.free 40 (.alt 41 (.free 42 (.alt 43 (.free 44 .nil) .nil)) .nil)))) .nil)) .nil)) (.free 35 (.alt 36 (.free 37 (.alt 38 (.free 39 (.spl 39 (.free 40 (.alt 41 (.free 42 (.alt 43 (.free 44 .nil) .nil)) .nil)) (.free 40 (.alt 41 (.free 42 (.alt 43 (.free 44 .nil) .nil)) .nil)))) .nil)) .nil)))) .nil)) .nil) .nil) (.alt 30 (.alt 31 (.free 32 (.alt 33 (.free 34 (.spl 34 (.free 35 (.alt 36 (.free 37 (.alt 38 (.free 39 (.spl 39 (.free 40 (.alt 41 (.free 42 (.alt 43 (.free 44 .nil) .nil)) .nil)) (.free 40 (.alt 41 (.free 42 (.alt 43 (.free 44 .nil) .nil)) .nil)))) .nil)) .nil)) (.free 35 (.alt 36 (.free 37 (.alt 38 (.free 39 (.spl 39 (.free 40 (.alt 41 (.free 42 (.alt 43 (.free 44 .nil) .nil)) .nil)) (.free 40 (.alt 41 (.free 42 (.alt 43 (.free 44 .nil) .nil)) .nil)))) .nil)) .nil)))) .nil)) .nil) .nil))) .nil)) .nil) .nil))) .nil)) .nil)) .nil)) (.free 18 (.alt 19 (.free 20 (.alt 21 (.free 22 (.alt 23 (.free 24 (.spl 24 (.alt 25 (.alt 26 (.free 27 (.alt 28 (.free 29 (.spl 29 (.alt 30 (.alt 31 (.free 32 (.alt 33 (.free 34 (.spl 34 (.free 35 (.alt 36 (.free 37 (.alt 38 (.free 39 (.spl 39 (.free 40 (.alt 41 (.free 42 (.alt 43 (.free 44 .nil) .nil)) .nil)) (.free 40 (.alt 41 (.free 42 (.alt 43 (.free 44 .nil) .nil)) .nil)))) .nil)) .nil)) (.free 35 (.alt 36 (.free 37 (.alt 38 (.free 39 (.spl 39 (.free 40 (.alt 41 (.free 42 (.alt 43 (.free 44 .nil) .nil)) .nil)) (.free 40 (.alt 41 (.free 42 (.alt 43 (.free 44 .nil) .nil)) .nil)))) .nil)) .nil)))) .nil)) .nil) .nil) (.alt 30 (.alt 31 (.free 32 (.alt 33 (.free 34 (.spl 34 (.free 35 (.alt 36 (.free 37 (.alt 38 (.free 39 (.spl 39 (.free 40 (.alt 41 (.free 42 (.alt 43 (.free 44 .nil) .nil)) .nil)) (.free 40 (.alt 41 (.free 42 (.alt 43 (.free 44 .nil) .nil)) .nil)))) .nil)) .nil)) (.free 35 (.alt 36 (.free 37 (.alt 38 (.free 39 (.spl 39 (.free 40 (.alt 41 (.free 42 (.alt 43 (.free 44 .nil) .nil)) .nil)) (.free 40 (.alt 41 (.free 42 (.alt 43 (.free 44 .nil) .nil)) .nil)))) .nil)) .nil)))) .nil)) .nil) .nil))) .nil)) .nil) .nil) (.alt 25 (.alt 26 (.free 27 (.alt 28 (.free 29 (.spl 29 (.alt 30 (.alt 31 (.free 32 (.alt 33 (.free 34 (.spl 34 (.free 35 (.alt 36 (.free 37 (.alt 38 (.free 39 (.spl 39 (.free 40 (.alt 41 (.free 42 (.alt 43 (.free 44 .nil) .nil)) .nil)) (.free 40 (.alt 41 (.free 42 (.alt 43 (.free 44 .nil) .nil)) .nil)))) .nil)) .nil)) (.free 35 (.alt 36 (.free 37 (.alt 38 (.free 39 (.spl 39 (.free 40 (.alt 41 (.free 42 (.alt 43 (.free 44 .nil) .nil)) .nil)) (.free 40 (.alt 41 (.free 42 (.alt 43 (.free 44 .nil) .nil)) .nil)))) .nil)) .nil)))) .nil)) .nil) .nil) (.alt 30 (.alt 31 (.free 32 (.alt 33 (.free 34 (.spl 34 (.free 35 (.alt 36 (.free 37 (.alt 38 (.free 39 (.spl 39 (.free 40 (.alt 41 (.free 42 (.alt 43 (.free 44 .nil) .nil)) .nil)) (.free 40 (.alt 41 (.free 42 (.alt 43 (.free 44 .nil) .nil)) .nil)))) .nil)) .nil)) (.free 35 (.alt 36 (.free 37 (.alt 38 (.free 39 (.spl 39 (.free 40 (.alt 41 (.free 42 (.alt 43 (.free 44 .nil) .nil)) .nil)) (.free 40 (.alt 41 (.free 42 (.alt 43 (.free 44 .nil) .nil)) .nil)))) .nil)) .nil)))) .nil)) .nil) .nil))) .nil)) .nil) .nil))) .nil)) .nil)) .nil)))) .nil)) .nil)))) .nil) .nil) .nil))) .nil) .nil) .nil)))) .nil) .nil) .nil)) .p))))))) λ_=>by kernel_rfl,by kernel_rfl⟩
def c_3:Con te:=ae_ te [.d (.st 0)] [(.bool,[])] false λa=>cN_ a.1
theorem ok_3:OKF 3 c_3:=⟨aa_ ad_ (ac_ ok_6 (ac_ ok_5 (ac_ ok_4 ab_))) Tryz.func3 (by kernel_rfl) (pl := .s .p (.s (.dr [0,0,0,0,0,0,0,0,0] [] false []) .p)) λ_=>by kernel_rfl,by kernel_rfl⟩
end
end Go.Proofs.YtkammpnldgkiiaaGreatDoor
namespace Go
namespace Rt
theorem w64_eq{n:Int}(h:I64 n):w64 n=n:=by
 unfold w64;rw[IntKind.wrap_i64];omega
theorem wi64_eq{n:Int}(h:I64 n):IntKind.i64.wrap n=n:=w64_eq h
theorem aA_{α β:Type}{x:Option α}{a:α}{f:α->Option β}{r:Option β}(h:x=some a)(hr:f a=r):x.bind f=r:=by subst h;exact hr
theorem cond_t{α:Type}{c:Bool}{A B r:α}(hc:c=true)(h:A=r):(bif c then A else B)=r:=by subst hc;exact h
theorem gE_{α:Type}{c:Bool}{A B r:α}(hc:c=false)(h:B=r):(bif c then A else B)=r:=by subst hc;exact h
theorem dN_{a b:Str}(h:a.length+b.length<=9223372036854775807):cat a b=some (a++b):=by
 unfold cat;rw[if_pos h]
end Rt
end Go
namespace Go.Proofs.YtkammpnldgkiiaaGreatDoor
open Go.Rt Go.RowKit
theorem nP_{σ β:Type}{body:σ->Option (Step σ β)}{s s':σ}{n:Nat}{r:Option β}(h:body s=some (.next s'))(hr:ag_ body n s'=r):ag_ body (n+1) s=r:=by
 simp only[ag_,h];exact hr
theorem nQ_{σ β:Type}{body:σ->Option (Step σ β)}{s:σ}{n:Nat}{b:β}(h:body s=some (.done b)):ag_ body (n+1) s=some b:=by
 simp only[ag_,h]
theorem nR_{σ β:Type}{body:σ->Option (Step σ β)}{b:β}:∀{n m:Nat} {s:σ},ag_ body n s=some b->n<=m->ag_ body m s=some b
 | 0,_,_,h,_=>by cases h
 | n+1,0,_,_,hm=>by omega
 | n+1,m+1,s,h,hm=>by
  simp only[ag_]at h ⊢;cases hb:body s with
  | none=>rw[hb]at h;cases h
  | some x =>
   rw[hb]at h;cases x with
   | done b'=>exact h
   | next s'=>exact nR_ (n:=n) (m:=m) (s:=s') h (by omega)
def itoaS(n:Int):Str:=if n<0 then 45::digF 20 n.natAbs else digF 20 n.toNat
theorem text_eq{n:Int}(h:I64 n):d1_ n 10=some (itoaS n):=by
 unfold d1_;exact aA_ (a:=true) rfl (gE_ rfl (aA_ (by unfold bM_;rw[if_pos ⟨rfl,h.1,h.2⟩];rfl) rfl))
theorem nS_(u:Nat)(s:Str)(hu:u<=9223372036854775808)(hs:s.length<=1000)(hc:(decide (-(u:Int)<0)||(s==[]))=true):bF_ 10 (-(u:Int),s)=some (.next (-((u/10:Nat):Int),UInt8.ofNat (48+u%10)::s)):=by
 unfold bF_;have hd:u%10<10:=Nat.mod_lt _ (by omega);have e1:remI (-(u:Int)) 10=some (-((u%10:Nat):Int)):=by
  unfold remI;rw[if_neg (by decide),Int.neg_tmod,Int.tmod_eq_emod_of_nonneg (by omega)];rfl
 have e2:quoI .i64 (-(u:Int)) 10=some (-((u/10:Nat):Int)):=by
  unfold quoI;rw[if_neg (by decide),Int.neg_tdiv,Int.tdiv_eq_ediv_of_nonneg (by omega),wi64_eq ⟨by omega,by omega⟩];rfl
 refine cond_t hc (aA_ e1 (aA_ (a:=[UInt8.ofNat (48+u%10)]) ?_ (aA_ (a:=UInt8.ofNat (48+u%10)::s) ?_ (aA_ e2 rfl))))
 .generalize u%10=d at hd;have h:d=0\/d=1\/d=2\/d=3\/d=4\/d=5\/d=6\/d=7\/d=8\/d=9:=by omega
  rcases h with rfl|rfl|rfl|rfl|rfl|rfl|rfl|rfl|rfl|rfl<;>rfl
 .rw[dN_ (by simp;omega)];rfl
theorem ku_(f u:Nat):digF (f+1) u=if u<10 then[UInt8.ofNat (48+u)]else digF f (u/10)++[UInt8.ofNat (48+u%10)]:=rfl
theorem lE_:∀(f u:Nat) (s:Str),u<10^f->u<=9223372036854775808->s≠[]->s.length+f<=1000->ag_ (bF_ 10) (f+1) (-(u:Int),s)=some ((if u=0 then[]else digF f u)++s)
 | 0,u,s,h,_,hs,_=>by
  have:u=0:=by simpa using h
  subst this;refine nQ_ ?_;unfold bF_;refine gE_ ?_ rfl;cases s with
  | nil=>exact absurd rfl hs
  | cons a l=>rfl
 | f+1,u,s,h,hu,hs,hl=>by
  by_cases h0:u=0
  .subst h0;rw[if_pos rfl];refine nQ_ ?_;unfold bF_;refine gE_ ?_ rfl;cases s with
   | nil=>exact absurd rfl hs
   | cons a l=>rfl
  .rw[if_neg h0];have hc:(decide (-(u:Int)<0)||(s==[]))=true:=by
    have:decide (-(u:Int)<0)=true:=by simp;omega
    rw[this];rfl
   refine nP_ (nS_ u s hu (by omega) hc) ((lE_ f (u/10) (UInt8.ofNat (48+u%10)::s) (by rw[Nat.pow_succ]at h;omega) (by omega) (by simp) (by simp;omega)).trans ?_);rw[ku_ f u];by_cases h1:u<10
   .rw[if_pos h1,if_pos (by omega),Nat.mod_eq_of_lt h1];rfl
   .rw[if_neg h1,if_neg (by omega)];simp
theorem digits_eq{u:Nat}(h:u<=9223372036854775808):cz_ (-(u:Int)) 10=some (digF 20 u):=by
 unfold cz_;have hstep:=nS_ u [] h (by simp) (by simp);have hrest:=lE_ 19 (u/10) [UInt8.ofNat (48+u%10)] (by omega) (by omega) (by simp) (by simp);have h:=nR_ (nP_ hstep hrest) (show 19+1+1<=BIG by decide);refine aA_ h (congrArg some ?_);rw[show digF 20 u=_ from ku_ 19 u];by_cases h2:u<10
 .rw[if_pos h2,if_pos (by omega),Nat.mod_eq_of_lt h2];rfl
 .rw[if_neg h2,if_neg (by omega)]
theorem iX_:∀(f u:Nat),(digF f u).length<=f
 | 0,_=>Nat.le_refl _
 | f+1,u=>by
  rw[ku_];split
  .simp
  .have:=iX_ f (u/10);rw[qLa];simp only[qLc,List.length_nil];omega
theorem itoaS_len(n:Int):(itoaS n).length<=21:=by
 unfold itoaS;split
 .have:=iX_ 20 n.natAbs;simp only[qLc];omega
 .have:=iX_ 20 n.toNat;omega
theorem lF_{n:Int}(h:I64 n):ci_ n 10=some (itoaS n):=by
 obtain⟨hl,hu⟩:=h;unfold ci_ itoaS;refine aA_ (a:=true) rfl (gE_ rfl ?_);by_cases h0:n<0
 .rw[if_pos h0];have e:n = -((n.natAbs:Nat):Int):=by omega
  refine cond_t (by simpa using h0) (aA_ (a:=digF 20 n.natAbs) ?_ (aA_ (a:=45::digF 20 n.natAbs) ?_ rfl))
  .exact(congrArg (λm=>cz_ m 10) e).trans (digits_eq (by omega))
  .have:=iX_ 20 n.natAbs;rw[dN_ (by simp;omega)];rfl
 .rw[if_neg h0];refine gE_ (by simpa using h0) ?_;have e:w64 (0-n) = -((n.toNat:Nat):Int):=by
   rw[w64_eq ⟨by omega,by omega⟩];omega
  rw[e];exact aA_ (digits_eq (by omega)) rfl
def kindW:List Str:=[[],[105,110,118,97,108,105,100],[113,117,111,116,97],[108,101,97,115,101],[104,111,108,100],[115,116,97,108,101],[97,114,99,104,105,118,101]]
theorem kind_at{k:Int}(h0:1<=k)(h1:k<=6):∃s,af_ kindW k=some s/\s.length<=7:=by
 have h:k=1\/k=2\/k=3\/k=4\/k=5\/k=6:=by omega
 rcases h with rfl|rfl|rfl|rfl|rfl|rfl<;>exact⟨_,rfl,by decide⟩
theorem texts_eq(x:Xm)(ha:I64 x.A_)(hb:I64 x.B_):∃s,ch_ x=some s/\fQ_ x=some s:=by
 unfold ch_ fQ_;by_cases h:1<=x.Xw/\x.Xw<=6
 .obtain⟨s,hs,hl⟩:=kind_at h.1 h.2;have la:=itoaS_len x.A_;have lb:=itoaS_len x.B_;refine⟨s++[32]++itoaS x.A_++[32]++itoaS x.B_,gE_ ?_ (aA_ hs (aA_ (dN_ ?_) (aA_ (text_eq ha) (aA_ (dN_ ?_) (aA_ (dN_ ?_) (aA_ (text_eq hb) (aA_ (dN_ ?_) rfl))))))),gE_ ?_ (aA_ hs (aA_ (dN_ ?_) (aA_ (lF_ ha) (aA_ (dN_ ?_) (aA_ (dN_ ?_) (aA_ (lF_ hb) (aA_ (dN_ ?_) rfl)))))))⟩
  .rw[decide_eq_false (by omega),decide_eq_false (by omega)];rfl
  .simp;omega
  .simp;omega
  .simp;omega
  .simp;omega
  .rw[decide_eq_false (by omega),decide_eq_false (show ¬x.Xw>=_ from by simp;omega)];rfl
  .simp;omega
  .simp;omega
  .simp;omega
  .simp;omega
 .refine⟨[],cond_t ?_ rfl,cond_t ?_ rfl⟩
  .rw[Bool.or_eq_true,decide_eq_true_eq,decide_eq_true_eq];omega
  .rw[Bool.or_eq_true,decide_eq_true_eq,decide_eq_true_eq];simp;omega
noncomputable section
instance outDec{a b:Type}[DecidableEq a][DecidableEq b]:DecidableEq (Out a b)
 | .ret x,.ret y=>if h:x=y then isTrue (by rw[h])else isFalse (λe=>h (by injection e))
 | .fall x,.fall y=>if h:x=y then isTrue (by rw[h])else isFalse (λe=>h (by injection e))
 | .ret _,.fall _=>isFalse (λe=>by cases e)
 | .fall _,.ret _=>isFalse (λe=>by cases e)
instance dq0:DecidableEq (List Yd×List Yc):=instDecidableEqProd
instance dq1:DecidableEq (List Yb×List Yd×List Yc):=instDecidableEqProd
instance dq2:DecidableEq (List Xd×List Yb×List Yd×List Yc):=instDecidableEqProd
instance dq3:DecidableEq (List Xn×List Xd×List Yb×List Yd×List Yc):=instDecidableEqProd
instance dq4:DecidableEq (Int×List Xn×List Xd×List Yb×List Yd×List Yc):=instDecidableEqProd
instance dq5:DecidableEq (List Xx×Int×List Xn×List Xd×List Yb×List Yd×List Yc):=instDecidableEqProd
instance dq6:DecidableEq (List Yj×List Xx×Int×List Xn×List Xd×List Yb×List Yd×List Yc):=instDecidableEqProd
instance dq7:DecidableEq (List Yg×List Yj×List Xx×Int×List Xn×List Xd×List Yb×List Yd×List Yc):=instDecidableEqProd
instance dq8:DecidableEq (Int×List Yg×List Yj×List Xx×Int×List Xn×List Xd×List Yb×List Yd×List Yc):=instDecidableEqProd
instance dq9:DecidableEq (Int×Int×List Yg×List Yj×List Xx×Int×List Xn×List Xd×List Yb×List Yd×List Yc):=instDecidableEqProd
instance dq10:DecidableEq (List Yh×Int×Int×List Yg×List Yj×List Xx×Int×List Xn×List Xd×List Yb×List Yd×List Yc):=instDecidableEqProd
instance dq11:DecidableEq (Int×List Yh×Int×Int×List Yg×List Yj×List Xx×Int×List Xn×List Xd×List Yb×List Yd×List Yc):=instDecidableEqProd
instance dq12:DecidableEq (List Yy×Int×List Yh×Int×Int×List Yg×List Yj×List Xx×Int×List Xn×List Xd×List Yb×List Yd×List Yc):=instDecidableEqProd
instance dq13:DecidableEq (List Xr×List Yy×Int×List Yh×Int×Int×List Yg×List Yj×List Xx×Int×List Xn×List Xd×List Yb×List Yd×List Yc):=instDecidableEqProd
instance dq14:DecidableEq (Int×List Xr×List Yy×Int×List Yh×Int×Int×List Yg×List Yj×List Xx×Int×List Xn×List Xd×List Yb×List Yd×List Yc):=instDecidableEqProd
instance dr0:DecidableEq (List Yp×List Xj):=instDecidableEqProd
instance dr1:DecidableEq (Str×List Yp×List Xj):=instDecidableEqProd
instance dr2:DecidableEq (Int×Str×List Yp×List Xj):=instDecidableEqProd
instance dr3:DecidableEq (Bool×Int×Str×List Yp×List Xj):=instDecidableEqProd
instance dr4:DecidableEq (Int×Bool×Int×Str×List Yp×List Xj):=instDecidableEqProd
def fv_ (x0 : Xv) (x1:Xx) (x2:Int) (x3:Xj):Option (Xv×Xx×(List Xk)) :=
 (eS_ x1 x2).bind λy1 =>
 (af_ x1.Vw y1).bind λy2 =>
 (dI_ x3).bind λy3 =>
 (ca_ x3.Xw).bind λy4 =>
 (bif ((!y4)||(y3 != 0))then
  Option.bind (
   (bif(y3==0)then
    some 2
   else
    some y3)
   ) λ(_:Int) =>
  (ah_ (
   (ah_ (
    none) (
    (ah_ (
     none) (
     none))))) (
   (ah_ (
    (ah_ (
     none) (
     (ah_ (
      none) (
      none))))) (
    (ah_ (
     (ah_ (
      none) (
      none))) (
     (ah_ (
      (ah_ (
       none) (
       none))) (
      none))))))))
 else
  (bif ((x3.Xw != 100)&&(y2.Xc==0))then
   (ah_ (
    (ah_ (
     none) (
     (ah_ (
      none) (
      none))))) (
    (ah_ (
     (ah_ (
      none) (
      (ah_ (
       none) (
       none))))) (
     (ah_ (
      (ah_ (
       none) (
       none))) (
      (ah_ (
       (ah_ (
        none) (
        none))) (
       none))))))))
  else
   Option.bind (bif(x3.Xw != 100)then 
    (gl_ y2 x3.Ww).bind λy5 =>
    some y5
     else some false) λ(y6:Bool) =>
   (bif y6 then
    (ah_ (
     (ah_ (
      none) (
      (ah_ (
       none) (
       none))))) (
     (ah_ (
      (ah_ (
       none) (
       (ah_ (
        none) (
        none))))) (
      (ah_ (
       (ah_ (
        none) (
        none))) (
       (ah_ (
        (ah_ (
         none) (
         none))) (
        none))))))))
   else
    (iN_ x0 x1 y2 x3).bind λy7 =>
    (bif (!y7.2.2.2)then
     (ah_ (
      (ah_ (
       (ah_ (
        (ah_ (
         some ((y7.1,y7.2.1,[(Xk.mk x2 y7.2.2.1)]))) (
         (ah_ (
          some ((y7.1,y7.2.1,[(Xk.mk x2 y7.2.2.1)]))) (
          some ((y7.1,y7.2.1,[(Xk.mk x2 y7.2.2.1)]))))))) (
        (ah_ (
         (ah_ (
          some ((y7.1,y7.2.1,[(Xk.mk x2 y7.2.2.1)]))) (
          some ((y7.1,y7.2.1,[(Xk.mk x2 y7.2.2.1)]))))) (
         some ((y7.1,y7.2.1,[(Xk.mk x2 y7.2.2.1)]))))))) (
       (ah_ (
        (ah_ (
         (ah_ (
          some ((y7.1,y7.2.1,[(Xk.mk x2 y7.2.2.1)]))) (
          (ah_ (
           some ((y7.1,y7.2.1,[(Xk.mk x2 y7.2.2.1)]))) (
           some ((y7.1,y7.2.1,[(Xk.mk x2 y7.2.2.1)]))))))) (
         (ah_ (
          (ah_ (
           some ((y7.1,y7.2.1,[(Xk.mk x2 y7.2.2.1)]))) (
           some ((y7.1,y7.2.1,[(Xk.mk x2 y7.2.2.1)]))))) (
          (ah_ (
           (ah_ (
            some ((y7.1,y7.2.1,[(Xk.mk x2 y7.2.2.1)]))) (
            some ((y7.1,y7.2.1,[(Xk.mk x2 y7.2.2.1)]))))) (
           some ((y7.1,y7.2.1,[(Xk.mk x2 y7.2.2.1)]))))))))) (
        (ah_ (
         (ah_ (
          (ah_ (
           some ((y7.1,y7.2.1,[(Xk.mk x2 y7.2.2.1)]))) (
           some ((y7.1,y7.2.1,[(Xk.mk x2 y7.2.2.1)]))))) (
          some ((y7.1,y7.2.1,[(Xk.mk x2 y7.2.2.1)]))))) (
         (ah_ (
          (ah_ (
           some ((y7.1,y7.2.1,[(Xk.mk x2 y7.2.2.1)]))) (
           some ((y7.1,y7.2.1,[(Xk.mk x2 y7.2.2.1)]))))) (
          some ((y7.1,y7.2.1,[(Xk.mk x2 y7.2.2.1)]))))))))))) (
      (ah_ (
       (ah_ (
        (ah_ (
         (ah_ (
          some ((y7.1,y7.2.1,[(Xk.mk x2 y7.2.2.1)]))) (
          (ah_ (
           some ((y7.1,y7.2.1,[(Xk.mk x2 y7.2.2.1)]))) (
           some ((y7.1,y7.2.1,[(Xk.mk x2 y7.2.2.1)]))))))) (
         (ah_ (
          (ah_ (
           some ((y7.1,y7.2.1,[(Xk.mk x2 y7.2.2.1)]))) (
           some ((y7.1,y7.2.1,[(Xk.mk x2 y7.2.2.1)]))))) (
          some ((y7.1,y7.2.1,[(Xk.mk x2 y7.2.2.1)]))))))) (
        (ah_ (
         (ah_ (
          some ((y7.1,y7.2.1,[(Xk.mk x2 y7.2.2.1)]))) (
          (ah_ (
           some ((y7.1,y7.2.1,[(Xk.mk x2 y7.2.2.1)]))) (
           some ((y7.1,y7.2.1,[(Xk.mk x2 y7.2.2.1)]))))))) (
         some ((y7.1,y7.2.1,[(Xk.mk x2 y7.2.2.1)]))))))) (
       (ah_ (
        (ah_ (
         (ah_ (
          some ((y7.1,y7.2.1,[(Xk.mk x2 y7.2.2.1)]))) (
          (ah_ (
           some ((y7.1,y7.2.1,[(Xk.mk x2 y7.2.2.1)]))) (
           some ((y7.1,y7.2.1,[(Xk.mk x2 y7.2.2.1)]))))))) (
         (ah_ (
          (ah_ (
           some ((y7.1,y7.2.1,[(Xk.mk x2 y7.2.2.1)]))) (
           some ((y7.1,y7.2.1,[(Xk.mk x2 y7.2.2.1)]))))) (
          (ah_ (
           (ah_ (
            some ((y7.1,y7.2.1,[(Xk.mk x2 y7.2.2.1)]))) (
            some ((y7.1,y7.2.1,[(Xk.mk x2 y7.2.2.1)]))))) (
           some ((y7.1,y7.2.1,[(Xk.mk x2 y7.2.2.1)]))))))))) (
        (ah_ (
         (ah_ (
          (ah_ (
           some ((y7.1,y7.2.1,[(Xk.mk x2 y7.2.2.1)]))) (
           (ah_ (
            some ((y7.1,y7.2.1,[(Xk.mk x2 y7.2.2.1)]))) (
            some ((y7.1,y7.2.1,[(Xk.mk x2 y7.2.2.1)]))))))) (
          some ((y7.1,y7.2.1,[(Xk.mk x2 y7.2.2.1)]))))) (
         (ah_ (
          (ah_ (
           some ((y7.1,y7.2.1,[(Xk.mk x2 y7.2.2.1)]))) (
           some ((y7.1,y7.2.1,[(Xk.mk x2 y7.2.2.1)]))))) (
          some ((y7.1,y7.2.1,[(Xk.mk x2 y7.2.2.1)]))))))))))))
    else
     (bif (decide ((y2.Ym.length:Int)>=64))then
      (ah_ (
       (ah_ (
        none) (
        (ah_ (
         none) (
         none))))) (
       (ah_ (
        (ah_ (
         none) (
         (ah_ (
          none) (
          none))))) (
        (ah_ (
         (ah_ (
          none) (
          none))) (
         (ah_ (
          (ah_ (
           none) (
           none))) (
          none))))))))
     else
      Option.bind (
       (ah_ (
        (ah_ (
         (ah_ (
          (room 424 ([]:List Xj) y2.Ym).bind λy46 =>
          (room 424 y46 [x3]).bind λy47 =>
          some (y2.Id_,y2.Up_,y2.Xc,y2.Xf,y2.Yk,y47)) (
          (ah_ (
           (room 424 ([]:List Xj) y2.Ym).bind λy44 =>
           (room 424 y44 [x3]).bind λy45 =>
           some (y2.Id_,y2.Up_,y2.Xc,y2.Xf,y2.Yk,y45)) (
           (room 424 ([]:List Xj) y2.Ym).bind λy42 =>
           (room 424 y42 [x3]).bind λy43 =>
           some (y2.Id_,y2.Up_,y2.Xc,y2.Xf,y2.Yk,y43)))))) (
         (ah_ (
          (ah_ (
           (room 424 ([]:List Xj) y2.Ym).bind λy40 =>
           (room 424 y40 [x3]).bind λy41 =>
           some (y2.Id_,y2.Up_,y2.Xc,y2.Xf,y2.Yk,y41)) (
           (room 424 ([]:List Xj) y2.Ym).bind λy38 =>
           (room 424 y38 [x3]).bind λy39 =>
           some (y2.Id_,y2.Up_,y2.Xc,y2.Xf,y2.Yk,y39)))) (
          (room 424 ([]:List Xj) y2.Ym).bind λy36 =>
          (room 424 y36 [x3]).bind λy37 =>
          some (y2.Id_,y2.Up_,y2.Xc,y2.Xf,y2.Yk,y37)))))) (
        (ah_ (
         (ah_ (
          (ah_ (
           (room 424 ([]:List Xj) y2.Ym).bind λy34 =>
           (room 424 y34 [x3]).bind λy35 =>
           some (y2.Id_,y2.Up_,y2.Xc,y2.Xf,y2.Yk,y35)) (
           (ah_ (
            (room 424 ([]:List Xj) y2.Ym).bind λy32 =>
            (room 424 y32 [x3]).bind λy33 =>
            some (y2.Id_,y2.Up_,y2.Xc,y2.Xf,y2.Yk,y33)) (
            (room 424 ([]:List Xj) y2.Ym).bind λy30 =>
            (room 424 y30 [x3]).bind λy31 =>
            some (y2.Id_,y2.Up_,y2.Xc,y2.Xf,y2.Yk,y31)))))) (
          (ah_ (
           (ah_ (
            (room 424 ([]:List Xj) y2.Ym).bind λy28 =>
            (room 424 y28 [x3]).bind λy29 =>
            some (y2.Id_,y2.Up_,y2.Xc,y2.Xf,y2.Yk,y29)) (
            (room 424 ([]:List Xj) y2.Ym).bind λy26 =>
            (room 424 y26 [x3]).bind λy27 =>
            some (y2.Id_,y2.Up_,y2.Xc,y2.Xf,y2.Yk,y27)))) (
           (room 424 ([]:List Xj) y2.Ym).bind λy24 =>
           (room 424 y24 [x3]).bind λy25 =>
           some (y2.Id_,y2.Up_,y2.Xc,y2.Xf,y2.Yk,y25)))))) (
         (ah_ (
          (ah_ (
           (ah_ (
            (room 424 ([]:List Xj) y2.Ym).bind λy22 =>
            (room 424 y22 [x3]).bind λy23 =>
            some (y2.Id_,y2.Up_,y2.Xc,y2.Xf,y2.Yk,y23)) (
            (room 424 ([]:List Xj) y2.Ym).bind λy20 =>
            (room 424 y20 [x3]).bind λy21 =>
            some (y2.Id_,y2.Up_,y2.Xc,y2.Xf,y2.Yk,y21)))) (
           (room 424 ([]:List Xj) y2.Ym).bind λy18 =>
           (room 424 y18 [x3]).bind λy19 =>
           some (y2.Id_,y2.Up_,y2.Xc,y2.Xf,y2.Yk,y19)))) (
          (ah_ (
           (ah_ (
            (ah_ (
             (room 424 ([]:List Xj) y2.Ym).bind λy16 =>
             (room 424 y16 [x3]).bind λy17 =>
             some (y2.Id_,y2.Up_,y2.Xc,y2.Xf,y2.Yk,y17)) (
             (room 424 ([]:List Xj) y2.Ym).bind λy14 =>
             (room 424 y14 [x3]).bind λy15 =>
             some (y2.Id_,y2.Up_,y2.Xc,y2.Xf,y2.Yk,y15)))) (
            (room 424 ([]:List Xj) y2.Ym).bind λy12 =>
            (room 424 y12 [x3]).bind λy13 =>
            some (y2.Id_,y2.Up_,y2.Xc,y2.Xf,y2.Yk,y13)))) (
           (ah_ (
            (room 424 ([]:List Xj) y2.Ym).bind λy10 =>
            (room 424 y10 [x3]).bind λy11 =>
            some (y2.Id_,y2.Up_,y2.Xc,y2.Xf,y2.Yk,y11)) (
            (room 424 ([]:List Xj) y2.Ym).bind λy8 =>
            (room 424 y8 [x3]).bind λy9 =>
            some (y2.Id_,y2.Up_,y2.Xc,y2.Xf,y2.Yk,y9)))))))))))
       ) λ(o2:Int×Bool×Int×Str×(List Yp)×(List Xj)) =>
      (et_ x1 (Yu.mk o2.1 o2.2.1 o2.2.2.1 o2.2.2.2.1 o2.2.2.2.2.1 o2.2.2.2.2.2)).bind λy48 =>
      some ((x0,y48,[])))))))
theorem qp_:e8_=fv_:=by
 funext x0 x1 x2 x3
 simp only[e8_,fv_,hD_]<;>rfl
def cO_(x0:Xv)(x1:Xx)(x2:Int)(x3:Xj):Option (Xv×Xx×(List Xk)) :=
 (eS_ x1 x2).bind λy1 =>
 (bif(decide (y1<0))then
  some ((x0,x1,[]))
 else
  (gk_ x0 x1).bind λy2 =>
  (fv_ y2.1 y2.2 x2 x3).bind λy3 =>
  (iO_ y3.1 y3.2.1).bind λy4 =>
  (room 432 ([]:List Xk) y3.2.2).bind λy5 =>
  (room 432 y5 y4.2.2).bind λy6 =>
  some ((y4.1,y4.2.1,y6)))
theorem e_ref36_Do:dg_=cO_:=by
 funext x0 x1 x2 x3
 simp only[dg_,cO_,qp_]<;>rfl
def c1_ (s4:Str×Int×Int×(List Xr)×(List Yy)×Int×(List Yh)×Int×Int×(List Yg)×(List Yj)×(List Xx)×Int×Int×Bool×Int×Str×Str×Int×Bool×Int×Str×(List Int)×(List Wn)×Str×Int×(List Uz)×(List Va)×Str×Int×(List Xj)):Option (Step (Str×Int×Int×(List Xr)×(List Yy)×Int×(List Yh)×Int×Int×(List Yg)×(List Yj)×(List Xx)×Int×Int×Bool×Int×Str×Str×Int×Bool×Int×Str×(List Int)×(List Wn)×Str×Int×(List Uz)×(List Va)×Str×Int×(List Xj)) (Str×Xl)) :=
 (bif (decide (s4.2.1<(s4.2.2.2.2.2.2.2.2.2.2.2.2.2.2.2.2.2.2.2.2.2.2.2.2.2.2.2.2.2.2.length:Int)))then
  Option.bind (
   (af_ s4.2.2.2.2.2.2.2.2.2.2.2.1 s4.2.2.2.2.2.2.2.2.2.2.2.2.1).bind λy20 =>
   (af_ s4.2.2.2.2.2.2.2.2.2.2.2.2.2.2.2.2.2.2.2.2.2.2.2.2.2.2.2.2.2.2 s4.2.1).bind λy21 =>
   (ah_ (
    (cO_ (Xv.mk s4.2.2.1 s4.2.2.2.1 (Ys.mk s4.2.2.2.2.1 s4.2.2.2.2.2.1 s4.2.2.2.2.2.2.1) (Xu.mk s4.2.2.2.2.2.2.2.1 s4.2.2.2.2.2.2.2.2.1 s4.2.2.2.2.2.2.2.2.2.1) s4.2.2.2.2.2.2.2.2.2.2.1) y20 s4.2.2.2.2.2.2.2.2.2.2.2.2.2.1 y21).bind λy26 =>
    (ah_ (
     some (s4.2.2.2.2.2.2.2.2.2.2.2.2.2.2.2.2.2.2.2.2.2.2.2.2.2.2.2.2.2.2,y26.1,y26.2.1,y26.2.2)) (
     some (s4.2.2.2.2.2.2.2.2.2.2.2.2.2.2.2.2.2.2.2.2.2.2.2.2.2.2.2.2.2.2,y26.1,y26.2.1,y26.2.2)))) (
    (ah_ (
     (ah_ (
      (cO_ (Xv.mk s4.2.2.1 s4.2.2.2.1 (Ys.mk s4.2.2.2.2.1 s4.2.2.2.2.2.1 s4.2.2.2.2.2.2.1) (Xu.mk s4.2.2.2.2.2.2.2.1 s4.2.2.2.2.2.2.2.2.1 s4.2.2.2.2.2.2.2.2.2.1) s4.2.2.2.2.2.2.2.2.2.2.1) y20 s4.2.2.2.2.2.2.2.2.2.2.2.2.2.1 y21).bind λy25 =>
      some (s4.2.2.2.2.2.2.2.2.2.2.2.2.2.2.2.2.2.2.2.2.2.2.2.2.2.2.2.2.2.2,y25.1,y25.2.1,y25.2.2)) (
      (cO_ (Xv.mk s4.2.2.1 s4.2.2.2.1 (Ys.mk s4.2.2.2.2.1 s4.2.2.2.2.2.1 s4.2.2.2.2.2.2.1) (Xu.mk s4.2.2.2.2.2.2.2.1 s4.2.2.2.2.2.2.2.2.1 s4.2.2.2.2.2.2.2.2.2.1) s4.2.2.2.2.2.2.2.2.2.2.1) y20 s4.2.2.2.2.2.2.2.2.2.2.2.2.2.1 y21).bind λy24 =>
      some (s4.2.2.2.2.2.2.2.2.2.2.2.2.2.2.2.2.2.2.2.2.2.2.2.2.2.2.2.2.2.2,y24.1,y24.2.1,y24.2.2)))) (
     (ah_ (
      (cO_ (Xv.mk s4.2.2.1 s4.2.2.2.1 (Ys.mk s4.2.2.2.2.1 s4.2.2.2.2.2.1 s4.2.2.2.2.2.2.1) (Xu.mk s4.2.2.2.2.2.2.2.1 s4.2.2.2.2.2.2.2.2.1 s4.2.2.2.2.2.2.2.2.2.1) s4.2.2.2.2.2.2.2.2.2.2.1) y20 s4.2.2.2.2.2.2.2.2.2.2.2.2.2.1 y21).bind λy23 =>
      some (s4.2.2.2.2.2.2.2.2.2.2.2.2.2.2.2.2.2.2.2.2.2.2.2.2.2.2.2.2.2.2,y23.1,y23.2.1,y23.2.2)) (
      (cO_ (Xv.mk s4.2.2.1 s4.2.2.2.1 (Ys.mk s4.2.2.2.2.1 s4.2.2.2.2.2.1 s4.2.2.2.2.2.2.1) (Xu.mk s4.2.2.2.2.2.2.2.1 s4.2.2.2.2.2.2.2.2.1 s4.2.2.2.2.2.2.2.2.2.1) s4.2.2.2.2.2.2.2.2.2.2.1) y20 s4.2.2.2.2.2.2.2.2.2.2.2.2.2.1 y21).bind λy22 =>
      some (s4.2.2.2.2.2.2.2.2.2.2.2.2.2.2.2.2.2.2.2.2.2.2.2.2.2.2.2.2.2.2,y22.1,y22.2.1,y22.2.2)))))))
   ) λ(o5:(List Xj)×Xv×Xx×(List Xk)) =>
  (df_ (Xl.mk (Xv.mk s4.2.2.1 s4.2.2.2.1 (Ys.mk s4.2.2.2.2.1 s4.2.2.2.2.2.1 s4.2.2.2.2.2.2.1) (Xu.mk s4.2.2.2.2.2.2.2.1 s4.2.2.2.2.2.2.2.2.1 s4.2.2.2.2.2.2.2.2.2.1) s4.2.2.2.2.2.2.2.2.2.2.1) s4.2.2.2.2.2.2.2.2.2.2.2.1 (Xn.mk s4.2.2.2.2.2.2.2.2.2.2.2.2.1 s4.2.2.2.2.2.2.2.2.2.2.2.2.2.1 (Wm.mk s4.2.2.2.2.2.2.2.2.2.2.2.2.2.2.1 s4.2.2.2.2.2.2.2.2.2.2.2.2.2.2.2.1 s4.2.2.2.2.2.2.2.2.2.2.2.2.2.2.2.2.1 s4.2.2.2.2.2.2.2.2.2.2.2.2.2.2.2.2.2.1 s4.2.2.2.2.2.2.2.2.2.2.2.2.2.2.2.2.2.2.1) (Yz.mk s4.2.2.2.2.2.2.2.2.2.2.2.2.2.2.2.2.2.2.2.1 s4.2.2.2.2.2.2.2.2.2.2.2.2.2.2.2.2.2.2.2.2.1 s4.2.2.2.2.2.2.2.2.2.2.2.2.2.2.2.2.2.2.2.2.2.1 s4.2.2.2.2.2.2.2.2.2.2.2.2.2.2.2.2.2.2.2.2.2.2.1 s4.2.2.2.2.2.2.2.2.2.2.2.2.2.2.2.2.2.2.2.2.2.2.2.1 s4.2.2.2.2.2.2.2.2.2.2.2.2.2.2.2.2.2.2.2.2.2.2.2.2.1) (Vk.mk s4.2.2.2.2.2.2.2.2.2.2.2.2.2.2.2.2.2.2.2.2.2.2.2.2.2.1 s4.2.2.2.2.2.2.2.2.2.2.2.2.2.2.2.2.2.2.2.2.2.2.2.2.2.2.1 s4.2.2.2.2.2.2.2.2.2.2.2.2.2.2.2.2.2.2.2.2.2.2.2.2.2.2.2.1) s4.2.2.2.2.2.2.2.2.2.2.2.2.2.2.2.2.2.2.2.2.2.2.2.2.2.2.2.2.1 s4.2.2.2.2.2.2.2.2.2.2.2.2.2.2.2.2.2.2.2.2.2.2.2.2.2.2.2.2.2.1)) o5.2.1 o5.2.2.1).bind λy27 =>
  (ag_ (fw_ y27) BIG (s4.1,0,o5.2.2.2)).bind λo8 =>
  some (.next (o8,(w64 (s4.2.1+1)),y27.W_.Vx,y27.W_.Yt,y27.W_.Yf.Db_,y27.W_.Yf.Xp,y27.W_.Yf.Zb,y27.W_.Xt.Xp,y27.W_.Xt.Zq,y27.W_.Xt.L_,y27.W_.Wf,y27.X_,y27.K_.Ze,y27.K_.Vv,y27.K_.Zw.Up_,y27.K_.Zw.Wr,y27.K_.Zw.Wz,y27.K_.Zw.Wq,y27.K_.Zw.Vo,y27.K_.Yv.Up_,y27.K_.Yv.Xc,y27.K_.Yv.Xf,y27.K_.Yv.Yk,y27.K_.Yv.Ws,y27.K_.Yv.Wu,y27.K_.Zc.Wr,y27.K_.Zc.Wa,y27.K_.Zc.Ve,y27.K_.Yn,y27.K_.Wj,o5.1))
 else
  some (.done (s4.1,(Xl.mk (Xv.mk s4.2.2.1 s4.2.2.2.1 (Ys.mk s4.2.2.2.2.1 s4.2.2.2.2.2.1 s4.2.2.2.2.2.2.1) (Xu.mk s4.2.2.2.2.2.2.2.1 s4.2.2.2.2.2.2.2.2.1 s4.2.2.2.2.2.2.2.2.2.1) s4.2.2.2.2.2.2.2.2.2.2.1) s4.2.2.2.2.2.2.2.2.2.2.2.1 (Xn.mk s4.2.2.2.2.2.2.2.2.2.2.2.2.1 s4.2.2.2.2.2.2.2.2.2.2.2.2.2.1 (Wm.mk s4.2.2.2.2.2.2.2.2.2.2.2.2.2.2.1 s4.2.2.2.2.2.2.2.2.2.2.2.2.2.2.2.1 s4.2.2.2.2.2.2.2.2.2.2.2.2.2.2.2.2.1 s4.2.2.2.2.2.2.2.2.2.2.2.2.2.2.2.2.2.1 s4.2.2.2.2.2.2.2.2.2.2.2.2.2.2.2.2.2.2.1) (Yz.mk s4.2.2.2.2.2.2.2.2.2.2.2.2.2.2.2.2.2.2.2.1 s4.2.2.2.2.2.2.2.2.2.2.2.2.2.2.2.2.2.2.2.2.1 s4.2.2.2.2.2.2.2.2.2.2.2.2.2.2.2.2.2.2.2.2.2.1 s4.2.2.2.2.2.2.2.2.2.2.2.2.2.2.2.2.2.2.2.2.2.2.1 s4.2.2.2.2.2.2.2.2.2.2.2.2.2.2.2.2.2.2.2.2.2.2.2.1 s4.2.2.2.2.2.2.2.2.2.2.2.2.2.2.2.2.2.2.2.2.2.2.2.2.1) (Vk.mk s4.2.2.2.2.2.2.2.2.2.2.2.2.2.2.2.2.2.2.2.2.2.2.2.2.2.1 s4.2.2.2.2.2.2.2.2.2.2.2.2.2.2.2.2.2.2.2.2.2.2.2.2.2.2.1 s4.2.2.2.2.2.2.2.2.2.2.2.2.2.2.2.2.2.2.2.2.2.2.2.2.2.2.2.1) s4.2.2.2.2.2.2.2.2.2.2.2.2.2.2.2.2.2.2.2.2.2.2.2.2.2.2.2.2.1 s4.2.2.2.2.2.2.2.2.2.2.2.2.2.2.2.2.2.2.2.2.2.2.2.2.2.2.2.2.2.1)))))
theorem jr_:dz_=c1_:=by
 funext s4
 simp only[dz_,c1_,hD_,e_ref36_Do]<;>rfl
def d4_(x0:Xl)(x1:Str):Option (Xl×(List Xj)):=(er_ x0.K_.Zw true x1).bind λy1=>(es_ y1.1 true (x1.length:Int)).bind λy2=>(dJ_ y2.2 0).bind λy3=>Option.bind (ag_ c1_ BIG ([],0,x0.W_.Vx,x0.W_.Yt,x0.W_.Yf.Db_,x0.W_.Yf.Xp,x0.W_.Yf.Zb,x0.W_.Xt.Xp,x0.W_.Xt.Zq,x0.W_.Xt.L_,x0.W_.Wf,x0.X_,x0.K_.Ze,x0.K_.Vv,x0.K_.Zw.Up_,x0.K_.Zw.Wr,x0.K_.Zw.Wz,x0.K_.Zw.Wq,x0.K_.Zw.Vo,x0.K_.Yv.Up_,x0.K_.Yv.Xc,x0.K_.Yv.Xf,x0.K_.Yv.Yk,x0.K_.Yv.Ws,x0.K_.Yv.Wu,x0.K_.Zc.Wr,x0.K_.Zc.Wa,x0.K_.Zc.Ve,x0.K_.Yn,x0.K_.Wj,y3.1)) λ(o9:Str×Xl)=>(er_ y2.1 false o9.1).bind λy36=>(es_ y36.1 false (o9.1.length:Int)).bind λy37=>(fp_ o9.2.K_.Yv y37.2).bind λy38=>some (((Xl.mk o9.2.W_ o9.2.X_ (Xn.mk o9.2.K_.Ze o9.2.K_.Vv y37.1 y38.1 o9.2.K_.Zc o9.2.K_.Yn o9.2.K_.Wj)),y38.2.1))
theorem mk_:du_=d4_:=by
 funext x0 x1
 simp only[du_,d4_,jr_]<;>rfl
def c8_(x0:Xl)(x1:Xj):Option (Xl×Xj×Bool×Int) :=
 (hp_ x0.K_.Yv x1).bind λy1 =>
 (bif(y1.2.2.2 != 0)then
  some ((x0,(Xj.mk 0 0 0 0 0 0 0 [] [] [] [] [] (Xs.mk 0 0 0) 0 0 0 [] 0 0 [] (Yi.mk 0 0 (Xs.mk 0 0 0) 0 0 0 0 [] [] [] []) 0 0 0 []),false,y1.2.2.2))
 else
  (d4_ (Xl.mk x0.W_ x0.X_ (Xn.mk x0.K_.Ze x0.K_.Vv x0.K_.Zw y1.1 x0.K_.Zc x0.K_.Yn x0.K_.Wj)) y1.2.2.1).bind λy2 =>
  (ag_ (gm_ y2 y1) BIG 0).bind λwo1=>match wo1 with
  | .ret r1=>some r1
  | .fall _ =>
   none)
theorem g8_:cQ_=c8_:=by
 funext x0 x1
 simp only[cQ_,c8_,mk_]<;>rfl
def eX_ (x0:Xl):Option (Xl×Int) :=
 (af_ x0.X_ x0.K_.Ze).bind λy1 =>
 (gh_ y1).bind λy2 =>
 (bif(y2.2.2 != 0)then
  some ((x0,y2.2.2))
 else
  (df_ x0 x0.W_ y2.1).bind λy3 =>
  (fh_).bind λy4 =>
  (hn_ x0.K_.Zc).bind λy5 =>
  Option.bind (c8_ (Xl.mk y3.W_ y3.X_ (Xn.mk y3.K_.Ze y2.2.1 y3.K_.Zw y4 y5 y3.K_.Yn y3.K_.Wj)) (Xj.mk 100 0 0 0 0 0 8192 [102,115,50,48,50,54] [] [] [] [] (Xs.mk 0 0 0) 0 0 0 [] 0 0 [] (Yi.mk 0 0 (Xs.mk 0 0 0) 0 0 0 0 [] [] [] []) 0 0 0 [])) λ(y6:Xl×Xj×Bool×Int) =>
  (bif(y6.2.2.2 != 0)then
   some ((x0,y6.2.2.2))
  else
   (bif(y6.2.1.Xw==107)then
    some ((x0,y6.2.1.Wo))
   else
    some ((y6.1,0)))))
theorem o3_:ev_=eX_:=by
 funext x0
 simp only[ev_,eX_,g8_]<;>rfl
def gF_(x0:Xl)(x1:Str):Option (Xl×Int) :=
 (j6_ x0.K_.Yv).bind λy1 =>
 Option.bind (c8_ (Xl.mk x0.W_ x0.X_ (Xn.mk x0.K_.Ze x0.K_.Vv x0.K_.Zw y1.1 x0.K_.Zc x0.K_.Yn y1.2.1)) (Xj.mk 104 0 y1.2.1 0 4294967295 0 0 [] x0.K_.Yn x1 [] [] (Xs.mk 0 0 0) 0 0 0 [] 0 0 [] (Yi.mk 0 0 (Xs.mk 0 0 0) 0 0 0 0 [] [] [] []) 0 0 0 [])) λ(y2:Xl×Xj×Bool×Int) =>
 (bif(y2.2.2.2 != 0)then
  some ((x0,y2.2.2.2))
 else
  (bif(y2.2.1.Xw==107)then
   some ((x0,y2.2.1.Wo))
  else
   some ((y2.1,0))))
theorem e_ref40_root:fR_=gF_:=by
 funext x0 x1
 simp only[fR_,gF_,g8_]<;>rfl
def b4_ (x0:Xv) (x1:List Xx) (x2:Xn) (x3:Str):Option (Xv×(List Xx)×Xn×Int) :=
 (bif x2.Yv.Up_ then
  some ((x0,x1,x2,43))
 else
  (bif(!x2.Zw.Up_)then
   some ((x0,x1,x2,30))
  else
   (eX_ (Xl.mk x0 x1 x2)).bind λy1 =>
   (bif(y1.2 != 0)then
    some ((x0,x1,x2,y1.2))
   else
    (gF_ y1.1 x3).bind λy2 =>
    (bif(y2.2 != 0)then
     some ((x0,x1,x2,y2.2))
    else
     some ((y2.1.W_,y2.1.X_,y2.1.K_,0))))))
theorem e_ref40_Dial:ck_=b4_:=by
 funext x0 x1 x2 x3
 simp only[ck_,b4_,o3_,e_ref40_root]<;>rfl
def eA_ (y1:(List Xg)) (x1:Str) (x4:Str) (x3:Xg) (s2:Int×Int×Xq×(List Xg)):Option (Step (Int×Int×Xq×(List Xg)) (Out (Int×Xq) (Xq×Xg×Int))) :=
 (bif (decide (s2.2.1<(y1.length:Int)))then
  Option.bind (
   Option.bind (
    (af_ s2.2.2.2 s2.2.1).bind λy9 =>
    (ah_ (
     (bc_ s2.2.2.1 x1 y9 x4).bind λy14 =>
     (ah_ (
      some (y14.2.2,s2.2.2.2,y14.1,y14.2.1)) (
      some (y14.2.2,s2.2.2.2,y14.1,y14.2.1)))) (
     (ah_ (
      (ah_ (
       (bc_ s2.2.2.1 x1 y9 x4).bind λy13 =>
       some (y13.2.2,s2.2.2.2,y13.1,y13.2.1)) (
       (bc_ s2.2.2.1 x1 y9 x4).bind λy12 =>
       some (y12.2.2,s2.2.2.2,y12.1,y12.2.1)))) (
      (ah_ (
       (bc_ s2.2.2.1 x1 y9 x4).bind λy11 =>
       some (y11.2.2,s2.2.2.2,y11.1,y11.2.1)) (
       (bc_ s2.2.2.1 x1 y9 x4).bind λy10 =>
       some (y10.2.2,s2.2.2.2,y10.1,y10.2.1)))))))
    ) λ(o3:Int×(List Xg)×Xq×Xg) =>
   (bif(o3.1==0)then
    (dv_ x3.Xh x4).bind λy15 =>
    some (.ret ((o3.2.2.1,(Xg.mk o3.2.2.2.Yr o3.2.2.2.Id_ o3.2.2.2.Zl o3.2.2.2.Yq y15.1),0)))
   else
    (bif(s2.1==8)then
     some (.fall (o3.1,o3.2.2.1,o3.2.1))
    else
     some (.fall (s2.1,o3.2.2.1,o3.2.1))))
   ) λ(wo4:Out (Int×Xq×(List Xg)) (Xq×Xg×Int))=>match wo4 with
  | .ret r4=>some (.done (.ret r4))
  | .fall o4 =>
   some (.next (o4.1,(w64 (s2.2.1+1)),o4.2.1,o4.2.2))
 else
  some (.done (.fall (s2.1,s2.2.2.1))))
theorem nT_:fq_=eA_:=by
 funext y1 x1 x4 x3 s2
 simp only[fq_,eA_,hD_]<;>rfl
def gG_(x0:Xq)(x1:Str)(x2:Xd)(x3:Xg)(x4:Str):Option (Xq×Xg×Int) :=
 (eT_ x2 x3).bind λy1 =>
 (ag_ (eA_ y1 x1 x4 x3) BIG (8,0,x0,y1)).bind λwo5=>match wo5 with
 | .ret r5=>some r5
 | .fall o5 =>
  some ((o5.2,(Xg.mk 0 0 0 [] []),o5.1))
theorem e_ref43_Step:fS_=gG_:=by
 funext x0 x1 x2 x3 x4
 simp only[fS_,gG_,nT_]<;>rfl
def eB_(y1:(List Str)×Int)(x1:Str)(x2:Xd)(s2:Int×Xq×(List Str)×Xg):Option (Step (Int×Xq×(List Str)×Xg) (Out (Xq×Xg) (Xq×Xg×Int))) :=
 (bif(decide (s2.1<(y1.1.length:Int)))then
  (af_ s2.2.2.1 s2.1).bind λy6 =>
  (gG_ s2.2.1 x1 x2 s2.2.2.2 y6).bind λy7 =>
  (bif(y7.2.2 != 0)then
   some (.done (.ret ((y7.1,(Xg.mk 0 0 0 [] []),y7.2.2))))
  else
   some (.next ((w64 (s2.1+1)),y7.1,s2.2.2.1,y7.2.1)))
 else
  some (.done (.fall (s2.2.1,s2.2.2.2))))
theorem nU_:fr_=eB_:=by
 funext y1 x1 x2 s2
 simp only[fr_,eB_,e_ref43_Step]<;>rfl
def gH_ (x0:Xq) (x1:Str) (x2:Xd) (x3:Str):Option (Xq×Xg×Int) :=
 (e9_ x3).bind λy1 =>
 (bif(y1.2 != 0)then
  some ((x0,(Xg.mk 0 0 0 [] []),y1.2))
 else
  Option.bind (bif(x3==[])then some true else 
   (aC_ x3 0).bind λy2 =>
   some (y2 != 47)
   ) λ(y3:Bool) =>
  (bif y3 then
   some ((x0,(Xg.mk 0 0 0 [] []),1))
  else
   (ag_ (eB_ y1 x1 x2) BIG (0,x0,y1.1,(Xg.mk x2.Wj.Yr x2.Wj.Id_ x2.Wj.Zl x2.Wj.Yq [47]))).bind λwo1=>match wo1 with
   | .ret r1=>some r1
   | .fall o1 =>
    some ((o1.1,o1.2,0))))
theorem e_ref43_Name:fT_=gH_:=by
 funext x0 x1 x2 x3
 simp only[fT_,gH_,nU_]<;>rfl
def fb_(x0:Xq)(x1:Str)(x2:Xd)(x3:Str)(x4:Str)(x5:Bool):Option (Xq×Xg×Int) :=
 (dv_ x3 x4).bind λy1 =>
 (bif(y1.2 != 0)then
  some ((x0,(Xg.mk 0 0 0 [] []),y1.2))
 else
  (bif x5 then
   none
  else
   (gH_ x0 x1 x2 y1.1).bind λy2 =>
   some ((y2.1,y2.2.1,y2.2.2))))
theorem lG_:fj_=fb_:=by
 funext x0 x1 x2 x3 x4 x5
 simp only[fj_,fb_,e_ref43_Name]<;>rfl
def eY_ (x0:Xq) (x1:Str) (x2:Xd) (x3:Str) (x4:Vj):Option (Xq×Xd×Int) :=
 Option.bind (bif(decide ((x4.Ux.length:Int)<2))then some true else 
  (aC_ x4.Ux 0).bind λy1 =>
  some (y1 != 35)
  ) λ(y2:Bool) =>
 (bif y2 then
  some ((x0,x2,1))
 else
  (aB_ x4.Ux 1 (x4.Ux.length:Int)).bind λy3 =>
  (hr_ y3 10 32).bind λy4 =>
  (bif((y4.2 != 0)||(decide (y4.1>=(x0.Yl.Yt.length:Int))))then
   some ((x0,x2,1))
  else
   (fb_ x0 x1 x2 x3 x4.Kz false).bind λy5 =>
   (bif(y5.2.2 != 0)then
    some ((y5.1,x2,y5.2.2))
   else
    (cl_ y5.1 x1 y5.2.1).bind λy6 =>
    (bif(y6.2.2 != 0)then
     some ((y6.1,x2,y6.2.2))
    else
     (bif(!y6.2.1)then
      some ((y6.1,x2,9))
     else
      Option.bind (ka_ x2 y5.2.1 (Xg.mk y4.1 1 0 [] x4.Ux) x4.Ji) λ(y7:Xd×Int) =>
      some ((y6.1,y7.1,y7.2)))))))
theorem o4_:ew_=eY_:=by
 funext x0 x1 x2 x3 x4
 simp only[ew_,eY_,lG_]<;>rfl
def bK_ (x0:Xq) (x1:Str) (x2:Xd) (x3:Str) (x4:Vj):Option (Xq×Xd×Str×Int) :=
 Option.bind (bif(x3==[])then some true else 
  (aC_ x3 0).bind λy1 =>
  some (y1 != 47)
  ) λ(y2:Bool) =>
 (bif y2 then
  some ((x0,x2,x3,1))
 else
  Option.bind (
   (bif(x4.Xw==1)then
    none
   else
    (bif(x4.Xw==2)then
     (eY_ x0 x1 x2 x3 x4).bind λy3 =>
     some (.fall (y3.2.2,y3.1,y3.2.1))
    else
     (bif(x4.Xw==3)then
      none
     else
      (bif(x4.Xw==4)then
       some (.fall (0,x0,(Xd.mk x2.Id_ x2.Wj [])))
      else
       (bif(x4.Xw==5)then
        (fb_ x0 x1 x2 x3 x4.Ux true).bind λy4 =>
        (bif(y4.2.2 != 0)then
         some (.ret ((y4.1,x2,x3,y4.2.2)))
        else
         (cl_ y4.1 x1 y4.2.1).bind λy5 =>
         (bif(y5.2.2 != 0)then
          some (.ret ((y5.1,x2,x3,y5.2.2)))
         else
          (bif(!y5.2.1)then
           some (.ret ((y5.1,x2,x3,9)))
          else
           some (.ret ((y5.1,x2,y4.2.1.Xh,0))))))
       else
        some (.fall (1,x0,x2)))))))
   ) λ(wo1:Out (Int×Xq×Xd) (Xq×Xd×Str×Int))=>match wo1 with
  | .ret r1=>some r1
  | .fall o1 =>
   (bif(o1.1 != 0)then
    some ((o1.2.1,x2,x3,o1.1))
   else
    some ((o1.2.1,o1.2.2,x3,0))))
theorem qq_:bX_=bK_:=by
 funext x0 x1 x2 x3 x4
 simp only[bX_,bK_,o4_,lG_]<;>rfl
def eZ_ (x4:List Vj) (x1:Str) (s2:Str×Int×Xq×Xd):Option (Step (Str×Int×Xq×Xd) (Out (Str×Xq×Xd) (Xq×Xd×Str×Int×Int))) :=
 (bif (decide (s2.2.1<(x4.length:Int)))then
  Option.bind (
   (af_ x4 s2.2.1).bind λy7 =>
   (ah_ (
    (bK_ s2.2.2.1 x1 s2.2.2.2 s2.1 y7).bind λy12 =>
    (ah_ (
     some (y12.2.2.1,y12.2.2.2,y12.1,y12.2.1)) (
     some (y12.2.2.1,y12.2.2.2,y12.1,y12.2.1)))) (
    (ah_ (
     (ah_ (
      (bK_ s2.2.2.1 x1 s2.2.2.2 s2.1 y7).bind λy11 =>
      some (y11.2.2.1,y11.2.2.2,y11.1,y11.2.1)) (
      (bK_ s2.2.2.1 x1 s2.2.2.2 s2.1 y7).bind λy10 =>
      some (y10.2.2.1,y10.2.2.2,y10.1,y10.2.1)))) (
     (ah_ (
      (bK_ s2.2.2.1 x1 s2.2.2.2 s2.1 y7).bind λy9 =>
      some (y9.2.2.1,y9.2.2.2,y9.1,y9.2.1)) (
      (bK_ s2.2.2.1 x1 s2.2.2.2 s2.1 y7).bind λy8 =>
      some (y8.2.2.1,y8.2.2.2,y8.1,y8.2.1)))))))
   ) λ(o2:Str×Int×Xq×Xd) =>
  (bif(o2.2.1 != 0)then
   some (.done (.ret ((o2.2.2.1,s2.2.2.2,s2.1,s2.2.1,o2.2.1))))
  else
   some (.next (o2.1,(w64 (s2.2.1+1)),o2.2.2.1,o2.2.2.2)))
 else
  some (.done (.fall (s2.1,s2.2.2.1,s2.2.2.2))))
theorem o5_:gp_=eZ_:=by
 funext x4 x1 s2
 simp only[gp_,eZ_,hD_,qq_]<;>rfl
def hy_(x0:Xq)(x1:Str)(x2:Xd)(x3:Str)(x4:List Vj):Option (Xq×Xd×Str×Int×Int) :=
 (ag_ (eZ_ x4 x1) BIG (x3,0,x0,x2)).bind λwo3=>match wo3 with
 | .ret r3=>some r3
 | .fall o3 =>
  some ((o3.2.1,o3.2.2,o3.1,(x4.length:Int),0))
theorem e_ref43_Run:g0_=hy_:=by
 funext x0 x1 x2 x3 x4
 simp only[g0_,hy_,o5_]<;>rfl
def gI_(x0:Xq)(x1:Int)(x2:Int):Option (Xq×Xd×Int):=Option.bind (j7_ x1 (Xg.mk x2 1 0 [] [47])) λ(y1:Xd)=>(ag_ (i8_ x0) BIG ((w64 ((x0.Yl.Yt.length:Int)-1)),0)).bind λo3=>Option.bind (ag_ i9_ BIG (0,[[47,110],[47,109,110,116],[47,100,101,118],[47,110,101,116],[47,112,114,111,99],[47,101,110,118]],[(w64 (x2+1)),(w64 (x2+2)),(w64 (x2+3)),(w64 (x2+6)),(w64 (x2+7)),o3],[])) λ(o4:(List Vj))=>(hy_ x0 [97,100,109] y1 [47] o4).bind λy18=>some ((y18.1,y18.2.1,y18.2.2.2.2))
theorem e_ref52_base:fU_=gI_:=by
 funext x0 x1 x2
 simp only[fU_,gI_,e_ref43_Run]<;>rfl
def e0_ (o8:Int×Int×Int×Int×Int×(List Xr)×(List Yy)×(List Yh)×(List Yg)×(List Yj)×(List Xx)×(List Xn)×(List Xd)×(List Yb)×(List Yd)×(List Yc)) (s10:Int×Int×(List Xr)×(List Yy)×Int×(List Yh)×Int×Int×(List Yg)×(List Yj)×(List Xx)×Int×(List Xn)×(List Xd)×(List Yb)×(List Yd)×(List Yc)):Option (Step (Int×Int×(List Xr)×(List Yy)×Int×(List Yh)×Int×Int×(List Yg)×(List Yj)×(List Xx)×Int×(List Xn)×(List Xd)×(List Yb)×(List Yd)×(List Yc)) (Out (Int×(List Xr)×(List Yy)×Int×(List Yh)×Int×Int×(List Yg)×(List Yj)×(List Xx)×Int×(List Xn)×(List Xd)×(List Yb)×(List Yd)×(List Yc)) (Xq×Int))) :=
 (bif (decide (s10.1<(o8.2.2.2.2.2.2.2.2.2.2.2.1.length:Int)))then
  Option.bind (
   Option.bind (
    (af_ s10.2.2.2.2.2.2.2.2.2.2.2.2.1 s10.1).bind λy52 =>
    (ah_ (
     Option.bind (b4_ (Xv.mk s10.2.1 s10.2.2.1 (Ys.mk s10.2.2.2.1 s10.2.2.2.2.1 s10.2.2.2.2.2.1) (Xu.mk s10.2.2.2.2.2.2.1 s10.2.2.2.2.2.2.2.1 s10.2.2.2.2.2.2.2.2.1) s10.2.2.2.2.2.2.2.2.2.1) s10.2.2.2.2.2.2.2.2.2.2.1 y52 []) λ(y57:Xv×(List Xx)×Xn×Int) =>
     (ah_ (
      some (y57.2.1,y57.2.2.2,s10.2.2.2.2.2.2.2.2.2.2.2.2.1,y57.1,y57.2.2.1)) (
      some (y57.2.1,y57.2.2.2,s10.2.2.2.2.2.2.2.2.2.2.2.2.1,y57.1,y57.2.2.1)))) (
     (ah_ (
      (ah_ (
       Option.bind (b4_ (Xv.mk s10.2.1 s10.2.2.1 (Ys.mk s10.2.2.2.1 s10.2.2.2.2.1 s10.2.2.2.2.2.1) (Xu.mk s10.2.2.2.2.2.2.1 s10.2.2.2.2.2.2.2.1 s10.2.2.2.2.2.2.2.2.1) s10.2.2.2.2.2.2.2.2.2.1) s10.2.2.2.2.2.2.2.2.2.2.1 y52 []) λ(y56:Xv×(List Xx)×Xn×Int) =>
       some (y56.2.1,y56.2.2.2,s10.2.2.2.2.2.2.2.2.2.2.2.2.1,y56.1,y56.2.2.1)) (
       Option.bind (b4_ (Xv.mk s10.2.1 s10.2.2.1 (Ys.mk s10.2.2.2.1 s10.2.2.2.2.1 s10.2.2.2.2.2.1) (Xu.mk s10.2.2.2.2.2.2.1 s10.2.2.2.2.2.2.2.1 s10.2.2.2.2.2.2.2.2.1) s10.2.2.2.2.2.2.2.2.2.1) s10.2.2.2.2.2.2.2.2.2.2.1 y52 []) λ(y55:Xv×(List Xx)×Xn×Int) =>
       some (y55.2.1,y55.2.2.2,s10.2.2.2.2.2.2.2.2.2.2.2.2.1,y55.1,y55.2.2.1)))) (
      (ah_ (
       Option.bind (b4_ (Xv.mk s10.2.1 s10.2.2.1 (Ys.mk s10.2.2.2.1 s10.2.2.2.2.1 s10.2.2.2.2.2.1) (Xu.mk s10.2.2.2.2.2.2.1 s10.2.2.2.2.2.2.2.1 s10.2.2.2.2.2.2.2.2.1) s10.2.2.2.2.2.2.2.2.2.1) s10.2.2.2.2.2.2.2.2.2.2.1 y52 []) λ(y54:Xv×(List Xx)×Xn×Int) =>
       some (y54.2.1,y54.2.2.2,s10.2.2.2.2.2.2.2.2.2.2.2.2.1,y54.1,y54.2.2.1)) (
       Option.bind (b4_ (Xv.mk s10.2.1 s10.2.2.1 (Ys.mk s10.2.2.2.1 s10.2.2.2.2.1 s10.2.2.2.2.2.1) (Xu.mk s10.2.2.2.2.2.2.1 s10.2.2.2.2.2.2.2.1 s10.2.2.2.2.2.2.2.2.1) s10.2.2.2.2.2.2.2.2.2.1) s10.2.2.2.2.2.2.2.2.2.2.1 y52 []) λ(y53:Xv×(List Xx)×Xn×Int) =>
       some (y53.2.1,y53.2.2.2,s10.2.2.2.2.2.2.2.2.2.2.2.2.1,y53.1,y53.2.2.1)))))))
    ) λ(o11:(List Xx)×Int×(List Xn)×Xv×Xn) =>
   (bif(o11.2.1 != 0)then
    some (.ret (((Xq.mk (Xv.mk 0 [] (Ys.mk [] 0 []) (Xu.mk 0 0 []) []) [] [] [] [] [] [] 0),o11.2.1)))
   else
    (ah_ (
     (ah_ (
      (ah_ (
       (af_ o11.2.2.1 s10.1).bind λ_ =>
       some (.fall (o11.2.2.2.1.Vx,o11.2.2.2.1.Yt,o11.2.2.2.1.Yf.Db_,o11.2.2.2.1.Yf.Xp,o11.2.2.2.1.Yf.Zb,o11.2.2.2.1.Xt.Xp,o11.2.2.2.1.Xt.Zq,o11.2.2.2.1.Xt.L_,o11.2.2.2.1.Wf,o11.1,s10.2.2.2.2.2.2.2.2.2.2.2.1,(o11.2.2.1.set s10.1.toNat o11.2.2.2.2),s10.2.2.2.2.2.2.2.2.2.2.2.2.2.1,s10.2.2.2.2.2.2.2.2.2.2.2.2.2.2.1,s10.2.2.2.2.2.2.2.2.2.2.2.2.2.2.2.1,s10.2.2.2.2.2.2.2.2.2.2.2.2.2.2.2.2))) (
       (ah_ (
        (af_ o11.2.2.1 s10.1).bind λ_ =>
        some (.fall (o11.2.2.2.1.Vx,o11.2.2.2.1.Yt,o11.2.2.2.1.Yf.Db_,o11.2.2.2.1.Yf.Xp,o11.2.2.2.1.Yf.Zb,o11.2.2.2.1.Xt.Xp,o11.2.2.2.1.Xt.Zq,o11.2.2.2.1.Xt.L_,o11.2.2.2.1.Wf,o11.1,s10.2.2.2.2.2.2.2.2.2.2.2.1,(o11.2.2.1.set s10.1.toNat o11.2.2.2.2),s10.2.2.2.2.2.2.2.2.2.2.2.2.2.1,s10.2.2.2.2.2.2.2.2.2.2.2.2.2.2.1,s10.2.2.2.2.2.2.2.2.2.2.2.2.2.2.2.1,s10.2.2.2.2.2.2.2.2.2.2.2.2.2.2.2.2))) (
        (af_ o11.2.2.1 s10.1).bind λ_ =>
        some (.fall (o11.2.2.2.1.Vx,o11.2.2.2.1.Yt,o11.2.2.2.1.Yf.Db_,o11.2.2.2.1.Yf.Xp,o11.2.2.2.1.Yf.Zb,o11.2.2.2.1.Xt.Xp,o11.2.2.2.1.Xt.Zq,o11.2.2.2.1.Xt.L_,o11.2.2.2.1.Wf,o11.1,s10.2.2.2.2.2.2.2.2.2.2.2.1,(o11.2.2.1.set s10.1.toNat o11.2.2.2.2),s10.2.2.2.2.2.2.2.2.2.2.2.2.2.1,s10.2.2.2.2.2.2.2.2.2.2.2.2.2.2.1,s10.2.2.2.2.2.2.2.2.2.2.2.2.2.2.2.1,s10.2.2.2.2.2.2.2.2.2.2.2.2.2.2.2.2))))))) (
      (af_ o11.2.2.1 s10.1).bind λ_ =>
      some (.fall (o11.2.2.2.1.Vx,o11.2.2.2.1.Yt,o11.2.2.2.1.Yf.Db_,o11.2.2.2.1.Yf.Xp,o11.2.2.2.1.Yf.Zb,o11.2.2.2.1.Xt.Xp,o11.2.2.2.1.Xt.Zq,o11.2.2.2.1.Xt.L_,o11.2.2.2.1.Wf,o11.1,s10.2.2.2.2.2.2.2.2.2.2.2.1,(o11.2.2.1.set s10.1.toNat o11.2.2.2.2),s10.2.2.2.2.2.2.2.2.2.2.2.2.2.1,s10.2.2.2.2.2.2.2.2.2.2.2.2.2.2.1,s10.2.2.2.2.2.2.2.2.2.2.2.2.2.2.2.1,s10.2.2.2.2.2.2.2.2.2.2.2.2.2.2.2.2))))) (
     (ah_ (
      (ah_ (
       (ah_ (
        (af_ o11.2.2.1 s10.1).bind λ_ =>
        some (.fall (o11.2.2.2.1.Vx,o11.2.2.2.1.Yt,o11.2.2.2.1.Yf.Db_,o11.2.2.2.1.Yf.Xp,o11.2.2.2.1.Yf.Zb,o11.2.2.2.1.Xt.Xp,o11.2.2.2.1.Xt.Zq,o11.2.2.2.1.Xt.L_,o11.2.2.2.1.Wf,o11.1,s10.2.2.2.2.2.2.2.2.2.2.2.1,(o11.2.2.1.set s10.1.toNat o11.2.2.2.2),s10.2.2.2.2.2.2.2.2.2.2.2.2.2.1,s10.2.2.2.2.2.2.2.2.2.2.2.2.2.2.1,s10.2.2.2.2.2.2.2.2.2.2.2.2.2.2.2.1,s10.2.2.2.2.2.2.2.2.2.2.2.2.2.2.2.2))) (
        (ah_ (
         (af_ o11.2.2.1 s10.1).bind λ_ =>
         some (.fall (o11.2.2.2.1.Vx,o11.2.2.2.1.Yt,o11.2.2.2.1.Yf.Db_,o11.2.2.2.1.Yf.Xp,o11.2.2.2.1.Yf.Zb,o11.2.2.2.1.Xt.Xp,o11.2.2.2.1.Xt.Zq,o11.2.2.2.1.Xt.L_,o11.2.2.2.1.Wf,o11.1,s10.2.2.2.2.2.2.2.2.2.2.2.1,(o11.2.2.1.set s10.1.toNat o11.2.2.2.2),s10.2.2.2.2.2.2.2.2.2.2.2.2.2.1,s10.2.2.2.2.2.2.2.2.2.2.2.2.2.2.1,s10.2.2.2.2.2.2.2.2.2.2.2.2.2.2.2.1,s10.2.2.2.2.2.2.2.2.2.2.2.2.2.2.2.2))) (
         (af_ o11.2.2.1 s10.1).bind λ_ =>
         some (.fall (o11.2.2.2.1.Vx,o11.2.2.2.1.Yt,o11.2.2.2.1.Yf.Db_,o11.2.2.2.1.Yf.Xp,o11.2.2.2.1.Yf.Zb,o11.2.2.2.1.Xt.Xp,o11.2.2.2.1.Xt.Zq,o11.2.2.2.1.Xt.L_,o11.2.2.2.1.Wf,o11.1,s10.2.2.2.2.2.2.2.2.2.2.2.1,(o11.2.2.1.set s10.1.toNat o11.2.2.2.2),s10.2.2.2.2.2.2.2.2.2.2.2.2.2.1,s10.2.2.2.2.2.2.2.2.2.2.2.2.2.2.1,s10.2.2.2.2.2.2.2.2.2.2.2.2.2.2.2.1,s10.2.2.2.2.2.2.2.2.2.2.2.2.2.2.2.2))))))) (
       (af_ o11.2.2.1 s10.1).bind λ_ =>
       some (.fall (o11.2.2.2.1.Vx,o11.2.2.2.1.Yt,o11.2.2.2.1.Yf.Db_,o11.2.2.2.1.Yf.Xp,o11.2.2.2.1.Yf.Zb,o11.2.2.2.1.Xt.Xp,o11.2.2.2.1.Xt.Zq,o11.2.2.2.1.Xt.L_,o11.2.2.2.1.Wf,o11.1,s10.2.2.2.2.2.2.2.2.2.2.2.1,(o11.2.2.1.set s10.1.toNat o11.2.2.2.2),s10.2.2.2.2.2.2.2.2.2.2.2.2.2.1,s10.2.2.2.2.2.2.2.2.2.2.2.2.2.2.1,s10.2.2.2.2.2.2.2.2.2.2.2.2.2.2.2.1,s10.2.2.2.2.2.2.2.2.2.2.2.2.2.2.2.2))))) (
      (ah_ (
       (af_ o11.2.2.1 s10.1).bind λ_ =>
       some (.fall (o11.2.2.2.1.Vx,o11.2.2.2.1.Yt,o11.2.2.2.1.Yf.Db_,o11.2.2.2.1.Yf.Xp,o11.2.2.2.1.Yf.Zb,o11.2.2.2.1.Xt.Xp,o11.2.2.2.1.Xt.Zq,o11.2.2.2.1.Xt.L_,o11.2.2.2.1.Wf,o11.1,s10.2.2.2.2.2.2.2.2.2.2.2.1,(o11.2.2.1.set s10.1.toNat o11.2.2.2.2),s10.2.2.2.2.2.2.2.2.2.2.2.2.2.1,s10.2.2.2.2.2.2.2.2.2.2.2.2.2.2.1,s10.2.2.2.2.2.2.2.2.2.2.2.2.2.2.2.1,s10.2.2.2.2.2.2.2.2.2.2.2.2.2.2.2.2))) (
       (af_ o11.2.2.1 s10.1).bind λ_ =>
       some (.fall (o11.2.2.2.1.Vx,o11.2.2.2.1.Yt,o11.2.2.2.1.Yf.Db_,o11.2.2.2.1.Yf.Xp,o11.2.2.2.1.Yf.Zb,o11.2.2.2.1.Xt.Xp,o11.2.2.2.1.Xt.Zq,o11.2.2.2.1.Xt.L_,o11.2.2.2.1.Wf,o11.1,s10.2.2.2.2.2.2.2.2.2.2.2.1,(o11.2.2.1.set s10.1.toNat o11.2.2.2.2),s10.2.2.2.2.2.2.2.2.2.2.2.2.2.1,s10.2.2.2.2.2.2.2.2.2.2.2.2.2.2.1,s10.2.2.2.2.2.2.2.2.2.2.2.2.2.2.2.1,s10.2.2.2.2.2.2.2.2.2.2.2.2.2.2.2.2)))))))))
   ) λ(wo12:Out (Int×(List Xr)×(List Yy)×Int×(List Yh)×Int×Int×(List Yg)×(List Yj)×(List Xx)×Int×(List Xn)×(List Xd)×(List Yb)×(List Yd)×(List Yc)) (Xq×Int))=>match wo12 with
  | .ret r12=>some (.done (.ret r12))
  | .fall o12 =>
   some (.next ((w64 (s10.1+1)),o12.1,o12.2.1,o12.2.2.1,o12.2.2.2.1,o12.2.2.2.2.1,o12.2.2.2.2.2.1,o12.2.2.2.2.2.2.1,o12.2.2.2.2.2.2.2.1,o12.2.2.2.2.2.2.2.2.1,o12.2.2.2.2.2.2.2.2.2.1,o12.2.2.2.2.2.2.2.2.2.2.1,o12.2.2.2.2.2.2.2.2.2.2.2.1,o12.2.2.2.2.2.2.2.2.2.2.2.2.1,o12.2.2.2.2.2.2.2.2.2.2.2.2.2.1,o12.2.2.2.2.2.2.2.2.2.2.2.2.2.2.1,o12.2.2.2.2.2.2.2.2.2.2.2.2.2.2.2))
 else
  some (.done (.fall (s10.2.1,s10.2.2.1,s10.2.2.2.1,s10.2.2.2.2.1,s10.2.2.2.2.2.1,s10.2.2.2.2.2.2.1,s10.2.2.2.2.2.2.2.1,s10.2.2.2.2.2.2.2.2.1,s10.2.2.2.2.2.2.2.2.2.1,s10.2.2.2.2.2.2.2.2.2.2.1,s10.2.2.2.2.2.2.2.2.2.2.2.1,s10.2.2.2.2.2.2.2.2.2.2.2.2.1,s10.2.2.2.2.2.2.2.2.2.2.2.2.2.1,s10.2.2.2.2.2.2.2.2.2.2.2.2.2.2.1,s10.2.2.2.2.2.2.2.2.2.2.2.2.2.2.2.1,s10.2.2.2.2.2.2.2.2.2.2.2.2.2.2.2.2))))
theorem o6_:gq_=e0_:=by
 funext o8 s10
 simp only[gq_,e0_,hD_,e_ref40_Dial]<;>rfl
def hz_ (x0:List Str):Option (Xq×Int) :=
 (hl_ x0).bind λy1 =>
 (bif(y1 != 0)then
  some (((Xq.mk (Xv.mk 0 [] (Ys.mk [] 0 []) (Xu.mk 0 0 []) []) [] [] [] [] [] [] 0),y1))
 else
  Option.bind (ag_ (kb_ x0) BIG (0,0,0,0,0,0,[],[(Yy.mk [(Zy.mk [110,101,116] [116,99,112] false)])],[],[],[],[],[],[],[],[],[])) λ(wo1:Out (Int×Int×Int×Int×Int×(List Xr)×(List Yy)×(List Yh)×(List Yg)×(List Yj)×(List Xx)×(List Xn)×(List Xd)×(List Yb)×(List Yd)×(List Yc)) (Xq×Int))=>match wo1 with
  | .ret r1=>some r1
  | .fall o1 =>
   (fh_).bind λy16 =>
   (ds_ y16).bind λy17 =>
   (ag_ (kc_ x0 y17) BIG (0,o1.1,1,o1.2.2.1,o1.2.2.2.1,o1.2.2.2.2.1,o1.2.2.2.2.2.1,o1.2.2.2.2.2.2.1,o1.2.2.2.2.2.2.2.1,o1.2.2.2.2.2.2.2.2.1,o1.2.2.2.2.2.2.2.2.2.1,o1.2.2.2.2.2.2.2.2.2.2.1,o1.2.2.2.2.2.2.2.2.2.2.2.1,o1.2.2.2.2.2.2.2.2.2.2.2.2.1,o1.2.2.2.2.2.2.2.2.2.2.2.2.2.1,o1.2.2.2.2.2.2.2.2.2.2.2.2.2.2.1,o1.2.2.2.2.2.2.2.2.2.2.2.2.2.2.2)).bind λo8 =>
   Option.bind (room 520 o8.2.2.2.2.2.1 [(Xr.mk 8 (Xo.mk [] [] (Xi.mk 0 []) []) (Zm.mk (Xo.mk [] [] (Xi.mk 0 []) []) (Wb.mk 0 []) []) (We.mk 0 []) (Zi.mk 0 0 []) (Zz.mk [] []) (Zp.mk [] [] [] 0 [] 0) [] 1 0)]) λ(y34:List Xr) =>
   (j1_ [97,100,109]).bind λy35 =>
   (bif(y35.2 != 0)then
    some (((Xq.mk (Xv.mk 0 [] (Ys.mk [] 0 []) (Xu.mk 0 0 []) []) [] [] [] [] [] [] 0),y35.2))
   else
    Option.bind (ag_ (e0_ o8) BIG (0,o8.1,y34,o8.2.2.2.2.2.2.1,o8.2.1,o8.2.2.2.2.2.2.2.1,y35.1.Xp,y35.1.Zq,y35.1.L_,[(Yj.mk 1 2 [])],o8.2.2.2.2.2.2.2.2.2.2.1,o8.2.2.2.2.1,o8.2.2.2.2.2.2.2.2.2.2.2.1,o8.2.2.2.2.2.2.2.2.2.2.2.2.1,o8.2.2.2.2.2.2.2.2.2.2.2.2.2.1,o8.2.2.2.2.2.2.2.2.2.2.2.2.2.2.1,o8.2.2.2.2.2.2.2.2.2.2.2.2.2.2.2)) λ(wo13:Out (Int×(List Xr)×(List Yy)×Int×(List Yh)×Int×Int×(List Yg)×(List Yj)×(List Xx)×Int×(List Xn)×(List Xd)×(List Yb)×(List Yd)×(List Yc)) (Xq×Int))=>match wo13 with
    | .ret r13=>some r13
    | .fall o13 =>
     (gI_ (Xq.mk (Xv.mk o13.1 o13.2.1 (Ys.mk o13.2.2.1 o13.2.2.2.1 o13.2.2.2.2.1) (Xu.mk o13.2.2.2.2.2.1 o13.2.2.2.2.2.2.1 o13.2.2.2.2.2.2.2.1) o13.2.2.2.2.2.2.2.2.1) o13.2.2.2.2.2.2.2.2.2.1 o13.2.2.2.2.2.2.2.2.2.2.2.1 o13.2.2.2.2.2.2.2.2.2.2.2.2.1 o13.2.2.2.2.2.2.2.2.2.2.2.2.2.1 o13.2.2.2.2.2.2.2.2.2.2.2.2.2.2.1 o13.2.2.2.2.2.2.2.2.2.2.2.2.2.2.2 o13.2.2.2.2.2.2.2.2.2.2.1) 1 0).bind λy68 =>
     (bif(y68.2.2 != 0)then
      some (((Xq.mk (Xv.mk 0 [] (Ys.mk [] 0 []) (Xu.mk 0 0 []) []) [] [] [] [] [] [] 0),y68.2.2))
     else
      some (((Xq.mk y68.1.Yl y68.1.Wl y68.1.Vh [y68.2.1] [(Yb.mk 1 [])] y68.1.Uk y68.1.Ua y68.1.Qh),0)))))
theorem e_ref52_New:g1_=hz_:=by
 funext x0
 simp only[g1_,hz_,o6_,e_ref52_base]<;>rfl
def jl_  : Option Bool :=
 (hz_ [[97],[98]]).bind λy1 =>
 (bif(y1.2 != 0)then
  some (false)
 else
  (cL_ (Xq.mk y1.1.Yl y1.1.Wl y1.1.Vh y1.1.Vu y1.1.Ya y1.1.Uk y1.1.Ua (-1))).bind λy2 =>
  (cL_ y1.1).bind λy3 =>
  (bif ((y3.length:Int)==0)then
   (dL_ y1.1).bind λy4 =>
   (bif y4 then
    (cC_ y1.1).bind λy5 =>
    (bif y5 then
     (bif ((y2.length:Int)==1)then
      (af_ y2 0).bind λy6 =>
      (bif(y6.Xw==1)then
       (dL_ (Xq.mk y1.1.Yl y1.1.Wl y1.1.Vh y1.1.Vu y1.1.Ya y1.1.Uk y1.1.Ua (-1))).bind λy7 =>
       (bif(!y7)then
        (cC_ (Xq.mk y1.1.Yl y1.1.Wl y1.1.Vh y1.1.Vu y1.1.Ya y1.1.Uk y1.1.Ua (-1))).bind λy8 =>
        (bif(!y8)then
         (ch_ (Xm.mk 5 0 2)).bind λy9 =>
         (bif(y9==[115,116,97,108,101,32,48,32,50])then
          (ch_ (Xm.mk 7 0 0)).bind λy10 =>
          some ((y10==[]))
         else
          some (false))
        else
         some (false))
       else
        some (false))
      else
       some (false))
     else
      some (false))
    else
     some (false))
   else
    some (false))
  else
   some (false)))
theorem qr_:dM_=jl_:=by
 simp only[dM_,jl_,e_ref52_New]<;>rfl
theorem awake_eq:dM_=some true:=by
 rw[qr_]
 kernel_rfl
end
theorem ml_(x0:Xm)(h0:Fit te (.st 0) x0):cN_ x0=some true:=by
 obtain⟨_,ha,hb,_⟩:=h0 1;obtain⟨s,h1,h2⟩:=texts_eq x0 ha hb;unfold cN_;refine aA_ h1 (aA_ h2 (aA_ (a:=true) (cond_t (by simp) (aA_ awake_eq rfl)) rfl))
end Go.Proofs.YtkammpnldgkiiaaGreatDoor
