/-
 What the statements of this seat hang on,part 6: K3 K4 K5 K6 K7 K8 K9 Num Fa0 Aa Ab Ac Ad Ae Af Ag Ah Ai Aj Ak Al Am An Ao Ap Aq Ar.
-/
import Derived.Test.YtbdcelleafhelaaGreatDoorWA5
import Derived.Laws.BitsLemmas
import Derived.KernelRfl
namespace Go.Proofs.YtbdcelleafhelaaGreatDoor
open Go.Rt Go.RowKit
noncomputable section
def c_201:Con te:=af_ te [.bm 149 (.st 6) [none,none,none,some 126] false] [(.int .u8,[]),(.bool,[])] false λa=>ck_ a.1
theorem ok_201:OKF 201 c_201:=⟨ab_ ae_ (aa_ ok_199 (aa_ ok_196 (aa_ ok_181 ac_))) Tryz.func201 (by kernel_rfl) (pl := .p) λ_=>by kernel_rfl,by kernel_rfl⟩
def c_198:Con te:=af_ te [.bm 149 (.st 6) [none,none,none,some 126] false] [(.bool,[])] false λa=>gu_ a.1
theorem ok_198:OKF 198 c_198:=⟨ab_ ae_ (aa_ iF_ (aa_ ok_196 (aa_ ok_201 (aa_ ok_162 ac_)))) Tryz.func198 (by kernel_rfl) (pl := .s .p (.s .p (.s (.s .p (.lp ⟨[(4,.d .bool)],[(0,true,.cells 149 [.v .str,.v (.int .i64),.v (.int .i64),.own 15,.v (.int .i64)]),(15,false,.row 126 (.st 4) []),(10,true,.box 126 (.st 4))],[0,3],[],[],16⟩ ⟨[],[(0,true,.cells 149 [.v .str,.v (.int .i64),.v (.int .i64),.own 15,.v (.int .i64)]),(15,false,.row 126 (.st 4) []),(10,true,.box 126 (.st 4))],[0,3],[],[],16⟩ true (.s (.s (.ot 0 (.free 0 (.free 1 (.spl 1 (.free 2 (.alt 3 (.free 4 (.alt 5 .nil .nil)) .nil)) (.free 2 (.alt 3 (.free 4 (.alt 5 .nil .nil)) .nil)))))) .p) (.s (.s .p (.s .p (.s .p (.j ⟨[(7,.d (.int .u8))],[(0,true,.cells 149 [.v .str,.v (.int .i64),.v (.int .i64),.own 41,.v (.int .i64)]),(41,false,.row 126 (.st 4) [])],[0,3,5,13,14,15],[10],[],42⟩ true .p .p)))) .p)))) .p))) λ_=>by kernel_rfl,by kernel_rfl⟩
def cS_188(f126:regex_parser->Int->Option (Bool×regex_parser)):Con te:=af_ te [.bm 149 (.st 6) [none,none,none,some 126] false,.d (.int .i64)] [(.bool,[])] false λa=>fD_ f126 a.1 a.2.1
theorem okS_188(f126:regex_parser->Int->Option (Bool×regex_parser))(h126:OKF 126 (gw_ f126)):OKF 188 (cS_188 f126):=⟨ab_ ae_ (aa_ ok_199 (aa_ ok_198 (aa_ iF_ (aa_ (okS_197 f126 h126) (aa_ ok_196 (aa_ ok_181 ac_)))))) Tryz.func188 (by kernel_rfl) (pl := .s .p (.s .p (.s .p (.j ⟨[],[(0,true,.cells 149 [.v .str,.v (.int .i64),.v (.int .i64),.own 16,.v (.int .i64)]),(16,false,.row 126 (.st 4) [])],[0],[],[],17⟩ true (.s .p (.s .p (.s .p (.j ⟨[(28,.d .bool)],[],[0,5,18],[0,4],[],19⟩ false .p .p)))) .p)))) λ_=>by kernel_rfl,by kernel_rfl⟩
def c_163:Con te:=af_ te [.bm 149 (.st 6) [none,none,none,some 126] false,.d (.int .i64),.d (.st 4)] [] false λa=>cA_ a.1 a.2.1 a.2.2.1
theorem ok_163:OKF 163 c_163:=⟨ab_ ae_ (aa_ iB_ ac_) Tryz.func163 (by kernel_rfl) (pl := .s .p (.s (.s .p (.lp ⟨[(6,.d (.int .i64))],[(1,true,.row 126 (.st 4) [])],[0,1,5],[0,2],[],6⟩ ⟨[],[(1,true,.row 126 (.st 4) [])],[0,1,5],[0,2],[],6⟩ false (.s .p (.j ⟨[],[(1,true,.row 126 (.st 4) [])],[0,1,5,6],[0,2],[],13⟩ false .p .p)))) (.dr [4,0,0,0,0,0,0,1,2,4,4,2] [0,1,2,3,4,5,6] false []))) λ_=>by kernel_rfl,by kernel_rfl⟩
def cS_182(f126:regex_parser->Int->Option (Bool×regex_parser)):Con te:=af_ te [.bm 149 (.st 6) [none,none,none,some 126] false,.d (.int .i64)] [(.bool,[])] false λa=>fs_ f126 a.1 a.2.1
theorem okS_182(f126:regex_parser->Int->Option (Bool×regex_parser))(h126:OKF 126 (gw_ f126)):OKF 182 (cS_182 f126):=⟨ab_ ae_ (aa_ iF_ (aa_ ok_163 (aa_ ok_162 (aa_ (okS_188 f126 h126) ac_)))) Tryz.func182 (by kernel_rfl) (pl := .s .p (.s .p (.s .p (.j ⟨[],[(0,true,.cells 149 [.v .str,.v (.int .i64),.v (.int .i64),.own 17,.v (.int .i64)]),(17,false,.row 126 (.st 4) [])],[],[],[],18⟩ false (.s .p (.s (.s .p (.s .p (.dr [0,0,0,0,0,0,0,0,0,0,0,0,2] [] false []))) (.s .p (.s .p (.s .p (.s (.s .p (.dr [0,0,0,0,0,0,0,0,0,0,0,0,2] [] false [])) .p)))))) .p)))) λ_=>by kernel_rfl,by kernel_rfl⟩
def cS_161(f126:regex_parser->Int->Option (Bool×regex_parser)):Con te:=af_ te [.bm 149 (.st 6) [none,none,none,some 126] false,.d (.int .i64)] [(.bool,[])] false λa=>e8_ f126 a.1 a.2.1
theorem okS_161(f126:regex_parser->Int->Option (Bool×regex_parser))(h126:OKF 126 (gw_ f126)):OKF 161 (cS_161 f126):=⟨ab_ ae_ (aa_ (okS_182 f126 h126) (aa_ ok_181 ac_)) Tryz.func161 (by kernel_rfl) (pl := .s .p (.lp ⟨[],[(0,true,.cells 149 [.v .str,.v (.int .i64),.v (.int .i64),.own 3,.v (.int .i64)]),(3,false,.row 126 (.st 4) [])],[0,1],[],[],4⟩ ⟨[],[],[],[0,1],[],3⟩ true .p)) λ_=>by kernel_rfl,by kernel_rfl⟩
theorem okS_126(rec0:regex_parser->Int->Option (Bool×regex_parser))(h:OKF 126 (gw_ rec0)):OKF 126 (gw_ (ft_ rec0)):=⟨ab_ ae_ (aa_ iF_ (aa_ ok_163 (aa_ ok_162 (aa_ (okS_161 rec0 h) (aa_ h ac_))))) Tryz.func126 (by kernel_rfl) (pl := .s .p (.s .p (.s .p (.s .p (.s .p (.s .p (.s .p (.s .p (.s (.dr [0,0,0,0,0,0,0,0,0,0,0,0,2] [] false []) .p))))))))) λ_=>by kernel_rfl,by kernel_rfl⟩
theorem okN_126:∀n,OKF 126 (gw_ (cQ_ n))
 | 0=>⟨gX_ λ_=>rfl,by kernel_rfl⟩
 | n+1=>okS_126 _ (okN_126 n)
def c_126:Con te:=gw_ (cQ_ BIG)
theorem ok_126:OKF 126 c_126:=okN_126 BIG
def c_88:Con te:=af_ te [.d .str] [(.st 5,[some 126]),(.int .i64,[]),(.int .i64,[])] false λa=>aO_ a.1
theorem ok_88:OKF 88 c_88:=⟨ab_ ae_ (aa_ ok_126 (aa_ iF_ ac_)) Tryz.func88 (by kernel_rfl) (pl := .s .p (.s .p (.s .p (.s .p (.s (.s .p (.s (.s (.dr [0,0,0,0,0,1,4,4] [] true [0]) .p) .p)) (.s .p (.s .p (.s (.dr [0,0,0,0,0,0,0,0,0,0,2,4,4] [] false []) .p)))))))) λ_=>by kernel_rfl,by kernel_rfl⟩
def c_59:Con te:=af_ te [.d (.st 2)] [(.bool,[])] false λa=>et_ a.1
theorem ok_59:OKF 59 c_59:=⟨ab_ ae_ (aa_ ok_88 (aa_ ok_39 (aa_ ok_101 (aa_ ok_102 ac_)))) Tryz.func59 (by kernel_rfl) (pl := .s .p (.s (.j ⟨[(28,.d .bool)],[],[1],[0],[],3⟩ false (.ot 0 (.free 0 (.free 3 (.alt 1 (.alt 2 (.alt 4 (.alt 5 (.free 6 (.free 7 (.spl 7 (.free 8 (.alt 9 (.free 10 (.alt 11 (.free 12 (.spl 12 (.free 13 (.alt 14 (.free 15 (.free 16 (.alt 17 (.free 18 (.spl 18 (.free 19 (.alt 20 (.alt 21 (.alt 22 .nil .nil) .nil) .nil)) (.free 19 (.alt 20 (.alt 21 (.alt 22 .nil .nil) .nil) .nil)))) .nil))) .nil)) (.free 13 (.alt 14 (.free 15 (.free 16 (.alt 17 (.free 18 (.spl 18 (.free 19 (.alt 20 (.alt 21 (.alt 22 .nil .nil) .nil) .nil)) (.free 19 (.alt 20 (.alt 21 (.alt 22 .nil .nil) .nil) .nil)))) .nil))) .nil)))) .nil)) .nil)) (.free 8 (.alt 9 (.free 10 (.alt 11 (.free 12 (.spl 12 (.free 13 (.alt 14 (.free 15 (.free 16 (.alt 17 (.free 18 (.spl 18 (.free 19 (.alt 20 (.alt 21 (.alt 22 .nil .nil) .nil) .nil)) (.free 19 (.alt 20 (.alt 21 (.alt 22 .nil .nil) .nil) .nil)))) .nil))) .nil)) (.free 13 (.alt 14 (.free 15 (.free 16 (.alt 17 (.free 18 (.spl 18 (.free 19 (.alt 20 (.alt 21 (.alt 22 .nil .nil) .nil) .nil)) (.free 19 (.alt 20 (.alt 21 (.alt 22 .nil .nil) .nil) .nil)))) .nil))) .nil)))) .nil)) .nil))))) .nil) .nil) (.alt 4 (.alt 2 (.alt 5 (.free 6 (.free 7 (.spl 7 (.free 8 (.alt 9 (.free 10 (.alt 11 (.free 12 (.spl 12 (.free 13 (.alt 14 (.free 15 (.free 16 (.alt 17 (.free 18 (.spl 18 (.free 19 (.alt 20 (.alt 21 (.alt 22 .nil .nil) .nil) .nil)) (.free 19 (.alt 20 (.alt 21 (.alt 22 .nil .nil) .nil) .nil)))) .nil))) .nil)) (.free 13 (.alt 14 (.free 15 (.free 16 (.alt 17 (.free 18 (.spl 18 (.free 19 (.alt 20 (.alt 21 (.alt 22 .nil .nil) .nil) .nil)) (.free 19 (.alt 20 (.alt 21 (.alt 22 .nil .nil) .nil) .nil)))) .nil))) .nil)))) .nil)) .nil)) (.free 8 (.alt 9 (.free 10 (.alt 11 (.free 12 (.spl 12 (.free 13 (.alt 14 (.free 15 (.free 16 (.alt 17 (.free 18 (.spl 18 (.free 19 (.alt 20 (.alt 21 (.alt 22 .nil .nil) .nil) .nil)) (.free 19 (.alt 20 (.alt 21 (.alt 22 .nil .nil) .nil) .nil)))) .nil))) .nil)) (.free 13 (.alt 14 (.free 15 (.free 16 (.alt 17 (.free 18 (.spl 18 (.free 19 (.alt 20 (.alt 21 (.alt 22 .nil .nil) .nil) .nil)) (.free 19 (.alt 20 (.alt 21 (.alt 22 .nil .nil) .nil) .nil)))) .nil))) .nil)))) .nil)) .nil))))) .nil) .nil) .nil)) (.alt 4 (.alt 1 (.alt 2 (.alt 5 (.free 6 (.free 7 (.spl 7 (.free 8 (.alt 9 (.free 10 (.alt 11 (.free 12 (.spl 12 (.free 13 (.alt 14 (.free 15 (.free 16 (.alt 17 (.free 18 (.spl 18 (.free 19 (.alt 20 (.alt 21 (.alt 22 .nil .nil) .nil) .nil)) (.free 19 (.alt 20 (.alt 21 (.alt 22 .nil .nil) .nil) .nil)))) .nil))) .nil)) (.free 13 (.alt 14 (.free 15 (.free 16 (.alt 17 (.free 18 (.spl 18 (.free 19 (.alt 20 (.alt 21 (.alt 22 .nil .nil) .nil) .nil)) (.free 19 (.alt 20 (.alt 21 (.alt 22 .nil .nil) .nil) .nil)))) .nil))) .nil)))) .nil)) .nil)) (.free 8 (.alt 9 (.free 10 (.alt 11 (.free 12 (.spl 12 (.free 13 (.alt 14 (.free 15 (.free 16 (.alt 17 (.free 18 (.spl 18 (.free 19 (.alt 20 (.alt 21 (.alt 22 .nil .nil) .nil) .nil)) (.free 19 (.alt 20 (.alt 21 (.alt 22 .nil .nil) .nil) .nil)))) .nil))) .nil)) (.free 13 (.alt 14 (.free 15 (.free 16 (.alt 17 (.free 18 (.spl 18 (.free 19 (.alt 20 (.alt 21 (.alt 22 .nil .nil) .nil) .nil)) (.free 19 (.alt 20 (.alt 21 (.alt 22 .nil .nil) .nil) .nil)))) .nil))) .nil)))) .nil)) .nil))))) .nil) .nil) .nil) .nil))))) .p) .p)) λ_=>by kernel_rfl,by kernel_rfl⟩
def c_24:Con te:=af_ te [.d .str] [(.sl (.st 3),[some 41]),(.int .i64,[]),(.int .i64,[])] true λa=>gb_ a.1
theorem ok_24:OKF 24 c_24:=⟨ab_ ae_ (aa_ ok_59 (aa_ ok_58 (aa_ ok_57 (aa_ ok_56 (aa_ ok_55 ac_))))) Tryz.func24 (by kernel_rfl) (pl := .s .p (.s .p (.s .p (.s .p (.s (.s .p (.lp ⟨[(5,.one (.own 15)),(16,.d (.int .i64))],[(15,false,.row 41 (.st 3) []),(5,true,.cells 41 [.own 16]),(16,false,.row 66 (.st 2) [])],[6,7,14,15],[],[],17⟩ ⟨[(5,.one (.own 15))],[(15,false,.row 41 (.st 3) []),(5,true,.cells 41 [.own 16]),(16,false,.row 66 (.st 2) [])],[6,7],[],[],17⟩ true (.s .p (.s .p (.j ⟨[(5,.one (.own 18))],[(18,false,.row 41 (.st 3) []),(5,true,.cells 41 [.own 19]),(19,false,.row 66 (.st 2) [])],[6,7,14,15,16],[],[],20⟩ true .p .p))))) (.j ⟨[(5,.one (.own 17))],[(17,false,.row 41 (.st 3) [])],[],[],[],18⟩ true .p .p)))))) λ_=>by kernel_rfl,by kernel_rfl⟩
def c_45:Con te:=af_ te [.d (.st 3)] [(.bool,[])] false λa=>gc_ a.1
theorem ok_45:OKF 45 c_45:=⟨ab_ ae_ (aa_ ok_59 ac_) Tryz.func45 (by kernel_rfl) (pl := .s .p (.s .p (.s .p (.s (.s .p (.lp ⟨[(18,.d (.int .i64))],[],[3,16,17],[],[],3014⟩ ⟨[],[],[],[],[],3014⟩ true .p)) .p)))) λ_=>by kernel_rfl,by kernel_rfl⟩
def c_46:Con te:=af_ te [.d (.sl (.st 0))] [(.sl (.st 0),[some 50])] false λa=>aM_ a.1
theorem ok_46:OKF 46 c_46:=⟨ab_ ae_ ac_ Tryz.func46 (by kernel_rfl) (pl := .p) λa=>(congrFun fC_ a.1).symm.trans (by kernel_rfl),by kernel_rfl⟩
def c_120:Con te:=af_ te [.bm 71 (.st 7) [] false,.d (.int .i64)] [(.str,[])] true λa=>gG_ a.1 a.2.1
theorem ok_120:OKF 120 c_120:=⟨ab_ ae_ ac_ Tryz.func120 (by kernel_rfl) (pl := .s .p (.s (.s (.dr [0,0,0,0,0,0,0,0,0,0,0,0,0,0,0,0,0,0,0,0,0,0,0,0,0,0,0,0,0,0,0,0,0,0,0,0,0,0,0,0] [] false []) .p) (.s (.dr [0,0,0,0,0,0,0,0,0,0,0,0,0,0,0,0,0,0,0,0,0,0,0] [] false []) .p))) λ_=>by kernel_rfl,by kernel_rfl⟩
theorem e_121(a:PA te [.bm 71 (.st 7) [] false,.d .str]):el_ a.1 a.2.1=f7_ Tryz.prog te eqL (ti 87 (inlF Tryz.prog te eqL tnil Tryz.f87 (.p:Pl)) (tb 56 c_56 tnil)) Tryz.f121 [.bm 71 (.st 7) [] false,.d .str] [(.str,[]),(.int .i64,[])] (.s .p (.s (.s .p (.lp ⟨[(10,.d (.int .i64))],[(3,true,.row 9 .str [])],[0,1,8,9],[0],[],7⟩ ⟨[],[],[],[0],[],7⟩ true .p)) .p)) a:=by kernel_rfl
def c_121:Con te:=af_ te [.bm 71 (.st 7) [] false,.d .str] [(.str,[]),(.int .i64,[])] true λa=>el_ a.1 a.2.1
theorem ok_121:OKF 121 c_121:=⟨ab_ ae_ (cz_ ⟨e6_ ae_ ac_ Tryz.func87,by kernel_rfl⟩ (aa_ ok_56 ac_)) Tryz.func121 (by kernel_rfl) e_121,by kernel_rfl⟩
theorem e_85(a:PA te [.bm 71 (.st 7) [] false,.d .str]):cR_ a.1 a.2.1=f7_ Tryz.prog te eqL (ti 64 (inlF Tryz.prog te eqL (ti 104 cG_ tnil) Tryz.f64 (.p:Pl)) (tb 121 c_121 (tb 120 c_120 (tb 56 c_56 (tb 100 c_100 (ti 65 eh_ tnil)))))) Tryz.f85 [.bm 71 (.st 7) [] false,.d .str] [(.str,[])] (.s .p (.s .p (.s (.lp ⟨[(1,.d .str)],[(0,true,.box 71 (.st 7)),(2,true,.cells 94 [.sbp 2,.own 4]),(4,false,.row 5 (.int .u8) [])],[0,5],[],[],5⟩ ⟨[],[(2,true,.cells 94 [.sbp 2,.own 4]),(4,false,.row 5 (.int .u8) []),(0,true,.box 71 (.st 7))],[5],[],[],5⟩ false .p) .p))) a:=by kernel_rfl
def c_85:Con te:=af_ te [.bm 71 (.st 7) [] false,.d .str] [(.str,[])] true λa=>cR_ a.1 a.2.1
theorem ok_85:OKF 85 c_85:=⟨ab_ ae_ (cz_ ⟨e6_ ae_ (cz_ dr_ ac_) Tryz.func64,by kernel_rfl⟩ (aa_ ok_121 (aa_ ok_120 (aa_ ok_56 (aa_ ok_100 (cz_ eK_ ac_)))))) Tryz.func85 (by kernel_rfl) e_85,by kernel_rfl⟩
def c_157:Con te:=af_ te [.g (.sl (.st 0)) [some 50],.f1 (.st 0) .bool] [(.sl (.st 0),[])] true λa=>cx_ a.1 a.2.1
theorem ok_157:OKF 157 c_157:=⟨ab_ ae_ (aa_ ok_119 ac_) Tryz.func157 (by kernel_rfl) (pl := .s .p (.s .p (.s .p (.s (.s .p (.lp ⟨[(5,.d (.int .i64)),(6,.d (.int .i64))],[(0,true,.row 50 (.st 0) [])],[0,1],[],[],11⟩ ⟨[(5,.d (.int .i64))],[(0,true,.row 50 (.st 0) [])],[0],[],[],11⟩ false (.s .p (.j ⟨[(5,.d (.int .i64))],[(0,true,.row 50 (.st 0) [])],[0,1,6],[],[],15⟩ false .p .p)))) .p)))) λ_=>by kernel_rfl,by kernel_rfl⟩
def c_158:Con te:=af_ te [.d (.st 0),.p .str] [(.bool,[])] false λa=>ix_ a.1 a.2.1
theorem ok_158:OKF 158 c_158:=⟨ab_ ae_ ac_ Tryz.func158 (by kernel_rfl) (pl := .p) λ_=>by kernel_rfl,by kernel_rfl⟩
def c_122:Con te:=af_ te [.d (.sl (.st 0)),.d .str] [(.sl (.st 0),[])] true λa=>kb_ a.1 a.2.1
theorem ok_122:OKF 122 c_122:=⟨ab_ ae_ (aa_ ok_158 (aa_ ok_157 (aa_ ok_46 ac_))) Tryz.func122 (by kernel_rfl) (pl := .p) λ_=>by kernel_rfl,by kernel_rfl⟩
def c_180:Con te:=af_ te [.d (.st 0),.p .str] [(.bool,[])] false λa=>kc_ a.1 a.2.1
theorem ok_180:OKF 180 c_180:=⟨ab_ ae_ ac_ Tryz.func180 (by kernel_rfl) (pl := .p) λ_=>by kernel_rfl,by kernel_rfl⟩
def c_160:Con te:=af_ te [.d (.sl (.st 0)),.d .str] [(.int .i64,[])] false λa=>jh_ a.1 a.2.1
theorem ok_160:OKF 160 c_160:=⟨ab_ ae_ (aa_ ok_180 (aa_ ok_119 ac_)) Tryz.func160 (by kernel_rfl) (pl := .p) λ_=>by kernel_rfl,by kernel_rfl⟩
def c_159:Con te:=af_ te [.d (.sl (.st 0)),.d .str] [(.str,[]),(.bool,[])] false λa=>attr_Find a.1 a.2.1
theorem ok_159:OKF 159 c_159:=⟨ab_ ae_ (aa_ ok_160 ac_) Tryz.func159 (by kernel_rfl) (pl := .p) λ_=>by kernel_rfl,by kernel_rfl⟩
def c_123:Con te:=af_ te [.d (.sl (.st 0)),.d (.sl (.st 0))] [(.bool,[])] false λa=>kd_ a.1 a.2.1
theorem ok_123:OKF 123 c_123:=⟨ab_ ae_ (aa_ ok_159 ac_) Tryz.func123 (by kernel_rfl) (pl := .s .p (.s (.s .p (.lp ⟨[(11,.d (.int .i64))],[],[0,9,10],[],[],4⟩ ⟨[],[],[],[],[],4⟩ true .p)) .p)) λ_=>by kernel_rfl,by kernel_rfl⟩
def c_124:Con te:=af_ te [.d (.sl (.st 0)),.d .str,.d .str] [(.sl (.st 0),[some 50])] false λa=>attr_Set a.1 a.2.1 a.2.2.1
theorem ok_124:OKF 124 c_124:=⟨ab_ ae_ (aa_ ok_160 (aa_ ok_46 ac_)) Tryz.func124 (by kernel_rfl) (pl := .p) λ_=>by kernel_rfl,by kernel_rfl⟩
def c_86:Con te:=af_ te [.bm 71 (.st 7) [] false,.d .str,.d .str] [(.bool,[])] true λa=>em_ a.1 a.2.1 a.2.2.1
theorem ok_86:OKF 86 c_86:=⟨ab_ ae_ (aa_ ok_124 (aa_ ok_41 (aa_ ok_123 (aa_ ok_35 (aa_ ok_122 ac_))))) Tryz.func86 (by kernel_rfl) (pl := .s .p (.s .p (.s .p (.s .p (.s .p (.s .p (.s (.s .p (.lp ⟨[(49,.d (.int .i64))],[(0,true,.cells 71 [.v .str,.v .str,.v .str,.v .str,.v (.sl (.st 0)),.v .str,.v .str,.v (.sl (.int .i64)),.v .str]),(5,true,.row 50 (.st 0) [])],[0,47,48],[],[],23⟩ ⟨[],[(0,true,.box 71 (.st 7))],[],[],[],23⟩ false (.s .p (.s .p (.s (.s .p (.dr [0,0,0,0,0,0,0,0,0,0,1,4,4,4,2] [] false [])) .p))))) .p))))))) λ_=>by kernel_rfl,by kernel_rfl⟩
def c_192:Con te:=af_ te [.d (.int .u64),.d (.int .u64)] [(.int .u64,[]),(.int .u64,[])] false λa=>bits_Mul64 a.1 a.2.1
theorem ok_192:OKF 192 c_192:=⟨ab_ ae_ ac_ Tryz.func192 (by kernel_rfl) (pl := .p) λ_=>by kernel_rfl,by kernel_rfl⟩
def c_184:Con te:=af_ te [.d (.int .u64),.d (.int .u64)] [(.int .u64,[]),(.int .u64,[])] false λa=>bits_Mul a.1 a.2.1
theorem ok_184:OKF 184 c_184:=⟨ab_ ae_ (aa_ ok_192 ac_) Tryz.func184 (by kernel_rfl) (pl := .p) λ_=>by kernel_rfl,by kernel_rfl⟩
def c_166:Con te:=af_ te [.d (.sl (.int .i64)),.d (.int .i64)] [(.sl (.int .i64),[some 3])] false λa=>dq_ a.1 a.2.1
theorem ok_166:OKF 166 c_166:=⟨ab_ ae_ (aa_ ok_184 ac_) Tryz.func166 (by kernel_rfl) (pl := .s .p (.j ⟨[],[],[0,1],[],[],1⟩ false .p (.s .p (.j ⟨[],[],[0,6],[],[],12⟩ false .p (.s .p (.s .p (.s (.lp ⟨[(8,.d (.int .i64))],[(14,true,.row 3 (.int .i64) [])],[7],[],[],22⟩ ⟨[],[(14,true,.row 3 (.int .i64) [])],[7],[],[],22⟩ false (.s .p (.dr [4,0,0,0,0,0,0,2,4,4] [0,1,2,3,4,5,6] false []))) .p))))))) λ_=>by kernel_rfl,by kernel_rfl⟩
def c_128:Con te:=af_ te [.d (.sl (.int .i64))] [(.sl (.int .i64),[some 3])] false λa=>bR_ a.1
theorem ok_128:OKF 128 c_128:=⟨ab_ ae_ ac_ Tryz.func128 (by kernel_rfl) (pl := .p) λa=>(congrFun iz_ a.1).symm.trans (by kernel_rfl),by kernel_rfl⟩
def cS_165(rec0:regex_machine->Int->(List Int)->Option regex_machine):Con te:=af_ te [.bm 191 (.st 9) [none,none,none,none,some 3,some 196] false,.d (.int .i64),.d (.sl (.int .i64))] [] true λa=>rec0 a.1 a.2.1 a.2.2.1
theorem okS_165(rec0:regex_machine->Int->(List Int)->Option regex_machine)(h:OKF 165 (cS_165 rec0)):OKF 165 (cS_165 (fE_ rec0)):=⟨ab_ ae_ (aa_ ok_128 (aa_ h ac_)) Tryz.func165 (by kernel_rfl) (pl := .s .p (.s .p (.s .p (.s .p (.s .p (.s .p (.s .p (.s .p (.s .p (.s (.s .p (.s (.dr [0,0,0,0,0,0,0,0,2] [] false []) .p)) (.s .p (.s .p (.s .p (.s (.s (.dr [0,0,0,0,0,0,0,0,0,0] [] false []) .p) .p)))))))))))))) λ_=>by kernel_rfl,by kernel_rfl⟩
theorem okN_165:∀n,OKF 165 (cS_165 (bL_ n))
 | 0=>⟨gX_ λ_=>rfl,by kernel_rfl⟩
 | n+1=>okS_165 _ (okN_165 n)
def c_165:Con te:=cS_165 (bL_ BIG)
theorem ok_165:OKF 165 c_165:=okN_165 BIG
def c_168:Con te:=af_ te [.d (.st 4),.d (.int .u8)] [(.bool,[])] false λa=>jx_ a.1 a.2.1
theorem ok_168:OKF 168 c_168:=⟨ab_ ae_ ac_ Tryz.func168 (by kernel_rfl) (pl := .s .p (.s (.s .p (.s .p (.s .p (.s .p (.s .p (.s .p (.s (.s .p (.s (.s .p (.lp ⟨[(5,.d .bool),(6,.d (.int .i64))],[],[1,2],[0],[],13⟩ ⟨[(5,.d .bool)],[],[2],[0],[],13⟩ false .p)) .p)) .p))))))) .p)) λ_=>by kernel_rfl,by kernel_rfl⟩
theorem e_127(a:PA te [.d (.st 5),.d .str,.d (.int .i64),.d .bool]):gv_ a.1 a.2.1 a.2.2.1 a.2.2.2.1=f7_ Tryz.prog te eqL (ti 167 (inlF Tryz.prog te eqL tnil Tryz.f167 (.s .p (.s (.s .p (.lx ⟨[(10,.d (.int .i64))],[(257,true,.row 196 (.st 8) [])],[0,8,9],[7,256],[],266⟩ ⟨[],[(257,true,.row 196 (.st 8) [])],[],[7,256],[],266⟩ ⟨[(2,.d (.sl (.int .i64)))],[(257,true,.row 196 (.st 8) [])],[],[7,256],[],266⟩ (.s .p (.s .p (.s (.s .p (.s (.dr [0,0,0,0,0,0,0,0,0,0,0] [] false []) (.s (.s .p .rx) .p))) .p))))) .p))) (ti 164 (inlF Tryz.prog te eqL tnil Tryz.f164 (.p:Pl)) (tb 168 c_168 (tb 165 c_165 (tb 166 c_166 tnil))))) Tryz.f127 [.d (.st 5),.d .str,.d (.int .i64),.d .bool] [(.sl (.int .i64),[]),(.int .i64,[])] (.s .p (.s .p (.s .p (.s .p (.s .p (.s .p (.lp ⟨[(11,.d (.sl (.int .i64))),(12,.d (.int .i64))],[(7,true,.cells 191 [.v (.sl (.st 4)),.v (.int .i64),.v .str,.v (.int .i64),.own 256,.own 257]),(256,false,.row 3 (.int .i64) []),(257,false,.row 196 (.st 8) [])],[1,3,4,10],[0],[],258⟩ ⟨[],[],[],[],[],256⟩ true (.j ⟨[(11,.d (.sl (.int .i64))),(12,.d (.int .i64))],[(7,true,.cells 191 [.v (.sl (.st 4)),.v (.int .i64),.v .str,.v (.int .i64),.own 256,.own 257]),(256,true,.row 3 (.int .i64) []),(257,true,.row 196 (.st 8) [])],[1,3,4,10],[0],[],258⟩ false (.s .p (.s .p (.s (.dr [0,0,0,0,0,0,0] [] false []) .p))) (.s .p (.s (.dr [0,0,0,0,0,0,0,0,0,0,0,0] [] false []) (.s .p (.s .p (.lp ⟨[(90,.d (.int .i64))],[(7,true,.cells 191 [.v (.sl (.st 4)),.v (.int .i64),.v .str,.v (.int .i64),.own 7511,.own 7512]),(7511,false,.row 3 (.int .i64) []),(7512,false,.row 196 (.st 8) []),(257,true,.row 196 (.st 8) [])],[1,3,4,10,11,12,15,88,89],[0],[],7513⟩ ⟨[],[(7,true,.cells 191 [.v (.sl (.st 4)),.v (.int .i64),.v .str,.v (.int .i64),.own 7511,.own 7512]),(7511,false,.row 3 (.int .i64) []),(7512,false,.row 196 (.st 8) [])],[1,3,4,10,11,12],[0],[],7513⟩ false (.s .p (.s .p (.j ⟨[],[(7,true,.cells 191 [.v (.sl (.st 4)),.v (.int .i64),.v .str,.v (.int .i64),.own 7514,.own 7515]),(7514,false,.row 3 (.int .i64) []),(7515,false,.row 196 (.st 8) []),(257,true,.row 196 (.st 8) [])],[1,3,4,10,11,12,15,88,89,90],[0],[],7516⟩ false .p .p)))))))))))))))) a:=by kernel_rfl
def c_127:Con te:=af_ te [.d (.st 5),.d .str,.d (.int .i64),.d .bool] [(.sl (.int .i64),[]),(.int .i64,[])] true λa=>gv_ a.1 a.2.1 a.2.2.1 a.2.2.2.1
theorem ok_127:OKF 127 c_127:=⟨ab_ ae_ (cz_ ⟨e6_ ae_ ac_ Tryz.func167,by kernel_rfl⟩ (cz_ ⟨e6_ ae_ ac_ Tryz.func164,by kernel_rfl⟩ (aa_ ok_168 (aa_ ok_165 (aa_ ok_166 ac_))))) Tryz.func127 (by kernel_rfl) e_127,by kernel_rfl⟩
def c_89:Con te:=af_ te [.d (.st 5),.d .str] [(.sl (.int .i64),[some 3]),(.bool,[])] false λa=>ct_ a.1 a.2.1
theorem ok_89:OKF 89 c_89:=⟨ab_ ae_ (aa_ ok_128 (aa_ ok_127 ac_)) Tryz.func89 (by kernel_rfl) (pl := .p) λ_=>by kernel_rfl,by kernel_rfl⟩
theorem e_47(a:PA te [.bm 71 (.st 7) [] false,.d (.st 2)]):cy_ a.1 a.2.1=f7_ Tryz.prog te eqL (ti 87 (inlF Tryz.prog te eqL tnil Tryz.f87 (.p:Pl)) (tb 89 c_89 (tb 88 c_88 (tb 86 c_86 (tb 85 c_85 tnil))))) Tryz.f47 [.bm 71 (.st 7) [] false,.d (.st 2)] [(.bool,[])] (.s .p (.s .p (.s .p (.s .p (.s (.dr [0,0,0,0,0,2,4] [] false []) (.s .p (.s .p (.s .p (.s (.dr [0,0,0,0,1,4,4,4,4,4] [] false []) (.j ⟨[],[(0,true,.cells 71 [.v .str,.v .str,.v .str,.v .str,.v (.sl (.st 0)),.v .str,.v .str,.v (.sl (.int .i64)),.v .str])],[11],[],[],4276⟩ false .p .p)))))))))) a:=by kernel_rfl
def c_47:Con te:=af_ te [.bm 71 (.st 7) [] false,.d (.st 2)] [(.bool,[])] true λa=>cy_ a.1 a.2.1
theorem ok_47:OKF 47 c_47:=⟨ab_ ae_ (cz_ ⟨e6_ ae_ ac_ Tryz.func87,by kernel_rfl⟩ (aa_ ok_89 (aa_ ok_88 (aa_ ok_86 (aa_ ok_85 ac_))))) Tryz.func47 (by kernel_rfl) e_47,by kernel_rfl⟩
def c_19:Con te:=af_ te [.d (.st 3),.d (.st 1)] [(.st 1,[]),(.str,[]),(.bool,[])] true λa=>gd_ a.1 a.2.1
theorem ok_19:OKF 19 c_19:=⟨ab_ ae_ (aa_ ok_47 (aa_ ok_46 (aa_ ok_15 (aa_ ok_45 ac_)))) Tryz.func19 (by kernel_rfl) (pl := .s .p (.s .p (.s .p (.s .p (.s (.s .p (.lp ⟨[(32,.d (.int .i64))],[(4014,true,.cells 71 [.v .str,.v .str,.v .str,.v .str,.v (.sl (.st 0)),.v .str,.v .str,.v (.sl (.int .i64)),.v .str])],[4,7,30,31],[4],[],4031⟩ ⟨[],[(4014,true,.box 71 (.st 7))],[4,7],[4],[],4031⟩ true .p)) (.s .p (.s (.dr [0,0,0,0,0,0,0,0,1,4,4] [] true [4]) .p))))))) λ_=>by kernel_rfl,by kernel_rfl⟩
theorem okS_10(f11:Xq->Option (Str×Int))(f13:Str->Option (Xq×Int))(f24:Str->Option ((List Xy)×Int×Int))(f19:Xy->Xq->Option (Xq×Str×Bool))(h11:OKF 11 (af_ te [.d (.st 1)] [(.str,[]),(.int .i64,[])] false λa=>f11 a.1))(h13:OKF 13 (af_ te [.d .str] [(.st 1,[none,none,none,none,some 50]),(.int .i64,[])] false λa=>f13 a.1))(h24:OKF 24 (af_ te [.d .str] [(.sl (.st 3),[some 41]),(.int .i64,[]),(.int .i64,[])] true λa=>f24 a.1))(h19:OKF 19 (af_ te [.d (.st 3),.d (.st 1)] [(.st 1,[]),(.str,[]),(.bool,[])] true λa=>f19 a.1 a.2.1)):OKF 10 (af_ te [] [(.bool,[])] false λ_=>gC_ f11 f13 f24 f19):=⟨ab_ ae_ (aa_ h19 (aa_ h24 (aa_ h13 (aa_ h11 ac_)))) Tryz.func10 (by kernel_rfl) (pl := .p) λ_=>by kernel_rfl,by kernel_rfl⟩
def c_10:Con te:=af_ te [] [(.bool,[])] false λ_=>bs_
theorem ok_10:OKF 10 c_10:=okS_10 _ _ _ _ ok_11 ok_13 ok_24 ok_19
def c_42:Con te:=af_ te [.d .str] [(.int .i64,[])] false λa=>g2_ a.1
theorem ok_42:OKF 42 c_42:=⟨ab_ ae_ ac_ Tryz.func42 (by kernel_rfl) (pl := .s .p (.s .p (.s (.s .p (.lp ⟨[(3,.d (.int .i64))],[],[0],[],[],5⟩ ⟨[],[],[],[],[],5⟩ true .p)) .p))) λ_=>by kernel_rfl,by kernel_rfl⟩
def c_152:Con te:=af_ te [.d .str] [(.bool,[])] false λa=>fu_ a.1
theorem ok_152:OKF 152 c_152:=⟨ab_ ae_ ac_ Tryz.func152 (by kernel_rfl) (pl := .p) λ_=>by kernel_rfl,by kernel_rfl⟩
def c_116:Con te:=af_ te [.d .str] [(.bool,[])] false λa=>g3_ a.1
theorem ok_116:OKF 116 c_116:=⟨ab_ ae_ (aa_ ok_152 ac_) Tryz.func116 (by kernel_rfl) (pl := .s .p (.j ⟨[(0,.d .str)],[],[],[],[],1⟩ false .p (.s (.s .p (.lp ⟨[(3,.d (.int .i64))],[],[0],[],[],2⟩ ⟨[],[],[0],[],[],2⟩ true .p)) .p))) λ_=>by kernel_rfl,by kernel_rfl⟩
def c_117:Con te:=af_ te [.d .str] [(.bool,[])] false λa=>ge_ a.1
theorem ok_117:OKF 117 c_117:=⟨ab_ ae_ ac_ Tryz.func117 (by kernel_rfl) (pl := .s .p (.s (.s .p (.lp ⟨[(3,.d (.int .i64))],[],[0],[],[],2⟩ ⟨[],[],[],[],[],2⟩ true .p)) .p)) λ_=>by kernel_rfl,by kernel_rfl⟩
def c_80:Con te:=af_ te [.d (.sl (.st 0)),.d (.st 0)] [(.int .i64,[])] false λa=>e9_ a.1 a.2.1
theorem ok_80:OKF 80 c_80:=⟨ab_ ae_ (aa_ ok_117 (aa_ ok_116 ac_)) Tryz.func80 (by kernel_rfl) (pl := .s .p (.s .p (.s (.s .p (.lp ⟨[(5,.d (.int .i64))],[],[0,3],[0],[],9023⟩ ⟨[],[],[],[],[],9023⟩ true (.s .p (.s (.s (.dr [0,0,0,0,0,0,0,0] [] false []) .p) .p)))) .p))) λ_=>by kernel_rfl,by kernel_rfl⟩
def c_43:Con te:=af_ te [.d (.sl (.st 0))] [(.int .i64,[])] false λa=>eu_ a.1
theorem ok_43:OKF 43 c_43:=⟨ab_ ae_ (aa_ ok_80 ac_) Tryz.func43 (by kernel_rfl) (pl := .s .p (.s (.s .p (.lp ⟨[(3,.d (.int .i64))],[],[0],[],[],2⟩ ⟨[],[],[],[],[],2⟩ true (.s .p (.s (.s (.dr [0,0,0,0,0,0,0,0,0] [] false []) .p) .p)))) .p)) λ_=>by kernel_rfl,by kernel_rfl⟩
def c_16:Con te:=af_ te [.d (.st 1)] [(.int .i64,[])] false λa=>dz_ a.1
theorem ok_16:OKF 16 c_16:=⟨ab_ ae_ (aa_ ok_43 (aa_ ok_42 ac_)) Tryz.func16 (by kernel_rfl) (pl := .s .p (.s .p (.s (.s .p (.lp ⟨[(4,.d (.int .i64))],[(11,true,.row 9 .str [])],[1,3],[0],[],15⟩ ⟨[],[],[1],[0],[],15⟩ true .p)) (.s .p (.s (.s .p (.lp ⟨[(7,.d (.int .i64))],[],[1],[0],[],22⟩ ⟨[],[],[1],[0],[],22⟩ true .p)) .p))))) λ_=>by kernel_rfl,by kernel_rfl⟩
def c_70:Con te:=af_ te [.d .str] [(.str,[])] false λa=>gf_ a.1
theorem ok_70:OKF 70 c_70:=⟨ab_ ae_ ac_ Tryz.func70 (by kernel_rfl) (pl := .s .p (.s .p (.s (.s .p (.lp ⟨[(3,.d .str),(4,.d .bool),(5,.d (.int .i64))],[],[0],[],[],6⟩ ⟨[(3,.d .str),(4,.d .bool)],[],[0],[],[],6⟩ false (.s .p (.j ⟨[(3,.d .str),(4,.d .bool)],[],[0,5],[],[],10⟩ false .p .p)))) .p))) λ_=>by kernel_rfl,by kernel_rfl⟩
def c_32:Con te:=af_ te [.d (.sl (.st 0))] [(.str,[]),(.int .i64,[])] false λa=>gg_ a.1
theorem ok_32:OKF 32 c_32:=⟨ab_ ae_ (aa_ ok_70 (aa_ ok_43 ac_)) Tryz.func32 (by kernel_rfl) (pl := .s .p (.s .p (.s .p (.s (.s .p (.lp ⟨[(5,.d .str),(6,.d (.int .i64))],[],[0],[],[],9⟩ ⟨[(5,.d .str)],[],[],[],[],9⟩ false (.s .p (.j ⟨[(5,.d .str)],[],[0,6],[],[],13⟩ false (.j ⟨[(5,.d .str)],[],[0,6],[],[],13⟩ false .p (.s .p (.s .p (.dr [0,0,0,0,0,0,0,0,0,0,0,0,0,0,0,0] [] false [])))) .p)))) .p)))) λ_=>by kernel_rfl,by kernel_rfl⟩
def c_71:Con te:=af_ te [.d (.int .i64)] [(.bool,[])] false λa=>gh_ a.1
theorem ok_71:OKF 71 c_71:=⟨ab_ ae_ ac_ Tryz.func71 (by kernel_rfl) (pl := .p) λ_=>by kernel_rfl,by kernel_rfl⟩
def c_72:Con te:=af_ te [.d (.int .i64),.d (.int .i64)] [(.str,[])] false λa=>fw_ a.1 a.2.1
theorem ok_72:OKF 72 c_72:=⟨ab_ ae_ ac_ Tryz.func72 (by kernel_rfl) (pl := .s .p (.s .p (.s (.lp ⟨[(0,.d (.int .i64)),(5,.d .str)],[],[1],[],[],2⟩ ⟨[(5,.d .str)],[],[],[],[],2⟩ false .p) .p))) λ_=>by kernel_rfl,by kernel_rfl⟩
def c_33:Con te:=af_ te [.d (.int .i64),.d (.int .i64)] [(.str,[])] false λa=>g4_ a.1 a.2.1
theorem ok_33:OKF 33 c_33:=⟨ab_ ae_ (aa_ ok_72 (aa_ ok_71 ac_)) Tryz.func33 (by kernel_rfl) (pl := .p) λ_=>by kernel_rfl,by kernel_rfl⟩
def c_12:Con te:=af_ te [.d (.st 1)] [(.str,[]),(.int .i64,[])] false λa=>gi_ a.1
theorem ok_12:OKF 12 c_12:=⟨ab_ ae_ (aa_ ok_33 (aa_ ok_32 (aa_ ok_16 ac_))) Tryz.func12 (by kernel_rfl) (pl := .s .p (.s .p (.s .p (.s (.dr [0,0,0,0,0,0,0,0,0,0,0,0,0,0,0,0,0,0,0,0,0,0,0,0,0,0,0,0,0] [] false []) .p)))) λ_=>by kernel_rfl,by kernel_rfl⟩
def c_78:Con te:=af_ te [.d (.int .u8)] [(.bool,[])] false λa=>ev_ a.1
theorem ok_78:OKF 78 c_78:=⟨ab_ ae_ ac_ Tryz.func78 (by kernel_rfl) (pl := .p) λ_=>by kernel_rfl,by kernel_rfl⟩
def c_114:Con te:=af_ te [.d .str,.d (.int .i64)] [(.bool,[])] false λa=>ef_ a.1 a.2.1
theorem ok_114:OKF 114 c_114:=⟨ab_ ae_ (aa_ ok_78 ac_) Tryz.func114 (by kernel_rfl) (pl := .p) λ_=>by kernel_rfl,by kernel_rfl⟩
def c_115:Con te:=af_ te [.d .str,.d (.int .i64)] [(.str,[]),(.int .i64,[]),(.int .i64,[])] false λa=>fx_ a.1 a.2.1
theorem ok_115:OKF 115 c_115:=⟨ab_ ae_ ac_ Tryz.func115 (by kernel_rfl) (pl := .s .p (.s .p (.s (.lp ⟨[(1,.d (.int .i64)),(7,.d .str)],[],[0],[],[],4⟩ ⟨[(1,.d (.int .i64))],[],[],[],[],4⟩ true .p) .p))) λ_=>by kernel_rfl,by kernel_rfl⟩
def c_79:Con te:=af_ te [.d .str,.d (.int .i64)] [(.st 0,[]),(.int .i64,[]),(.int .i64,[])] false λa=>g5_ a.1 a.2.1
theorem ok_79:OKF 79 c_79:=⟨ab_ ae_ (aa_ ok_115 (aa_ ok_114 (aa_ ok_78 ac_))) Tryz.func79 (by kernel_rfl) (pl := .s .p (.s .p (.s (.lp ⟨[(1,.d (.int .i64))],[],[0,4,7],[0],[],6⟩ ⟨[(1,.d (.int .i64))],[],[0,4,7],[0],[],6⟩ false .p) (.s .p (.s .p (.s .p (.s .p (.s (.s .p (.s (.s .p (.j ⟨[(11,.d (.int .i64))],[],[4,8,9,10],[0,11],[],20045⟩ false .p .p)) .p)) (.s .p (.s (.lp ⟨[(1,.d (.int .i64))],[],[0,4,7,8],[0,11],[],20036⟩ ⟨[(1,.d (.int .i64))],[],[0,4,7,8],[0,11],[],20036⟩ true .p) .p)))))))))) λ_=>by kernel_rfl,by kernel_rfl⟩
def c_37:Con te:=af_ te [.d .str] [(.sl (.st 0),[some 50]),(.int .i64,[]),(.int .i64,[])] false λa=>gj_ a.1
theorem ok_37:OKF 37 c_37:=⟨ab_ ae_ (aa_ ok_80 (aa_ ok_79 (aa_ ok_78 ac_))) Tryz.func37 (by kernel_rfl) (pl := .s .p (.s .p (.s .p (.lp ⟨[(5,.one (.own 5)),(6,.d (.int .i64))],[(5,false,.row 50 (.st 0) [])],[0],[],[],6⟩ ⟨[],[],[],[],[],5⟩ true (.s (.lp ⟨[(6,.d (.int .i64))],[],[0,5],[5],[],6⟩ ⟨[(6,.d (.int .i64))],[],[0,5],[5],[],6⟩ false .p) (.s .p (.s .p (.j ⟨[(9,.d (.int .i64))],[],[0,5,6,7,8],[5,17],[],23⟩ false .p .p)))))))) λ_=>by kernel_rfl,by kernel_rfl⟩
def c_81:Con te:=af_ te [.d (.int .u8)] [(.int .i64,[])] false λa=>gk_ a.1
theorem ok_81:OKF 81 c_81:=⟨ab_ ae_ ac_ Tryz.func81 (by kernel_rfl) (pl := .p) λ_=>by kernel_rfl,by kernel_rfl⟩
def c_38:Con te:=af_ te [.d .str,.d (.int .i64),.d (.int .i64)] [(.int .i64,[]),(.int .i64,[])] false λa=>gl_ a.1 a.2.1 a.2.2.1
theorem ok_38:OKF 38 c_38:=⟨ab_ ae_ (aa_ ok_81 (aa_ ok_71 ac_)) Tryz.func38 (by kernel_rfl) (pl := .s .p (.s .p (.s .p (.s .p (.s (.s .p (.lp ⟨[(8,.d (.int .i64)),(9,.d (.int .i64))],[],[0,1,2],[],[],12011⟩ ⟨[(8,.d (.int .i64))],[],[],[],[],12011⟩ true .p)) .p))))) λ_=>by kernel_rfl,by kernel_rfl⟩
def c_14:Con te:=af_ te [.d .str] [(.st 1,[none,none,none,none,some 50]),(.int .i64,[])] false λa=>gm_ a.1
theorem ok_14:OKF 14 c_14:=⟨ab_ ae_ (aa_ ok_16 (aa_ ok_38 (aa_ ok_37 ac_))) Tryz.func14 (by kernel_rfl) (pl := .s .p (.s .p (.s .p (.s (.s .p (.lp ⟨[(4,.one (.own 6)),(5,.d (.int .i64)),(6,.d (.int .i64))],[(6,false,.row 9 .str [])],[0,2],[0],[],7⟩ ⟨[(4,.one (.own 6)),(5,.d (.int .i64))],[(6,false,.row 9 .str [])],[0,2],[0],[],7⟩ false (.s .p (.j ⟨[(4,.one (.own 4012)),(5,.d (.int .i64))],[(4012,false,.row 9 .str [])],[0,2,6],[0],[],4013⟩ false .p .p)))) (.s .p (.s .p (.s .p (.s .p (.s .p (.s .p (.s .p (.s (.dr [0,0,0,0,0,0,0,0,0,0,0,0,0,0,0,0,0,1,2] [] false []) .p)))))))))))) λ_=>by kernel_rfl,by kernel_rfl⟩
def c_44:Con te:=af_ te [.d (.sl (.st 0)),.d (.sl (.st 0))] [(.bool,[])] false λa=>dJ_ a.1 a.2.1
theorem ok_44:OKF 44 c_44:=⟨ab_ ae_ ac_ Tryz.func44 (by kernel_rfl) (pl := .s .p (.s .p (.s (.s .p (.lp ⟨[(5,.d (.int .i64))],[],[0,1],[],[],7⟩ ⟨[],[],[],[],[],7⟩ true (.s .p (.s (.s (.dr [0,0,0,0,0,0,0,0,0] [] false []) .p) .p)))) .p))) λ_=>by kernel_rfl,by kernel_rfl⟩
def c_17:Con te:=af_ te [.d (.st 1),.d (.st 1)] [(.bool,[])] false λa=>fy_ a.1 a.2.1
theorem ok_17:OKF 17 c_17:=⟨ab_ ae_ (aa_ ok_44 ac_) Tryz.func17 (by kernel_rfl) (pl := .p) λ_=>by kernel_rfl,by kernel_rfl⟩
def c_3:Con te:=af_ te [.d (.st 1),.d .str] [(.bool,[])] false λa=>bS_ a.1 a.2.1
theorem ok_3:OKF 3 c_3:=⟨ab_ ae_ (aa_ ok_17 (aa_ ok_16 (aa_ ok_15 (aa_ ok_14 (aa_ ok_13 (aa_ ok_12 (aa_ ok_11 (aa_ ok_10 (aa_ ok_9 ac_))))))))) Tryz.func3 (by kernel_rfl) (pl := .s .p (.s .p (.s .p (.s .p (.s .p (.s .p (.s (.dr [0,0,0,0,0,0,0,0,0,0,0,0,0,0,0,0,0,0,0,0,0,0,0,0,0,0,0,0,0] [] false []) .p))))))) λ_=>by kernel_rfl,by kernel_rfl⟩
def c_4:Con te:=af_ te [.d (.st 1)] [(.bool,[])] false λa=>cT_ a.1
theorem ok_4:OKF 4 c_4:=⟨ab_ ae_ (aa_ ok_17 (aa_ ok_13 (aa_ ok_11 (aa_ ok_10 (aa_ ok_9 ac_))))) Tryz.func4 (by kernel_rfl) (pl := .p) λ_=>by kernel_rfl,by kernel_rfl⟩
end
end Go.Proofs.YtbdcelleafhelaaGreatDoor
namespace Go
namespace Rt
theorem aw_{n:Int}(h:I64 n):w64 n=n:=by
 unfold w64;rw[IntKind.wrap_i64];omega
theorem wi64_eq{n:Int}(h:I64 n):IntKind.i64.wrap n=n:=aw_ h
theorem wu8(n:Int):IntKind.u8.wrap n=n%256:=IntKind.wrap_u8 n
theorem aI_{α β:Type}{x:Option α}{a:α}{f:α->Option β}{r:Option β}(h:x=some a)(hr:f a=r):x.bind f=r:=by subst h;exact hr
theorem cond_t{α:Type}{c:Bool}{A B r:α}(hc:c=true)(h:A=r):(bif c then A else B)=r:=by subst hc;exact h
theorem cond_f{α:Type}{c:Bool}{A B r:α}(hc:c=false)(h:B=r):(bif c then A else B)=r:=by subst hc;exact h
theorem loopF_run{σ β:Type}{body:σ->Option (Step σ β)}(I:Nat->σ->β->Prop)
  (h0:∀s b,I 0 s b->body s=some (.done b))
  (h:∀k s b,I (k+1) s b->body s=some (.done b)\/∃s',body s=some (.next s')/\I k s' b):∀{k n:Nat} {s:σ} {b:β},I k s b->k<n->ah_ body n s=some b
 | 0,n+1,s,b,hI,_=>by simp only[ah_,h0 s b hI]
 | k+1,n+1,s,b,hI,hk=>by
  simp only[ah_];rcases h k s b hI with hd|⟨s',hn,hI'⟩
  .rw[hd]
  .rw[hn];exact loopF_run I h0 h hI' (by omega)
theorem jj_{σ β:Type}{body:σ->Option (Step σ β)}(n:Nat)(hn:n<BIG)(J:Nat->σ->β->Prop)(h0:∀s b,J n s b->body s=some (.done b))
  (h:∀i s b,i<n->J i s b->body s=some (.done b)\/∃s',body s=some (.next s')/\J (i+1) s' b) {s:σ} {b:β} (hJ:J 0 s b):ah_ body BIG s=some b:=by
 refine loopF_run (λk s b=>k<=n/\J (n-k) s b) (λs b hI=>h0 s b (by simpa using hI.2)) (λk s b hI => ?_) (k:=n) ⟨Nat.le_refl _,by simpa using hJ⟩ hn;obtain⟨hk,hI⟩:=hI;rcases h _ s b (by omega) hI with hd|⟨s',hs,hI'⟩
 .exact .inl hd
 .exact .inr ⟨s',hs,by omega,by rwa [show n-(k+1)+1=n-k by omega]at hI'⟩
theorem fa_{σ β:Type}{body:σ->Option (Step σ β)}(T:Nat->σ)(n:Nat)(hn:n<BIG){b:β}(hs:∀i,i<n->body (T i)=some (.next (T (i+1))))(hd:body (T n)=some (.done b)):ah_ body BIG (T 0)=some b:=by
 refine jj_ (J:=λi s b'=>s=T i/\b'=b) n hn (λs b' hJ => ?_) (λi s b' hi hJ => ?_) ⟨rfl,rfl⟩
 .obtain⟨rfl,rfl⟩:=hJ;exact hd
 .obtain⟨rfl,rfl⟩:=hJ;exact .inr ⟨_,hs i hi,rfl,rfl⟩
theorem jk_{α β:Type}{body:Int->Option (Step Int (Out Unit β))}(xs:List α)(p:α->Bool)(r:β)(hn:xs.length<BIG)
  (hb:∀i (h:i<xs.length),body (i:Int)=if p xs[i]then some (.next ((i+1:Nat):Int))else some (.done (.ret r)))
  (he:body (xs.length:Int)=some (.done (.fall ()))):ah_ body BIG 0=some (if xs.all p then .fall ()else .ret r):=by
 refine jj_ (J:=λi s b=>s=(i:Int)/\b=if(xs.drop i).all p then .fall ()else .ret r) xs.length hn (λs b hJ => ?_) (λi s b hi hJ => ?_) (by simp)
 .obtain⟨rfl,rfl⟩:=hJ;rw[he];simp
 .obtain⟨rfl,rfl⟩:=hJ;rw[hb i hi,List.drop_eq_getElem_cons hi,List.all_cons];cases hp:p xs[i]with
  | true=>exact .inr ⟨_,rfl,rfl,by simp⟩
  | false=>exact .inl (by simp)
theorem lm_{α:Type}(xs:List α)(i:Nat):ai_ xs (i:Int)=xs[i]? := by
 unfold ai_;rw[if_pos (by omega)];simp
theorem bX_{α:Type}{xs:List α}{i:Nat}(h:i<xs.length):ai_ xs (i:Int)=some xs[i]:=by
 rw[lm_,List.getElem?_eq_getElem h]
theorem aL_{s:Str}{i:Nat}(h:i<s.length):an_ s (i:Int)=some (s[i].toNat:Int):=by
 unfold an_;rw[bX_ h];rfl
theorem bI_{a b:Str}(h:a.length+b.length<=9223372036854775807):cat a b=some (a++b):=by
 unfold cat;rw[if_pos h]
theorem cv_{α:Type}{bytes:Nat}{xs ys:List α}(h1:xs.length+ys.length<=9223372036854775807)(h2:(xs.length+ys.length)*bytes<=140737488355328):room bytes xs ys=some (xs++ys):=by
 unfold room;rw[if_pos ⟨h1,h2⟩]
theorem aV_{α:Type}{xs:List α}{lo hi:Int}(h0:0<=lo)(h1:lo<=hi)(h2:hi<=xs.length):aJ_ xs lo hi=some ((xs.take hi.toNat).drop lo.toNat):=by
 unfold aJ_;rw[if_pos ⟨h0,h1,h2⟩]
theorem makeI_eq{α:Type}{bytes:Nat}{z:α}{n:Int}(h0:0<=n)(h1:n<=9223372036854775807)(h2:bytes*n<=281474976710656):dj_ bytes z n=some (List.replicate n.toNat z):=by
 unfold dj_;rw[if_pos ⟨h0,h1,h2⟩]
theorem set_mid{α:Type}(A:List α)(k:Nat)(z v:α):(A++List.replicate (k+1) z).set A.length v=A++[v]++List.replicate k z:=by
 simp[List.replicate_succ]
theorem hb_{a b:Str}:(a==b)=decide (a=b):=by
 rw[Bool.eq_iff_iff];simp
end Rt
end Go
namespace Go.Proofs.YtbdcelleafhelaaGreatDoor
open Go.Rt Go.RowKit
theorem bc_{σ β:Type}{body:σ->Option (Step σ β)}{s s':σ}{n:Nat}{r:Option β}(h:body s=some (.next s'))(hr:ah_ body n s'=r):ah_ body (n+1) s=r:=by
 simp only[ah_,h];exact hr
theorem ao_{σ β:Type}{body:σ->Option (Step σ β)}{s:σ}{n:Nat}{b:β}(h:body s=some (.done b)):ah_ body (n+1) s=some b:=by
 simp only[ah_,h]
def bl_{α β:Type}(g:Nat->α->Option β):Nat->List α->Option β
 | _,[]=>none
 | i,x::l=>match g i x with
  | some r=>some r
  | none=>bl_ g (i+1) l
def outO{β:Type}:Option β->Out Unit β|some r => .ret r|none => .fall ()
theorem ba_{i n:Nat}(h:i<n):decide ((i:Int)<(n:Int))=true:=by simpa using h
theorem bx_(n:Nat):decide ((n:Int)<(n:Int))=false:=by simp
theorem aq_{i:Nat}(h:i<9223372036854775807):w64 ((i:Int)+1)=((i+1:Nat):Int):=by
 rw[aw_ ⟨by omega,by omega⟩];rfl
def stepO{β:Type}(o:Option β)(i:Nat):Step Int (Out Unit β):=match o with|some r => .done (.ret r)|none => .next ((i+1:Nat):Int)
theorem dg_{α β:Type}{body:Int->Option (Step Int (Out Unit β))}(xs:List α)(g:Nat->α->Option β)(hn:xs.length<BIG)
  (hb:∀i (h:i<xs.length),body (i:Int)=some (stepO (g i xs[i]) i))
  (he:body (xs.length:Int)=some (.done (.fall ()))):ah_ body BIG 0=some (outO (bl_ g 0 xs)):=by
 refine jj_ (J:=λi s b=>s=(i:Int)/\b=outO (bl_ g i (xs.drop i))) xs.length hn (λs b hJ => ?_) (λi s b hi hJ => ?_) (by simp)
 .obtain⟨rfl,rfl⟩:=hJ;rw[he];simp[bl_,outO]
 .obtain⟨rfl,rfl⟩:=hJ;rw[hb i hi,List.drop_eq_getElem_cons hi];simp only[bl_];cases hg:g i xs[i]with
  | some r=>exact .inl rfl
  | none=>exact .inr ⟨_,rfl,rfl,rfl⟩
theorem fY_{β:Type}{L:Option (Out Unit β)}{k:Out Unit β->Option β}{o:Option β}{x:β}(h:L=some (outO o))(h1:∀r,k (.ret r)=some r)(h2:k (.fall ())=some x):Option.bind L k=some (o.getD x):=by
 subst h;cases o with
 | some r=>exact h1 r
 | none=>exact h2
theorem scan_find{α β:Type}(p:α->Bool)(f:α->β):∀(k:Nat) (l:List α),bl_ (λ_ x=>if p x then some (f x)else none) k l=(l.find? p).map f
 | _,[]=>rfl
 | k,x::l=>by
  simp only[bl_,List.find?_cons];cases p x with
  | true=>rfl
  | false=>exact scan_find p f (k+1) l
theorem scan_idx{α:Type}(p:α->Bool):∀(k:Nat) (l:List α),bl_ (λi x=>if p x then some ((i:Nat):Int)else none) k l=(l.findIdx? p).map λi=>((k+i:Nat):Int)
 | _,[]=>rfl
 | k,x::l=>by
  simp only[bl_,List.findIdx?_cons];cases p x with
  | true=>rfl
  | false =>
   simp only[Bool.false_eq_true,if_false];rw[scan_idx p (k+1) l];cases l.findIdx? p with
   | none=>rfl
   | some i=>simp only[Option.map_some];congr 2;omega
theorem scan_none{α β:Type}{g:Nat->α->Option β}:∀{k:Nat} {l:List α},bl_ g k l=none↔∀i x,l[i]? = some x->g (k+i) x=none
 | _,[]=>⟨λ_ i x h=>by simp at h,λ_=>rfl⟩
 | k,x::l=>by
  simp only[bl_];constructor
  .intro h;split at h
   .cases h
   .rename_i h0;intro i y hy;cases i with
    | zero=>simp at hy;subst hy;exact h0
    | succ i=>have:=(scan_none (k:=k+1)).1 h i y (by simpa using hy);rwa [show k+1+i=k+(i+1)by omega]at this
  .intro h;have h0:=h 0 x rfl;rw[Nat.add_zero]at h0;rw[h0];exact scan_none.2 λi y hy=>by rw[show k+1+i=k+(i+1)by omega];exact h (i+1) y (by simpa using hy)
theorem hR_{α β:Type}{g:Nat->α->Option β}{r:β}:∀{k:Nat} {l:List α},bl_ g k l=some r->∃i x,l[i]? = some x/\g (k+i) x=some r/\∀j y,j<i->l[j]? = some y->g (k+j) y=none
 | _,[],h=>by cases h
 | k,x::l,h=>by
  simp only[bl_]at h;split at h
  .rename_i r' h0;obtain rfl:=qSj h;exact⟨0,x,rfl,h0,λj y hj=>by omega⟩
  .rename_i h0;obtain⟨i,y,h1,h2,h3⟩:=hR_ h;refine⟨i+1,y,by simpa using h1,by rw[show k+(i+1)=k+1+i by omega];exact h2,λj q hj hq => ?_⟩;cases j with
   | zero=>simp at hq;subst hq;exact h0
   | succ j=>rw[show k+(j+1)=k+1+j by omega];exact h3 j q (by omega) (by simpa using hq)
def at_{α:Type}(p:α->Bool)(l:List α):Int:=match l.findIdx? p with|some i=>(i:Int)|none => -1
theorem at_getD{α:Type}(p:α->Bool)(l:List α):(bl_ (λi x=>if p x then some ((i:Nat):Int)else none) 0 l).getD (-1)=at_ p l:=by
 rw[scan_idx];unfold at_;cases l.findIdx? p<;>simp
theorem at_find{α:Type}(p:α->Bool)(l:List α):(l.find? p=none/\at_ p l = -1)\/∃(i:Nat) (x:α),l.find? p=some x/\at_ p l=(i:Int)/\l[i]? = some x/\p x=true/\∀j y,j<i->l[j]? = some y->p y=false:=by
 unfold at_;cases h:l.findIdx? p with
 | none =>
  refine .inl ⟨?_,rfl⟩;rw[List.find?_eq_none];intro x hx;rw[List.findIdx?_eq_none_iff]at h;simpa using h x hx
 | some i =>
  obtain⟨hlt,hp,hall⟩:=List.findIdx?_eq_some_iff_getElem.1 h;refine .inr ⟨i,l[i],?_,rfl,List.getElem?_eq_getElem hlt,hp,λj y hj hy => ?_⟩
  .rw[List.find?_eq_some_iff_getElem];exact⟨hp,i,hlt,rfl,λj hj=>by simpa using hall j hj⟩
  .have:=hall j hj;rw[List.getElem?_eq_getElem (by omega)]at hy;obtain rfl:=qSj hy;simpa using this
theorem at_neg{α:Type}(p:α->Bool)(l:List α):decide (at_ p l<0)=(l.find? p).isNone:=by
 rcases at_find p l with⟨h1,h2⟩|⟨i,x,h1,h2,_⟩
 .rw[h1,h2];rfl
 .rw[h1,h2];simp
theorem aR_{n:Nat}(h:n<=9223372036854775807):n<BIG:=by unfold BIG;omega
theorem hasPre(s p:Str):aQ_ s p=some (s.take p.length==p):=by
 unfold aQ_;by_cases h:p.length<=s.length
 .rw[show decide ((s.length:Int)>=(p.length:Int))=true by simpa using h];simp only[cond_true];rw[aV_ (Int.le_refl 0) (by omega) (by omega)];simp
 .rw[show decide ((s.length:Int)>=(p.length:Int))=false by simpa using h];simp only[cond_false,qBs];have:(s.take p.length==p)=false:=by
   rw[hb_];refine decide_eq_false λe => ?_
   have:=congrArg List.length e;rw[List.length_take]at this;omega
  rw[this]
theorem trimPre(s p:Str):strings_TrimPrefix s p=some (if s.take p.length==p then s.drop p.length else s):=by
 unfold strings_TrimPrefix bC_;rw[hasPre];simp only[qBs];cases hc:s.take p.length==p with
 | true =>
  have hle:p.length<=s.length:=by
   rw[hb_]at hc;have:=congrArg List.length (of_decide_eq_true hc);rw[List.length_take]at this;omega
  rw[cond_true,aV_ (by omega) (by omega) (Int.le_refl _)];simp
 | false=>simp
theorem idxB_range(s:Str)(c:UInt8):cd_ s c = -1\/(0<=cd_ s c/\cd_ s c<s.length):=by
 induction s with
 | nil=>exact .inl rfl
 | cons b l ih =>
  simp only[cd_];split
  .exact .inr ⟨Int.le_refl 0,by simp only[qLc];omega⟩
  .split
   .exact .inl rfl
   .rename_i h1 h2;rcases ih with ih|ih
    .exact absurd (by rw[ih];rfl) h2
    .exact .inr ⟨by omega,by simp only[qLc];omega⟩
theorem ln_(s:Str)(c:UInt8):0<=cd_ s c↔s.contains c=true:=by
 induction s with
 | nil=>exact⟨λh=>absurd (show(0:Int) <= -1 from h) (by decide),λh=>by cases h⟩
 | cons b l ih =>
  have e:cd_ (b::l) c=if b==c then 0 else if cd_ l c == -1 then -1 else cd_ l c+1:=rfl
  rw[e,List.contains_cons];by_cases hb:b=c
  .subst hb;simp
  .have h1:(b==c)=false:=beq_eq_false_iff_ne.2 hb;have h2:(c==b)=false:=beq_eq_false_iff_ne.2 λe=>hb e.symm
   rw[h1,h2,Bool.false_or,←ih];rcases idxB_range l c with h|⟨h,_⟩
   .rw[h];simp
   .have h3:(cd_ l c == -1)=false:=beq_eq_false_iff_ne.2 (by omega);rw[h3];simp only[Bool.false_eq_true,if_false];omega
theorem idxB_ge(s:Str)(c:UInt8):decide (cd_ s c>=0)=s.contains c:=by
 cases h:s.contains c with
 | true=>exact decide_eq_true ((ln_ s c).2 h)
 | false=>exact decide_eq_false λh2=>by rw[(ln_ s c).1 h2]at h;cases h
theorem kW_(s:Str)(c:UInt8):strings_Contains s [c]=some (s.contains c):=by
 unfold strings_Contains strings_Index stringslite_Index;simp only[qBs];rw[idxB_ge]
def ad_(p:Str)(s:Str):Nat:=(s.takeWhile λb => !(p.contains b)).length
theorem dh_(p s:Str):ad_ p s<=s.length:=by
 unfold ad_;exact List.Sublist.length_le (List.takeWhile_sublist _)
theorem mn_(p:Str):∀(k:Nat) (s:Str),(bl_ (λi b=>if p.contains b then some (((i:Nat):Int))else none) k s).getD ((k+s.length:Nat):Int)=((k+ad_ p s:Nat):Int)
 | k,[]=>by simp[bl_,ad_]
 | k,b::s=>by
  simp only[bl_,ad_,List.takeWhile_cons];cases h:p.contains b with
  | true=>simp
  | false =>
   have ih:=mn_ p (k+1) s;simp only[Bool.not_false,if_true,Bool.false_eq_true,if_false,qLc];rw[show k+(s.length+1)=k+1+s.length by omega,ih];unfold ad_
   congr 1
   omega
theorem toNat_u8(b:UInt8):((b.toNat:Int)).toNat.toUInt8=b:=by simp
theorem jm_{s p:Str}(hs:s.length<=9223372036854775807):do_ s p=some ((ad_ p s:Nat):Int):=by
 unfold do_;have h:=dg_ (body:=eF_ s p) s (λi b=>if p.contains b then some (((i:Nat):Int))else none) (aR_ hs) (λi hi=>by
  unfold eF_;rw[ba_ hi,cond_true,aL_ hi];simp only[qBs];unfold strings_IndexByte stringslite_IndexByte;simp only[qBs];rw[toNat_u8,idxB_ge];cases hc:p.contains s[i]with
  | true=>rfl
  | false =>
   simp only[cond_false,Bool.false_eq_true,if_false,stepO];rw[aq_ (by omega)]) (by
  unfold eF_;rw[bx_];rfl)
 refine(fY_ (x:=((s.length:Nat):Int)) h (λr=>rfl) rfl).trans ?_;have:=mn_ p 0 s;rw[Nat.zero_add,Nat.zero_add]at this;rw[this]
def okN(n:Nat):Bool:=(decide (97<=n)&&decide (n<=122))||(decide (48<=n)&&decide (n<=57))||n==45||n==95
def lowN(n:Nat):Bool:=decide (97<=n)&&decide (n<=122)
def trimB(s:Str):Str:=if s.take 1==[33]then s.drop 1 else s
def cB_(s:Str):Bool:=(trimB s).length>=1&&((trimB s).length<=32&&(lowN ((trimB s).headD 0).toNat&&(trimB s).all λb=>okN b.toNat))
theorem okN_int(n:Nat):((((decide ((n:Int)<97)||decide ((n:Int)>122))&&(decide ((n:Int)<48)||decide ((n:Int)>57)))&&((n:Int) != 45))&&((n:Int) != 95)) = !(okN n):=by
 unfold okN;rw[Bool.eq_iff_iff];simp only[qAn,Bool.or_eq_true,qDe,bne_iff_ne,ne_eq,Bool.not_eq_true',Bool.or_eq_false_iff,Bool.and_eq_false_iff,decide_eq_false_iff_not,beq_eq_false_iff_ne];omega
theorem isName_eq{s:Str}(hs:s.length<=9223372036854775807):ga_ s=some (cB_ s):=by
 unfold ga_;have h0:strings_TrimPrefix s [33]=some (trimB s):=trimPre s [33];rw[h0];simp only[qBs];have htl:(trimB s).length<=s.length:=by
  unfold trimB;split
  .rw[List.length_drop];omega
  .exact Nat.le_refl _
 unfold cB_;cases ht:trimB s with
 | nil=>rfl
 | cons b t =>
  rw[ht]at htl;by_cases h32:(b::t).length<=32
  .have e1:decide (((b::t).length:Int)>32)=false:=decide_eq_false (by omega);have e2:((b::t:Str)==[])=false:=rfl;rw[e1,e2];have hb0:an_ (b::t) 0=some (b.toNat:Int):=aL_ (s:=b::t) (i:=0) (by simp);simp only[Bool.or_false,cond_false,hb0,qBs];have e3:decide ((b::t).length>=1)=true:=by simp
   rw[e3,decide_eq_true h32];simp only[Bool.true_and,List.headD_cons];by_cases hl:lowN b.toNat=true
   .have hl':=hl;unfold lowN at hl';simp only[qAn,qDe]at hl';rw[decide_eq_false (show ¬(b.toNat:Int)<97 by omega)];simp only[cond_false];rw[decide_eq_false (show ¬(b.toNat:Int)>122 by omega)];simp only[qBs,cond_false,hl,Bool.true_and];have h:=jk_ (body:=d6_ (b::t)) (b::t) (λb=>okN b.toNat) false (aR_ (by omega)) (λi hi=>by
     unfold d6_;rw[ba_ hi,cond_true,aL_ hi];simp only[qBs];rw[okN_int];cases okN (b::t)[i].toNat with
     | true=>simp only[Bool.not_true,cond_false,if_true];rw[aq_ (by omega)]
     | false=>rfl) (by
     unfold d6_;rw[bx_];rfl)
    refine aI_ h ?_;cases(b::t).all λb=>okN b.toNat<;>rfl
   .have hl2:lowN b.toNat=false:=by simpa using hl
    rw[hl2];have:¬(97<=b.toNat/\b.toNat<=122):=λ⟨h1,h2⟩=>by
     unfold lowN at hl2;rw[decide_eq_true h1,decide_eq_true h2]at hl2;cases hl2
    by_cases h97:(b.toNat:Int)<97
    .rw[decide_eq_true h97];rfl
    .rw[decide_eq_false h97];simp only[cond_false];rw[decide_eq_true (show(b.toNat:Int)>122 by omega)];rfl
  .have e1:decide (((b::t).length:Int)>32)=true:=decide_eq_true (by omega);rw[e1,decide_eq_false h32];simp
theorem secret_eq(s:Str):fu_ s=some (s.take 1==[33]):=by
 unfold fu_;cases s with
 | nil=>rfl
 | cons b t =>
  rw[decide_eq_true (show((b::t).length:Int)>0 by simp only[qLc];omega),cond_true,show an_ (b::t) 0=some (b.toNat:Int)from aL_ (s:=b::t) (i:=0) (by simp)];simp only[qBs,List.take_succ_cons,List.take_zero]
  congr 1
  rw[Bool.eq_iff_iff,beq_iff_eq,beq_iff_eq];constructor
  .intro h;have:b=33:=UInt8.toNat_inj.1 (by show b.toNat=33;omega);rw[this]
  .intro h;injection h with h _;rw[h];rfl
theorem okR_int(n i:Nat):(Option.bind (bif decide ((n:Int)>=97)then Option.bind (some (n:Int)) λy=>some (decide (y<=122))else some false) λ(y17:Bool) =>
  Option.bind (bif(!y17)then
   Option.bind (bif((i:Int)==0)then some true else
    Option.bind (some (n:Int)) λy18 =>
    Option.bind (bif(decide (y18>=48))then
     Option.bind (some (n:Int)) λy19 =>
     some (decide (y19<=57))
      else some false) λ(y20:Bool) =>
    Option.bind (bif y20 then some true else
     Option.bind (some (n:Int)) λy21 =>
     some (y21==45)
     ) λ(y22:Bool) =>
    Option.bind (bif y22 then some true else
     Option.bind (some (n:Int)) λy23 =>
     some (y23==95)
     ) λ(y24:Bool) =>
    some (!y24)
    ) λ(y25:Bool) =>
   some y25
    else some false) λ(y26:Bool)=>some y26)=some (!(lowN n||(decide (i≠0)&&okN n))):=by
 unfold lowN okN;have c97:decide ((n:Int)>=97)=decide (97<=n):=decide_eq_decide.2 (by omega);have c122:decide ((n:Int)<=122)=decide (n<=122):=decide_eq_decide.2 (by omega);have c48:decide ((n:Int)>=48)=decide (48<=n):=decide_eq_decide.2 (by omega);have c57:decide ((n:Int)<=57)=decide (n<=57):=decide_eq_decide.2 (by omega);have c45:((n:Int)==45)=(n==45):=by rw[Bool.eq_iff_iff,beq_iff_eq,beq_iff_eq];omega
 have c95:((n:Int)==95)=(n==95):=by rw[Bool.eq_iff_iff,beq_iff_eq,beq_iff_eq];omega
 have c0:((i:Int)==0)=decide (i=0):=by rw[Bool.eq_iff_iff,beq_iff_eq,qDe];omega
 have cn:decide (i≠0) = !(decide (i=0)):=by simp
 simp only[qBs,c97,c122,c48,c57,c45,c95,c0,cn];cases decide (97<=n)<;>cases decide (n<=122)<;>cases decide (48<=n)<;>cases decide (n<=57)<;>cases n==45<;>cases n==95<;>cases decide (i=0)<;>rfl
theorem low_ok{n:Nat}(h:lowN n=true):okN n=true:=by
 unfold lowN at h;unfold okN;rw[h];rfl
def gName(i:Nat)(b:UInt8):Option Bool:=if !(lowN b.toNat||(decide (i≠0)&&okN b.toNat))then some false else none
theorem scan_name:∀(t:Str) (k:Nat),0<k->bl_ gName k t=if t.all λb=>okN b.toNat then none else some false
 | [],_,_=>rfl
 | b::t,k,hk=>by
  have hg:gName k b=if okN b.toNat then none else some false:=by
   unfold gName;rw[decide_eq_true (show k≠0 by omega),Bool.true_and];cases ho:okN b.toNat with
   | true=>simp
   | false =>
    cases hl:lowN b.toNat with
    | true=>rw[low_ok hl]at ho;cases ho
    | false=>rfl
  simp only[bl_,hg,List.all_cons];by_cases ho:okN b.toNat=true
  .simp only[ho,if_true,Bool.true_and];exact scan_name t (k+1) (by omega)
  .have ho':okN b.toNat=false:=by simpa using ho
   simp[ho']
theorem bind2_last{α γ:Type}{A:Option α}{B:α->Option Bool}{f:Bool->Option γ}{r:Bool}(h:(Option.bind A λy=>Option.bind (B y) λz=>some z)=some r):(Option.bind A λy=>Option.bind (B y) f)=f r:=by
 cases A with
 | none=>cases h
 | some a =>
  simp only[qBs]at h ⊢;cases hb:B a with
  | none=>rw[hb]at h;cases h
  | some b =>
   rw[hb]at h;simp only[qBs]at h ⊢;rw[qSj h]
theorem refName_eq{s:Str}(hs:s.length<=9223372036854775807):g3_ s=some (cB_ s):=by
 unfold g3_;rw[secret_eq];have h0:(Option.bind (some (s.take 1==[33])) λy1=>(bif y1 then(aJ_ s 1 (s.length:Int)).bind λy2=>some y2 else some s))=some (trimB s):=by
  simp only[qBs];unfold trimB;cases hc:s.take 1==[33]with
  | true =>
   have hle:1<=s.length:=by
    cases s with
    | nil=>cases hc
    | cons b t=>simp
   rw[cond_true,aV_ (by omega) (by omega) (Int.le_refl _)];simp
  | false=>rfl
 refine aI_ h0 ?_;have htl:(trimB s).length<=s.length:=by
  unfold trimB;split
  .rw[List.length_drop];omega
  .exact Nat.le_refl _
 have h:=dg_ (body:=eJ_ (trimB s)) (trimB s) gName (aR_ (by omega)) (λi hi=>by
  unfold eJ_;rw[ba_ hi,cond_true,aL_ hi];simp only[qBs];refine(bind2_last (okR_int (trimB s)[i].toNat i)).trans ?_;unfold gName;cases(lowN (trimB s)[i].toNat||(decide (i≠0)&&okN (trimB s)[i].toNat))with
  | true =>
   simp only[Bool.not_true,cond_false,Bool.false_eq_true,if_false,stepO];rw[aq_ (by omega)]
  | false=>rfl) (by
  unfold eJ_;rw[bx_];rfl)
 refine(fY_ (x:=(decide (((trimB s).length:Int)>=1)&&decide (((trimB s).length:Int)<=32))) h (λr=>rfl) rfl).trans ?_
 congr 1
 unfold cB_;cases ht:trimB s with
 | nil=>rfl
 | cons b t =>
  have e1:decide (((b::t).length:Int)>=1)=decide ((b::t).length>=1):=decide_eq_decide.2 (by omega);have e2:decide (((b::t).length:Int)<=32)=decide ((b::t).length<=32):=decide_eq_decide.2 (by omega);rw[e1,e2];have g0:gName 0 b=if lowN b.toNat then none else some false:=by
   unfold gName;cases lowN b.toNat<;>rfl
  simp only[bl_,g0,List.headD_cons,List.all_cons];by_cases hl:lowN b.toNat=true
  .rw[scan_name t (0+1) (by omega)];simp only[hl,low_ok hl,if_true,Bool.true_and];cases t.all λb=>okN b.toNat<;>simp
  .have hl':lowN b.toNat=false:=by simpa using hl
   simp[hl']
theorem refPlain_eq{s:Str}(hs:s.length<=9223372036854775807):ge_ s=some (decide (ad_ [0,10,13] s=s.length)):=by
 unfold ge_;have h:=dg_ (body:=eb_ s) s (λ_ b=>if([0,10,13]:Str).contains b then some false else none) (aR_ hs) (λi hi=>by
  unfold eb_;rw[ba_ hi,cond_true,aL_ hi];simp only[qBs];have hc:([0,10,13]:Str).contains s[i]=(((s[i].toNat:Int)==0)||(((s[i].toNat:Int)==10)||((s[i].toNat:Int)==13))):=by
   have key:∀k:UInt8,(s[i]==k)=((s[i].toNat:Int)==(k.toNat:Int)):=λk=>by
    rw[Bool.eq_iff_iff,beq_iff_eq,beq_iff_eq];exact⟨λe=>by rw[e],λe=>UInt8.toNat_inj.1 (by omega)⟩
   simp only[List.contains_cons,List.contains_nil,Bool.or_false];rw[key 0,key 10,key 13];rfl
  rw[hc];cases((s[i].toNat:Int)==0)with
  | true=>rfl
  | false =>
   cases((s[i].toNat:Int)==10)with
   | true=>rfl
   | false =>
    cases((s[i].toNat:Int)==13)with
    | true=>rfl
    | false =>
     simp only[cond_false,qBs,Bool.or_false,Bool.false_eq_true,if_false,stepO];rw[aq_ (by omega)]) (by
  unfold eb_;rw[bx_];rfl)
 refine(fY_ (x:=true) h (λr=>rfl) rfl).trans ?_
 congr 1
 have:∀(k:Nat) (t:Str),(bl_ (λ_ b=>if([0,10,13]:Str).contains b then some false else none) k t).getD true=decide (ad_ [0,10,13] t=t.length):=by
  intro k t
  induction t generalizing k with
  | nil=>rfl
  | cons b t ih =>
   simp only[bl_,ad_,List.takeWhile_cons];cases hb:([0,10,13]:Str).contains b with
   | true=>simp
   | false =>
    simp only[Bool.false_eq_true,if_false,Bool.not_false,if_true,qLc];rw[ih (k+1)];unfold ad_;exact decide_eq_decide.2 (by omega)
 exact this 0 s
def bJ_(l:List Xz)(a:Xz):Int:=if l.length>=32 then 22 else if !(cB_ a.Xh)then 6 else if a.Xb && !(a.Xv==[])then 2 else if ad_ [0,10,13] a.Xv<a.Xv.length then 2 else if a.Xv.length>1024 then 4 else if l.any λb=>b.Xh==a.Xh then 7 else 0
theorem indexFunc_eq(l:List Xz)(p:Xz->Bool)(hl:l.length<=9223372036854775807):aE_ l (λa=>some (p a))=some (at_ p l):=by
 unfold aE_;have h:=dg_ (body:=aW_ l (λa=>some (p a))) l (λi x=>if p x then some ((i:Nat):Int)else none) (aR_ hl) (λi hi=>by
  unfold aW_;rw[ba_ hi,cond_true,bX_ hi];simp only[qBs];cases p l[i]with
  | true=>rfl
  | false =>
   simp only[cond_false,Bool.false_eq_true,if_false,stepO];rw[aq_ (by omega)]) (by
  unfold aW_;rw[bx_];rfl)
 refine(fY_ (x:=(-1:Int)) h (λr=>rfl) rfl).trans ?_;rw[at_getD]
theorem at_any{α:Type}(p:α->Bool)(l:List α):decide (at_ p l>=0)=l.any p:=by
 have:=at_neg p l;have h2:decide (at_ p l>=0) = !(decide (at_ p l<0)):=by
  by_cases h:at_ p l<0
  .rw[decide_eq_true h,decide_eq_false (by omega)];rfl
  .rw[decide_eq_false h,decide_eq_true (by omega)];rfl
 rw[h2,this];cases hf:l.find? p with
 | none =>
  rw[List.find?_eq_none]at hf
  symm;simp only[Option.isNone_none,Bool.not_true,List.any_eq_false];exact hf
 | some x =>
  symm;simp only[Option.isNone_some,Bool.not_false,List.any_eq_true];exact⟨x,List.mem_of_find?_eq_some hf,List.find?_some hf⟩
theorem hS_(l:List Xz)(p:Xz->Bool)(hl:l.length<=9223372036854775807):aK_ l (λa=>some (p a))=some (l.any p):=by
 unfold aK_;rw[indexFunc_eq l p hl];simp only[qBs];rw[at_any]
theorem lo_{l:List Xz}{a:Xz}(hl:l.length<=9223372036854775807)(hn:a.Xh.length<=9223372036854775807)(hv:a.Xv.length<=9223372036854775807):d7_ l a=some (bJ_ l a):=by
 unfold d7_ bJ_;by_cases h32:l.length>=32
 .rw[decide_eq_true (show(l.length:Int)>=32 by omega),if_pos h32];rfl
 .rw [decide_eq_false (show ¬(l.length:Int)>=32 by omega),if_neg h32,cond_false,isName_eq hn];simp only[qBs];cases cB_ a.Xh with
  | false=>rfl
  | true =>
   simp only[Bool.not_true,cond_false,Bool.false_eq_true,if_false];cases a.Xb && !(a.Xv==[])with
   | true=>rfl
   | false =>
    simp only[cond_false,Bool.false_eq_true,if_false];rw[jm_ hv];simp only[qBs];by_cases hu:ad_ [0,10,13] a.Xv<a.Xv.length
    .rw[decide_eq_true (show((ad_ [0,10,13] a.Xv:Nat):Int)<(a.Xv.length:Int)by omega),if_pos hu];rfl
    .rw[decide_eq_false (show ¬((ad_ [0,10,13] a.Xv:Nat):Int)<(a.Xv.length:Int)by omega),if_neg hu,cond_false];by_cases h1:a.Xv.length>1024
     .rw[decide_eq_true (show(a.Xv.length:Int)>1024 by omega),if_pos h1];rfl
     .rw[decide_eq_false (show ¬(a.Xv.length:Int)>1024 by omega),if_neg h1,cond_false];have:(λ(u1:Xz)=>Option.bind (hu_ u1 a) λ(v1:Bool)=>some v1)=λb=>some (b.Xh==a.Xh):=rfl
      rw[this,hS_ l _ hl];simp only[qBs];cases l.any λb=>b.Xh==a.Xh<;>rfl
theorem kl_ {l:List Xz} {a:Xz} (hl:l.length<=9223372036854775807) (hn:a.Xh.length<=9223372036854775807) (hv:a.Xv.length<=9223372036854775807):e9_ l a=some (bJ_ l a):=by
 unfold e9_ bJ_;by_cases h32:l.length>=32
 .rw[decide_eq_true (show(l.length:Int)>=32 by omega),if_pos h32];rfl
 .rw [decide_eq_false (show ¬(l.length:Int)>=32 by omega),if_neg h32,cond_false,refName_eq hn];simp only[qBs];cases cB_ a.Xh with
  | false=>rfl
  | true =>
   simp only[Bool.not_true,cond_false,Bool.false_eq_true,if_false];cases a.Xb && !(a.Xv==[])with
   | true=>rfl
   | false =>
    simp only[cond_false,Bool.false_eq_true,if_false];rw[refPlain_eq hv];simp only[qBs];have hle:=dh_ [0,10,13] a.Xv;by_cases hu:ad_ [0,10,13] a.Xv<a.Xv.length
    .rw[decide_eq_false (show ¬ad_ [0,10,13] a.Xv=a.Xv.length by omega),if_pos hu];rfl
    .rw [decide_eq_true (show ad_ [0,10,13] a.Xv=a.Xv.length by omega),if_neg hu];simp only[Bool.not_true,cond_false];by_cases h1:a.Xv.length>1024
     .rw[decide_eq_true (show(a.Xv.length:Int)>1024 by omega),if_pos h1];rfl
     .rw[decide_eq_false (show ¬(a.Xv.length:Int)>1024 by omega),if_neg h1,cond_false];have h:=jk_ (body:=fv_ l a) l (λb => !(b.Xh==a.Xh)) (7:Int) (aR_ hl) (λi hi=>by
       unfold fv_;rw[ba_ hi,cond_true,bX_ hi];simp only[qBs];cases l[i].Xh==a.Xh with
       | true=>rfl
       | false =>
        simp only[cond_false,Bool.not_false,if_true];rw[aq_ (by omega)]) (by
       unfold fv_;rw[bx_];rfl)
      refine aI_ h ?_;have hany:(l.any λb=>b.Xh==a.Xh) = !(l.all λb => !(b.Xh==a.Xh)):=by
       rw[List.all_eq_not_any_not];simp
      rw[hany];cases l.all λb => !(b.Xh==a.Xh)<;>rfl
theorem mo_{α β γ:Type}{body:Int×γ->Option (Step (Int×γ) (Out Unit β))}(c:γ)(xs:List α)(g:Nat->α->Option β)(hn:xs.length<BIG)
  (hb:∀i (h:i<xs.length),body ((i:Int),c)=some (match g i xs[i]with|some r => .done (.ret r)|none => .next (((i+1:Nat):Int),c)))
  (he:body ((xs.length:Int),c)=some (.done (.fall ()))):ah_ body BIG (0,c)=some (outO (bl_ g 0 xs)):=by
 refine jj_ (J:=λi s b=>s=((i:Int),c)/\b=outO (bl_ g i (xs.drop i))) xs.length hn (λs b hJ => ?_) (λi s b hi hJ => ?_) (by simp)
 .obtain⟨rfl,rfl⟩:=hJ;rw[he];simp[bl_,outO]
 .obtain⟨rfl,rfl⟩:=hJ;rw[hb i hi,List.drop_eq_getElem_cons hi];simp only[bl_];cases hg:g i xs[i]with
  | some r=>exact .inl rfl
  | none=>exact .inr ⟨_,rfl,rfl,rfl⟩
structure AttrL(l:List Xz):Prop where
 len:l.length<=9223372036854775807
 nm:∀a∈l,a.Xh.length<=9223372036854775807
 vl:∀a∈l,a.Xv.length<=9223372036854775807
def ew_(l:List Xz)(i:Nat)(x:Xz):Option Int:=if bJ_ (l.take i) x=0 then none else some (bJ_ (l.take i) x)
def aU_(l:List Xz):Int:=(bl_ (ew_ l) 0 l).getD 0
theorem km_{l:List Xz}(h:AttrL l):fo_ l=some (aU_ l):=by
 unfold fo_;have hs:=dg_ (body:=eG_ l) l (ew_ l) (aR_ h.len) (λi hi=>by
  unfold eG_;have hm:=List.getElem_mem hi;have hl:=h.len;rw[ba_ hi,cond_true,bX_ hi,aV_ (Int.le_refl 0) (by omega) (by omega)];simp only[qBs,qTn,Int.toNat_zero,List.drop_zero];rw[lo_ (by rw[List.length_take];omega) (h.nm _ hm) (h.vl _ hm)];simp only[qBs];unfold ew_;by_cases h0:bJ_ (l.take i) l[i]=0
  .rw[if_pos h0,h0];simp only[bne_self_eq_false,cond_false,stepO];rw[aq_ (by omega)]
  .rw[if_neg h0,show(bJ_ (l.take i) l[i] != 0)=true from bne_iff_ne.2 h0];rfl) (by
  unfold eG_;rw[bx_];rfl)
 exact fY_ (x:=(0:Int)) hs (λr=>rfl) rfl
theorem kX_{l:List Xz}(h:AttrL l):eu_ l=some (aU_ l):=by
 unfold eu_;have hs:=dg_ (body:=ec_ l) l (ew_ l) (aR_ h.len) (λi hi=>by
  unfold ec_;have hm:=List.getElem_mem hi;have hl:=h.len;rw[ba_ hi,cond_true,bX_ hi,aV_ (Int.le_refl 0) (by omega) (by omega)];simp only[qBs,qTn,Int.toNat_zero,List.drop_zero];rw[kl_ (by rw[List.length_take];omega) (h.nm _ hm) (h.vl _ hm)];simp only[qBs];unfold ew_;by_cases h0:bJ_ (l.take i) l[i]=0
  .rw[if_pos h0,h0];simp only[bne_self_eq_false,cond_false,stepO];rw[aq_ (by omega)]
  .rw[if_neg h0,show(bJ_ (l.take i) l[i] != 0)=true from bne_iff_ne.2 h0];rfl) (by
  unfold ec_;rw[bx_];rfl)
 exact fY_ (x:=(0:Int)) hs (λr=>rfl) rfl
def textE(s:Str):Int:=if s.length>1024 then 4 else if s.contains 10 then 2 else 0
theorem refText_eq(s:Str):g2_ s=some (textE s):=by
 unfold g2_ textE;by_cases h:s.length>1024
 .rw[decide_eq_true (show(s.length:Int)>1024 by omega),if_pos h];rfl
 .rw[decide_eq_false (show ¬(s.length:Int)>1024 by omega),if_neg h,cond_false];have hl:=jk_ (body:=eI_ s) s (λb => !(b==10)) (2:Int) (aR_ (by omega)) (λi hi=>by
   unfold eI_;rw[ba_ hi,cond_true,aL_ hi];simp only[qBs];have hc:((s[i].toNat:Int)==10)=(s[i]==10):=by
    rw[Bool.eq_iff_iff,beq_iff_eq,beq_iff_eq];exact⟨λe=>UInt8.toNat_inj.1 (show s[i].toNat=10 by omega),λe=>by rw[e];rfl⟩
   rw[hc];cases s[i]==10 with
   | true=>rfl
   | false =>
    simp only[cond_false,Bool.not_false,if_true];rw[aq_ (by omega)]) (by
   unfold eI_;rw[bx_];rfl)
  refine aI_ hl ?_;have:s.contains 10 = !(s.all λb => !(b==10)):=by
   rw[List.contains_eq_any_beq,List.all_eq_not_any_not];simp only[Bool.not_not]
   congr 1
   funext b
   rw[Bool.eq_iff_iff,beq_iff_eq,beq_iff_eq];exact eq_comm
  rw[this];cases s.all λb => !(b==10)<;>rfl
def gn_(_:Nat)(s:Str):Option Int:=if textE s=0 then none else some (textE s)
def bt_(m:Xq):Int:=(bl_ gn_ 0 [m.Xg,m.Xf,m.Xm,m.Xw]).getD (if aU_ m.Xx=0 then(if m.Xx.any (·.Xb)then 2 else if m.Xk.length>65536 then 4 else 0)else aU_ m.Xx)
theorem eL_{m:Xq}(h:AttrL m.Xx):bD_ m=some (bt_ m):=by
 unfold bD_;have hs:=mo_ (body:=d8_ m) [m.Xg,m.Xf,m.Xm,m.Xw] [m.Xg,m.Xf,m.Xm,m.Xw] gn_ (by unfold BIG;simp) (λi hi=>by
  unfold d8_;rw[ba_ hi,cond_true,bX_ hi];simp only[qBs];generalize([m.Xg,m.Xf,m.Xm,m.Xw]:List Str)[i]=s;unfold gn_ textE;by_cases h1:s.length>1024
  .rw[decide_eq_true (show(s.length:Int)>1024 by omega),if_pos h1];rfl
  .rw[decide_eq_false (show ¬(s.length:Int)>1024 by omega),if_neg h1,cond_false,kW_];simp only[qBs];cases s.contains 10 with
   | true=>rfl
   | false =>
    simp only[cond_false,Bool.false_eq_true,if_false,if_true];have hi':i<4:=hi;rw[aq_ (by omega)]) (by
  unfold d8_;rw[bx_];rfl)
 unfold bt_;cases hsc:bl_ gn_ 0 [m.Xg,m.Xf,m.Xm,m.Xw]with
 | some r =>
  rw[hsc]at hs;exact aI_ hs rfl
 | none =>
  rw[hsc]at hs;refine aI_ hs ?_;simp only[outO];rw[km_ h];simp only[qBs,Option.getD_none];by_cases h0:aU_ m.Xx=0
  .rw[if_pos h0,h0];simp only[bne_self_eq_false,cond_false];unfold eH_;have:(λ(u1:Xz)=>Option.bind (fp_ u1) λ(v1:Bool)=>some v1)=λb=>some b.Xb:=rfl
   rw[this,hS_ _ _ h.len];simp only[qBs];cases m.Xx.any (·.Xb)with
   | true=>rfl
   | false =>
    simp only[cond_false,Bool.false_eq_true,if_false];by_cases h1:m.Xk.length>65536
    .rw[decide_eq_true (show(m.Xk.length:Int)>65536 by omega),if_pos h1];rfl
    .rw[decide_eq_false (show ¬(m.Xk.length:Int)>65536 by omega),if_neg h1];rfl
  .rw[if_neg h0,show(aU_ m.Xx != 0)=true from bne_iff_ne.2 h0];rfl
theorem eU_{m:Xq}(h:AttrL m.Xx):dz_ m=some (bt_ m):=by
 unfold dz_;have hs:=mo_ (body:=ed_) [m.Xg,m.Xf,m.Xm,m.Xw] [m.Xg,m.Xf,m.Xm,m.Xw] gn_ (by unfold BIG;simp) (λi hi=>by
  unfold ed_;rw[ba_ hi,cond_true,bX_ hi];simp only[qBs];generalize([m.Xg,m.Xf,m.Xm,m.Xw]:List Str)[i]=s;rw[refText_eq];simp only[qBs];unfold gn_;by_cases h0:textE s=0
  .rw[if_pos h0,h0];simp only[bne_self_eq_false,cond_false];have hi':i<4:=hi;rw[aq_ (by omega)]
  .rw[if_neg h0,show(textE s != 0)=true from bne_iff_ne.2 h0];rfl) (by
  unfold ed_;rw[bx_];rfl)
 unfold bt_;cases hsc:bl_ gn_ 0 [m.Xg,m.Xf,m.Xm,m.Xw]with
 | some r =>
  rw[hsc]at hs;exact aI_ hs rfl
 | none =>
  rw[hsc]at hs;refine aI_ hs ?_;simp only[outO];rw[kX_ h];simp only[qBs,Option.getD_none];by_cases h0:aU_ m.Xx=0
  .rw[if_pos h0,h0];simp only[bne_self_eq_false,cond_false];have hq:=jk_ (body:=ee_ m) m.Xx (λa => !a.Xb) (2:Int) (aR_ h.len) (λi hi=>by
    unfold ee_;have hl:=h.len;rw[ba_ hi,cond_true,bX_ hi];simp only[qBs];cases m.Xx[i].Xb with
    | true=>rfl
    | false =>
     simp only[cond_false,Bool.not_false,if_true];rw[aq_ (by omega)]) (by
    unfold ee_;rw[bx_];rfl)
   refine aI_ hq ?_;have hany:(m.Xx.any (·.Xb)) = !(m.Xx.all λa => !a.Xb):=by
    rw[List.all_eq_not_any_not];simp
   rw[hany];cases m.Xx.all λa => !a.Xb with
   | false=>rfl
   | true =>
    simp only[Bool.not_true,Bool.false_eq_true,if_false,if_true];by_cases h1:m.Xk.length>65536
    .rw[decide_eq_true (show(m.Xk.length:Int)>65536 by omega),if_pos h1];rfl
    .rw[decide_eq_false (show ¬(m.Xk.length:Int)>65536 by omega),if_neg h1];rfl
  .rw[if_neg h0,show(aU_ m.Xx != 0)=true from bne_iff_ne.2 h0];rfl
def dbl(s:Str):Str:=s.flatMap λb=>if b==39 then[39,39]else[b]
theorem kL_(a b:Str):dbl (a++b)=dbl a++dbl b:=by unfold dbl;rw[List.flatMap_append]
theorem kn_{s:Str}(h:s.contains 39=false):dbl s=s:=by
 induction s with
 | nil=>rfl
 | cons b t ih =>
  rw[List.contains_cons,Bool.or_eq_false_iff]at h;unfold dbl at ih ⊢;rw[List.flatMap_cons,ih h.2];have:(b==39)=false:=by
   rw[beq_eq_false_iff_ne];intro e;rw[e]at h;simp at h
  rw[this];rfl
theorem hc_(s:Str):(dbl s).length<=2*s.length:=by
 induction s with
 | nil=>simp[dbl]
 | cons b t ih =>
  unfold dbl at ih ⊢;rw[List.flatMap_cons,qLa,qLc];by_cases hb:(b==39)=true
  .rw[if_pos hb];simp only[qLc,List.length_nil];omega
  .rw[if_neg hb];simp only[qLc,List.length_nil];omega
theorem go_{c:UInt8}{s:Str}(h:s.contains c=true):s=s.take (ad_ [c] s)++c::s.drop (ad_ [c] s+1)/\(s.take (ad_ [c] s)).contains c=false/\cd_ s c=((ad_ [c] s:Nat):Int)/\ad_ [c] s<s.length:=by
 induction s with
 | nil=>cases h
 | cons b t ih =>
  by_cases hb:b=c
  .subst hb;have hu:ad_ [b] (b::t)=0:=by
    unfold ad_;rw[List.takeWhile_cons];simp
   rw[hu];refine⟨rfl,rfl,?_,by simp⟩;simp[cd_]
  .have h1:(b==c)=false:=beq_eq_false_iff_ne.2 hb;have h2:(c==b)=false:=beq_eq_false_iff_ne.2 λe=>hb e.symm
   rw[List.contains_cons,h2,Bool.false_or]at h;obtain⟨i1,i2,i3,i4⟩:=ih h;have hu:ad_ [c] (b::t)=ad_ [c] t+1:=by
    unfold ad_;rw[List.takeWhile_cons];simp[hb]
   rw[hu];refine⟨?_,?_,?_,by simp only[qLc];omega⟩
   .rw[List.take_succ_cons,List.drop_succ_cons,List.cons_append,←i1]
   .rw[List.take_succ_cons,List.contains_cons,h2,i2];rfl
   .have e:cd_ (b::t) c=if b==c then 0 else if cd_ t c == -1 then -1 else cd_ t c+1:=rfl
    rw[e,h1,i3,show(((ad_ [c] t:Nat):Int) == -1)=false from beq_eq_false_iff_ne.2 (by omega)];simp only[Bool.false_eq_true,if_false];omega
theorem ko_{c:UInt8}{s:Str}(h:0<s.count c):s.contains c=true:=by
 rw[List.contains_iff_mem];exact List.count_pos_iff.1 h
theorem mp_{c:UInt8}{s:Str}(h:s.count c=0):s.contains c=false:=by
 cases hc:s.contains c with
 | false=>rfl
 | true =>
  rw[List.contains_iff_mem]at hc;have:=List.count_pos_iff.2 hc;omega
theorem count_none{c:UInt8}{s:Str}(h:s.contains c=false):s.count c=0:=by
 rcases Nat.eq_zero_or_pos (s.count c)with h0|h0
 .exact h0
 .rw[ko_ h0]at h;cases h
theorem ib_(s:Str):bytesS (aS_ s)=s:=by
 unfold bytesS aS_;rw[List.map_map]
 conv=>rhs;rw[←List.map_id s]
 apply List.map_congr_left;intro b _;simp
theorem hx_(a b:Str):aS_ (a++b)=aS_ a++aS_ b:=List.map_append
theorem aF_(s:Str):(aS_ s).length=s.length:=List.length_map _
def bp_(s:Str):Nat->Nat | 0=>0|i+1=>bp_ s i+ad_ [39] (s.drop (bp_ s i))+1
theorem posQ_ok{s:Str}:∀(i:Nat),i<=s.count 39->bp_ s i<=s.length/\(s.drop (bp_ s i)).count 39=s.count 39-i
 | 0,_=>⟨Nat.zero_le _,rfl⟩
 | i+1,hi=>by
  obtain⟨h1,h2⟩:=posQ_ok (s:=s) i (by omega);have hc:(s.drop (bp_ s i)).contains 39=true:=ko_ (by omega);obtain⟨k1,k2,_,k4⟩:=go_ hc;rw[List.length_drop]at k4;simp only[bp_];refine⟨by omega,?_⟩;have e1:s.drop (bp_ s i+ad_ [39] (s.drop (bp_ s i))+1)=(s.drop (bp_ s i)).drop (ad_ [39] (s.drop (bp_ s i))+1):=by
   rw[List.drop_drop];congr 1
  rw[e1];have h3:=congrArg (List.count 39) k1;rw[List.count_append,count_none k2,List.count_cons_self,h2]at h3;omega
theorem take_next{t:Str}{u:Nat}{c:UInt8}(k1:t=t.take u++c::t.drop (u+1))(hu:u<t.length):t.take (u+1)=t.take u++[c]:=by
 have hl:(t.take u).length=u:=by rw[List.length_take];omega
 have h:=congrArg (List.take (u+1)) k1;rw[List.take_append,hl,List.take_of_length_le (by omega:(t.take u).length<=u+1),show u+1-u=1 by omega]at h;rw[h];simp
theorem dbl_step{s:Str}{p:Nat}(_:p<=s.length)(hc:(s.drop p).contains 39=true):dbl (s.take (p+ad_ [39] (s.drop p)+1))=dbl (s.take p)++((s.drop p).take (ad_ [39] (s.drop p))++[39,39]):=by
 obtain⟨k1,k2,_,k4⟩:=go_ hc;have e1:s.take (p+ad_ [39] (s.drop p)+1)=s.take p++(s.drop p).take (ad_ [39] (s.drop p)+1):=by
  rw[Nat.add_assoc,List.take_add]
 have e2:=take_next k1 k4;rw[e1,e2,kL_,kL_,kn_ k2];rfl
theorem nV_{s:Str}(hs:s.length<=1000000000):strings_ReplaceAll s [39] [39,39]=some (dbl s):=by
 have hcl:s.count 39<=s.length:=List.count_le_length;unfold strings_ReplaceAll strings_Replace;have e0:((([39]:Str)==[39,39])||((-1:Int)==0))=false:=rfl;rw[e0,cond_false];have ec:strings_Count s [39]=some ((s.count 39:Nat):Int):=rfl;rw[ec];simp only[qBs];rcases Nat.eq_zero_or_pos (s.count 39)with h0|h0
 .rw[h0,kn_ (mp_ h0)];rfl
 .rw[show(((s.count 39:Nat):Int)==0)=false from beq_eq_false_iff_ne.2 (by omega)];simp only[cond_false,show decide ((-1:Int)<0)=true from rfl,Bool.true_or,cond_true,qBs,qLc,List.length_nil];have eg:growB ([]:List Int) (w64 ((s.length:Int)+w64 (((s.count 39:Nat):Int)*w64 (((0+1+1:Nat):Int)-((0+1:Nat):Int)))))=some []:=by
   rw[aw_ (n:=((0+1+1:Nat):Int)-((0+1:Nat):Int)) ⟨by omega,by omega⟩,aw_ (n:=((s.count 39:Nat):Int)*_) ⟨by omega,by omega⟩,aw_ ⟨by omega,by omega⟩];unfold growB;rw[decide_eq_true (by omega),decide_eq_true (by omega)];rfl
  rw[eg];simp only[qBs];rw[show decide (((0+1:Nat):Int)>0)=true from rfl,cond_true];have hl:=fa_ (body:=b6_ ((s.count 39:Nat):Int) s [39] [39,39]) (λi=>((bp_ s i:Int),(i:Int),aS_ (dbl (s.take (bp_ s i))))) (s.count 39) (aR_ (by omega)) (λi hi=>by
   obtain⟨h1,h2⟩:=posQ_ok (s:=s) i (by omega);have hc:(s.drop (bp_ s i)).contains 39=true:=ko_ (by omega);obtain⟨k1,k2,k3,k4⟩:=go_ hc;have hd:=dbl_step h1 hc;have hdl:=hc_ (s.take (bp_ s i));rw[List.length_take]at hdl;rw[List.length_drop]at k4;unfold b6_;simp only[];rw[ba_ hi,cond_true,aV_ (by omega) (by omega) (Int.le_refl _)];simp only[qBs,qTn,List.take_length];unfold strings_Index stringslite_Index;simp only[qBs];rw[k3,aw_ (n:=(bp_ s i:Int)+_) ⟨by omega,by omega⟩,aV_ (by omega) (by omega) (by omega)];simp only[qBs];rw[show((bp_ s i:Int)+((ad_ [39] (s.drop (bp_ s i)):Nat):Int)).toNat=bp_ s i+ad_ [39] (s.drop (bp_ s i))by omega,qTn]
   have e3:(s.take (bp_ s i+ad_ [39] (s.drop (bp_ s i)))).drop (bp_ s i)=(s.drop (bp_ s i)).take (ad_ [39] (s.drop (bp_ s i))):=by
    rw[List.drop_take];congr 1;omega
   rw[e3];have hul:((s.drop (bp_ s i)).take (ad_ [39] (s.drop (bp_ s i)))).length<=s.length:=by rw[List.length_take,List.length_drop];omega
   rw[cv_ (by rw[aF_,aF_];omega) (by rw[aF_,aF_];omega)];simp only[qBs];rw[cv_ (by rw[qLa,aF_,aF_,aF_];simp only[qLc,List.length_nil];omega) (by rw[qLa,aF_,aF_,aF_];simp only[qLc,List.length_nil];omega)];simp only[qBs];have e4:bp_ s (i+1)=bp_ s i+ad_ [39] (s.drop (bp_ s i))+1:=rfl;rw[aq_ (by omega),e4,hd,hx_,hx_,List.append_assoc];rw[aw_ (n:=_+(([39]:Str).length:Int)) ⟨by simp only[qLc,List.length_nil];omega,by simp only[qLc,List.length_nil];omega⟩];rfl) (by
   unfold b6_;simp only[];rw[bx_];rfl)
  have hl':ah_ (b6_ ((s.count 39:Nat):Int) s [39] [39,39]) BIG (0,0,[])=some ((bp_ s (s.count 39):Int),aS_ (dbl (s.take (bp_ s (s.count 39))))):=hl;rw[hl'];simp only[qBs];obtain⟨h1,h2⟩:=posQ_ok (s:=s) (s.count 39) (Nat.le_refl _);have hc:(s.drop (bp_ s (s.count 39))).contains 39=false:=mp_ (by omega);have hdl:=hc_ (s.take (bp_ s (s.count 39)));rw[List.length_take]at hdl;rw[aV_ (by omega) (by omega) (Int.le_refl _)];simp only[qBs,qTn,List.take_length];rw[cv_ (by rw[aF_,aF_,List.length_drop];omega) (by rw[aF_,aF_,List.length_drop];omega)];simp only[qBs];rw[←hx_,ib_]
  congr 1
  conv=>rhs;rw[←List.take_append_drop (bp_ s (s.count 39)) s,kL_,kn_ hc]
def dd_(s:Str):Str:=if s≠[]/\ad_ [32,9,39] s=s.length then s else 39::(dbl s++[39])
theorem quote_eq{s:Str}(hs:s.length<=1000000000):gZ_ s=some (dd_ s):=by
 unfold gZ_ dd_;rw[jm_ (by omega),nV_ hs];have hdl:=hc_ s;by_cases h0:s=[]
 .subst h0;rfl
 .rw[show(s==[])=false from beq_eq_false_iff_ne.2 h0];simp only[Bool.not_false,cond_true,qBs];by_cases hu:ad_ [32,9,39] s=s.length
  .rw[hu,if_pos ⟨h0,rfl⟩];simp
  .rw[if_neg λh=>hu h.2,show(((ad_ [32,9,39] s:Nat):Int)==(s.length:Int))=false from beq_eq_false_iff_ne.2 (by omega),cond_false,bI_ (by simp only[qLc,List.length_nil];omega)];simp only[qBs];rw[bI_ (by simp only[qLa,qLc,List.length_nil];omega)];simp
theorem until_all(p s:Str):(ad_ p s=s.length)↔(s.any λb=>p.contains b)=false:=by
 induction s with
 | nil=>simp[ad_]
 | cons b t ih =>
  unfold ad_ at ih ⊢;rw[List.takeWhile_cons,List.any_cons];cases hb:p.contains b with
  | true=>simp
  | false =>
   simp only[Bool.not_false,if_true,qLc,Bool.false_or];rw[←ih];omega
theorem bT_(b k:UInt8):((b.toNat:Int)==(k.toNat:Int))=(b==k):=by
 rw[Bool.eq_iff_iff,beq_iff_eq,beq_iff_eq];exact⟨λe=>UInt8.toNat_inj.1 (by omega),λe=>by rw[e]⟩
def oddB(b:UInt8):Bool:=(b==32)||((b==9)||(b==39))
theorem odd_in(b:UInt8):([32,9,39]:Str).contains b=oddB b:=by
 simp only[oddB,List.contains_cons,List.contains_nil,Bool.or_false]
theorem di_{α:Type}{l:List α}{i:Nat}(h:i<l.length):l.take (i+1)=l.take i++[l[i]]:=by
 rw[List.take_succ_eq_append_getElem h]
theorem refQuote_eq{s:Str}(hs:s.length<=1000000000):gf_ s=some (dd_ s):=by
 unfold gf_;have hl:=fa_ (body:=c9_ s) (λi=>(dbl (s.take i),((s==[])||(s.take i).any oddB),(i:Int))) s.length (aR_ (by omega)) (λi hi=>by
  have hdl:=hc_ (s.take i);rw[List.length_take]at hdl;unfold c9_;simp only[];rw[ba_ hi,cond_true,aL_ hi,aq_ (by omega),aV_ (by omega) (by omega) (by omega)];simp only[qBs,qTn];have e1:(s.take (i+1)).drop i=[s[i]]:=by
   rw[di_ hi,List.drop_append,List.length_take,show i-min i s.length=0 by omega,List.drop_eq_nil_of_le (by rw[List.length_take];omega)];rfl
  rw[e1,bI_ (by simp only[qLc,List.length_nil];omega)];have k1:((s[i].toNat:Int)==32)=(s[i]==32):=bT_ s[i] 32;have k2:((s[i].toNat:Int)==9)=(s[i]==9):=bT_ s[i] 9;have k3:((s[i].toNat:Int)==39)=(s[i]==39):=bT_ s[i] 39;rw[k1,k2,k3,di_ hi,kL_,List.any_append];have k4:dbl [s[i]]=if s[i]==39 then[39,39]else[s[i]]:=by unfold dbl;simp
  rw[k4];have k5:([s[i]].any oddB)=oddB s[i]:=by simp
  rw[k5,←Bool.or_assoc];generalize((s==[])||(s.take i).any oddB)=od;unfold oddB;by_cases h39:s[i]=39
  .rw[h39];simp only[beq_self_eq_true,qBs,cond_true,if_true];rw[bI_ (by simp only[qLa,qLc,List.length_nil];omega)];cases od<;>simp
  .rw[show(s[i]==39)=false from beq_eq_false_iff_ne.2 h39];cases od<;>cases(s[i]==32)<;>cases(s[i]==9)<;>rfl) (by
  unfold c9_;simp only[];rw[bx_];rfl)
 have hl':ah_ (c9_ s) BIG ([],(s==[]),0)=some (dbl s,((s==[])||s.any oddB)):=by
  have h0:(s==[]||(s.take 0).any oddB)=(s==[]):=by simp
  simp only[List.take_length]at hl;rw[h0]at hl;exact hl
 refine aI_ hl' ?_;have hdl:=hc_ s;unfold dd_;have hu:=until_all [32,9,39] s;have ho:(s.any λb=>([32,9,39]:Str).contains b)=s.any oddB:=by congr 1;funext b;exact odd_in b
 rw[ho]at hu;by_cases h0:s=[]
 .subst h0;rfl
 .rw[show(s==[])=false from beq_eq_false_iff_ne.2 h0];cases hc:s.any oddB with
  | false =>
   rw[if_pos ⟨h0,hu.2 hc⟩];rfl
  | true =>
   rw[if_neg λh=>by rw[hu.1 h.2]at hc;cases hc];simp only[Bool.or_true,cond_true];rw[bI_ (by simp only[qLc,List.length_nil];omega)];simp only[qBs];rw[bI_ (by simp only[qLa,qLc,List.length_nil];omega)];simp
def bq_(sep:Str):List Str->Str | []=>[] | [x]=>x|x::y::l=>x++(sep++bq_ sep (y::l))
theorem kp_(sep x:Str):∀(l:List Str),l≠[]->bq_ sep (l++[x])=bq_ sep l++(sep++x)
 | [],h=>absurd rfl h
 | [y],_=>rfl
 | y::z::l,_=>by
  have ih:=kp_ sep x (z::l) (by simp);simp only[List.cons_append,bq_]at ih ⊢;rw[ih];simp[List.append_assoc]
theorem jo_(sep:Str):∀(l:List Str),(bq_ sep l).length=l.flatten.length+sep.length*(l.length-1)
 | []=>rfl
 | [x]=>by simp[bq_]
 | x::y::l=>by
  have ih:=jo_ sep (y::l);simp only[bq_,qLa,List.flatten_cons,qLc]at ih ⊢;rw[ih];have:sep.length*(l.length+1+1-1)=sep.length+sep.length*(l.length+1-1):=by
   rw[show l.length+1+1-1=(l.length+1-1)+1 by omega,Nat.mul_succ];omega
  rw[this];omega
theorem kq_{l:List Str}{i:Nat}(h:i<l.length):(l.take (i+1)).flatten.length=(l.take i).flatten.length+l[i].length:=by
 rw[di_ h,List.flatten_append,qLa];simp
theorem dV_(l:List Str)(i:Nat):(l.take i).flatten.length<=l.flatten.length:=by
 have h:(l.take i++l.drop i).flatten.length=l.flatten.length:=by rw[List.take_append_drop]
 rw[List.flatten_append,qLa]at h;omega
theorem Join_eq{xs:List Str}{sep:Str}(hsep:0<sep.length)(hb:(bq_ sep xs).length<=1000000000)(hn:xs.length<=1000000)(hsb:sep.length<=1000):strings_Join xs sep=some (bq_ sep xs):=by
 have hjl:=jo_ sep xs;unfold strings_Join;rcases Nat.lt_or_ge xs.length 2 with h2|h2
 .match xs,h2 with
  | [],_=>rfl
  | [x],_=>rfl
 .rw[show((xs.length:Int)==0)=false from beq_eq_false_iff_ne.2 (by omega),cond_false,show((xs.length:Int)==1)=false from beq_eq_false_iff_ne.2 (by omega),cond_false,decide_eq_true (show(sep.length:Int)>0 by omega),cond_true];rw[aw_ (n:=(xs.length:Int)-1) ⟨by omega,by omega⟩];have hq:(9223372036854775807:Int).tdiv ((xs.length:Int)-1)>=1000000000000:=by
   rw[Int.tdiv_eq_ediv_of_nonneg (by omega)];exact Int.le_ediv_of_mul_le (by omega) (by omega)
  have hq2:(9223372036854775807:Int).tdiv ((xs.length:Int)-1)<=9223372036854775807:=by
   rw[Int.tdiv_eq_ediv_of_nonneg (by omega)];exact Int.ediv_le_self _ (by omega)
  have eq:quoI .i64 9223372036854775807 ((xs.length:Int)-1)=some ((9223372036854775807:Int).tdiv ((xs.length:Int)-1)):=by
   unfold quoI;rw[if_neg (by omega),wi64_eq ⟨by omega,by omega⟩]
  rw[eq];simp only[qBs];rw[decide_eq_false (show ¬(sep.length:Int)>=(9223372036854775807:Int).tdiv ((xs.length:Int)-1)by omega),cond_false];simp only[qBs];have hm:(sep.length:Int)*((xs.length:Int)-1)=((sep.length*(xs.length-1):Nat):Int):=by
   rw[Int.natCast_mul];congr 1;omega
  have ebase:w64 (0+w64 ((sep.length:Int)*((xs.length:Int)-1)))=((sep.length*(xs.length-1):Nat):Int):=by
   rw[hm,aw_ (n:=((sep.length*(xs.length-1):Nat):Int)) ⟨by omega,by omega⟩,Int.zero_add,aw_ ⟨by omega,by omega⟩]
  rw[ebase];have hl1:=fa_ (body:=cN_ xs) (λi=>(((sep.length*(xs.length-1)+(xs.take i).flatten.length:Nat):Int),(i:Int))) xs.length (aR_ (by omega)) (λi hi=>by
   have f1:=kq_ hi;have f2:=dV_ xs i;have f3:=dV_ xs (i+1);unfold cN_;simp only[];rw[ba_ hi,cond_true,bX_ hi];simp only[qBs];rw[aw_ (n:=9223372036854775807-_) ⟨by omega,by omega⟩,decide_eq_false (by omega),cond_false];simp only[qBs];rw[aw_ (n:=_+(xs[i].length:Int)) ⟨by omega,by omega⟩,aq_ (by omega),f1]
   congr 4
   omega) (by
   unfold cN_;simp only[];rw[bx_];rfl)
  have hl1':ah_ (cN_ xs) BIG (((sep.length*(xs.length-1):Nat):Int),0)=some (((sep.length*(xs.length-1)+xs.flatten.length:Nat):Int)):=by
   simp only[List.take_length]at hl1;exact hl1
  rw[hl1'];simp only[qBs];have eg:growB ([]:List Int) ((sep.length*(xs.length-1)+xs.flatten.length:Nat):Int)=some []:=by
   unfold growB;rw[decide_eq_true (by omega),decide_eq_true (by omega)];rfl
  rw[eg];simp only[qBs];have h0:ai_ xs 0=some xs[0]:=bX_ (xs:=xs) (i:=0) (by omega);have hle0:xs[0].length<=xs.flatten.length:=by
   have:=kq_ (l:=xs) (i:=0) (by omega);have:=dV_ xs (0+1);omega
  rw[h0];simp only[qBs];rw[cv_ (by rw[aF_];simp only[List.length_nil];omega) (by rw[aF_];simp only[List.length_nil];omega)];simp only[qBs,List.nil_append];rw[aV_ (by omega) (by omega) (Int.le_refl _)];simp only[qBs,qTn,List.take_length];have hdl:(xs.drop (1:Int).toNat).length=xs.length-1:=by rw[List.length_drop];rfl
  have hl2:=fa_ (body:=cO_ (xs.drop (1:Int).toNat) sep) (λi=>((i:Int),aS_ (bq_ sep (xs.take (i+1))))) (xs.length-1) (aR_ (by omega)) (λi hi=>by
   have hi1:i+1<xs.length:=by omega
   have hlt:i<(xs.drop (1:Int).toNat).length:=by omega
   have f1:=kq_ hi1;have f2:=dV_ xs (i+1);have f3:=dV_ xs (i+1+1);have j1:=jo_ sep (xs.take (i+1));have hne:xs.take (i+1)≠[]:=λe=>by
    have:=congrArg List.length e;rw[List.length_take,List.length_nil]at this;omega
   have js:=kp_ sep xs[i+1] (xs.take (i+1)) hne;rw[←di_ hi1]at js;have hml:sep.length*((xs.take (i+1)).length-1)<=sep.length*(xs.length-1):=Nat.mul_le_mul_left _ (by rw[List.length_take];omega);unfold cO_;simp only[];rw[ba_ hlt,cond_true,bX_ hlt];simp only[qBs];rw[cv_ (by rw[aF_,aF_];omega) (by rw[aF_,aF_];omega)];simp only[qBs];have e5:(xs.drop (1:Int).toNat)[i]=xs[i+1]:=by
    rw[List.getElem_drop]
    congr 1
    show 1+i=i+1;omega
   rw[e5,cv_ (by rw[qLa,aF_,aF_,aF_];omega) (by rw[qLa,aF_,aF_,aF_];omega)];simp only[qBs];rw[aq_ (by omega),js,hx_,hx_,List.append_assoc]) (by
   unfold cO_;simp only[];rw[hdl,bx_];rfl)
  have hl2':ah_ (cO_ (xs.drop (1:Int).toNat) sep) BIG (0,aS_ xs[0])=some (aS_ (bq_ sep (xs.take (xs.length-1+1)))):=by
   have e6:bq_ sep (xs.take (0+1))=xs[0]:=by
    rw[di_ (show 0<xs.length by omega)];rfl
   simp only[e6]at hl2;exact hl2
  rw[hl2'];simp only[qBs];rw[ib_,show xs.length-1+1=xs.length by omega,List.take_length]
def bg_(a:Xz):Str:=if a.Xb then a.Xh++[63]else a.Xh++(61::dd_ a.Xv)
def bm_(l:List Xz):Str:=bq_ [32] (l.map bg_)
theorem jp_(s:Str):(dd_ s).length<=2*s.length+2:=by
 unfold dd_;have:=hc_ s;split
 .omega
 .simp only[qLc,qLa,List.length_nil];omega
theorem dA_{l:List Xz}{a:Xz}(h:bJ_ l a=0):l.length<32/\cB_ a.Xh=true/\(a.Xb=true->a.Xv=[])/\ad_ [0,10,13] a.Xv=a.Xv.length/\a.Xv.length<=1024/\(l.any λb=>b.Xh==a.Xh)=false:=by
 unfold bJ_ at h;split at h
 .cases h
 .rename_i h1;split at h
  .cases h
  .rename_i h2;split at h
   .cases h
   .rename_i h3;split at h
    .cases h
    .rename_i h4;split at h
     .cases h
     .rename_i h5;split at h
      .cases h
      .rename_i h6;have:=dh_ [0,10,13] a.Xv;refine⟨by omega,by simpa using h2,λhq => ?_,by omega,by omega,by simpa using h6⟩;rw[hq]at h3;simpa using h3
theorem checkAll_zero{l:List Xz}:aU_ l=0↔∀i (h:i<l.length),bJ_ (l.take i) l[i]=0:=by
 unfold aU_;constructor
 .intro h i hi;cases hs:bl_ (ew_ l) 0 l with
  | none =>
   have:=scan_none.1 hs i l[i] (List.getElem?_eq_getElem hi);rw[Nat.zero_add]at this;unfold ew_ at this;split at this
   .rename_i h0;exact h0
   .cases this
  | some r =>
   rw[hs]at h;obtain⟨j,x,h1,h2,_⟩:=hR_ hs;unfold ew_ at h2;split at h2
   .cases h2
   .rename_i h0;have e:=qSj h2;rw[Option.getD_some]at h;omega
 .intro h;have:bl_ (ew_ l) 0 l=none:=scan_none.2 λi x hx=>by
   obtain⟨hi,rfl⟩:=List.getElem?_eq_some_iff.1 hx;unfold ew_;rw[Nat.zero_add,if_pos (h i hi)]
  rw[this];rfl
theorem kr_{s:Str}(h:cB_ s=true):s.length<=33:=by
 unfold cB_ at h;simp only[qAn,qDe]at h;have h2:=h.2.1;unfold trimB at h2;split at h2
 .rw[List.length_drop]at h2;omega
 .omega
structure AttrOK(l:List Xz):Prop where
 len:l.length<=32
 nm:∀a∈l,cB_ a.Xh=true
 qv:∀a∈l,a.Xb=true->a.Xv=[]
 pl:∀a∈l,ad_ [0,10,13] a.Xv=a.Xv.length
 vl:∀a∈l,a.Xv.length<=1024
theorem dW_{l:List Xz}(h:aU_ l=0):AttrOK l:=by
 rw[checkAll_zero]at h;have key:∀a∈l,∃m,bJ_ m a=0:=λa ha=>by
  obtain⟨i,hi,rfl⟩:=List.getElem_of_mem ha;exact⟨_,h i hi⟩
 refine⟨?_,λa ha => ?_,λa ha => ?_,λa ha => ?_,λa ha => ?_⟩
 .rcases Nat.lt_or_ge 32 l.length with h1|h1
  .have:=(dA_ (h 32 h1)).1;rw[List.length_take]at this;omega
  .exact h1
 .obtain⟨m,hm⟩:=key a ha;exact(dA_ hm).2.1
 .obtain⟨m,hm⟩:=key a ha;exact(dA_ hm).2.2.1
 .obtain⟨m,hm⟩:=key a ha;exact(dA_ hm).2.2.2.1
 .obtain⟨m,hm⟩:=key a ha;exact(dA_ hm).2.2.2.2.1
theorem wordA_len{a:Xz}(h1:cB_ a.Xh=true)(h2:a.Xv.length<=1024):(bg_ a).length<=2100:=by
 have h3:=kr_ h1;have h4:=jp_ a.Xv;unfold bg_;split
 .simp only[qLa,qLc,List.length_nil];omega
 .simp only[qLa,qLc];omega
theorem ks_:∀{l:List Xz},(∀a∈l,(bg_ a).length<=2100)->(bq_ [32] (l.map bg_)).length<=2101*l.length
 | [],_=>by simp[bq_]
 | [a],h=>by
  have:=h a (by simp);simp only[List.map_cons,List.map_nil,bq_,qLc,List.length_nil];omega
 | a::b::l,h=>by
  have h1:=h a (by simp);have ih:=ks_ (l:=b::l) λx hx=>h x (List.mem_cons_of_mem _ hx)
  simp only[List.map_cons,bq_,qLa,qLc,List.length_nil]at ih ⊢;omega
theorem AttrOK.word{l:List Xz}(h:AttrOK l):∀a∈l,(bg_ a).length<=2100:=λa ha=>wordA_len (h.nm a ha) (h.vl a ha)
theorem AttrOK.take{l:List Xz}(h:AttrOK l)(i:Nat):AttrOK (l.take i):=by
 have hm:∀a∈l.take i,a∈l:=λa ha=>List.mem_of_mem_take ha
 exact⟨by rw[List.length_take];have:=h.len;omega,λa ha=>h.nm a (hm a ha),λa ha=>h.qv a (hm a ha),λa ha=>h.pl a (hm a ha),λa ha=>h.vl a (hm a ha)⟩
theorem g7_{l:List Xz}(h:AttrOK l):(bm_ l).length<=67232:=by
 have h1:=ks_ h.word;have h2:=h.len;unfold bm_;omega
theorem attrPrint_eq{l:List Xz}(h:AttrL l):g0_ l=some (if aU_ l=0 then(bm_ l,0)else([],aU_ l)):=by
 unfold g0_;rw[km_ h];simp only[qBs];by_cases h0:aU_ l=0
 .have hk:=dW_ h0;have hlen:=hk.len;rw[if_pos h0,h0];simp only[bne_self_eq_false,cond_false];rw[makeI_eq (by omega) (by omega) (by omega)];simp only[qBs];have hl:=fa_ (body:=dt_ l) (λi=>((i:Int),(l.take i).map bg_)) l.length (aR_ (by omega)) (λi hi=>by
   have hm:=List.getElem_mem hi;have hnl:=kr_ (hk.nm _ hm);have hvl:=hk.vl _ hm;have hql:=jp_ l[i].Xv;unfold dt_;simp only[];rw[ba_ hi,cond_true,bX_ hi];simp only[qBs];rw[di_ hi,List.map_append,List.map_cons,List.map_nil];have hwd:bg_ l[i]=if l[i].Xb then l[i].Xh++[63]else l[i].Xh++(61::dd_ l[i].Xv):=rfl
   rw[hwd];cases l[i].Xb with
   | true =>
    rw[cond_true,bI_ (by simp only[qLc,List.length_nil];omega)];simp only[qBs];rw[cv_ (by rw[List.length_map,List.length_take];simp only[qLc,List.length_nil];omega) (by rw[List.length_map,List.length_take];simp only[qLc,List.length_nil];omega),aq_ (by omega)];rfl
   | false =>
    rw[cond_false,bI_ (by simp only[qLc,List.length_nil];omega)];simp only[qBs];rw[quote_eq (by omega)];simp only[qBs];rw[bI_ (by simp only[qLa,qLc,List.length_nil];omega)];simp only[qBs];rw[cv_ (by rw[List.length_map,List.length_take];simp only[qLc,List.length_nil];omega) (by rw[List.length_map,List.length_take];simp only[qLc,List.length_nil];omega),aq_ (by omega)];simp) (by
   unfold dt_;simp only[];rw[bx_];rfl)
  have hl':ah_ (dt_ l) BIG (0,[])=some (l.map bg_):=by
   simp only[List.take_length]at hl;exact hl
  rw[hl'];simp only[qBs];have hpl:=g7_ hk;rw[Join_eq (by simp) (by unfold bm_ at hpl;omega) (by rw[List.length_map];omega) (by simp)];rfl
 .rw[if_neg h0,show(aU_ l != 0)=true from bne_iff_ne.2 h0];rfl
theorem refPrint_eq{l:List Xz}(h:AttrL l):gg_ l=some (if aU_ l=0 then(bm_ l,0)else([],aU_ l)):=by
 unfold gg_;rw[kX_ h];simp only[qBs];by_cases h0:aU_ l=0
 .have hk:=dW_ h0;have hlen:=hk.len;rw[if_pos h0,h0];simp only[bne_self_eq_false,cond_false];have hl:=fa_ (body:=da_ l) (λi=>(bq_ [32] ((l.take i).map bg_),(i:Int))) l.length (aR_ (by omega)) (λi hi=>by
   have hm:=List.getElem_mem hi;have hnl:=kr_ (hk.nm _ hm);have hvl:=hk.vl _ hm;have hql:=jp_ l[i].Xv;have hj:=ks_ (l:=l.take i) (hk.take i).word;rw[List.length_take]at hj;have hsep:∃o3,(bif decide ((i:Int)>0)then(cat (bq_ [32] ((l.take i).map bg_)) [32]).bind λy13=>some y13 else some (bq_ [32] ((l.take i).map bg_)))=some o3/\o3.length<=70000/\∀w,bq_ [32] ((l.take i).map bg_++[w])=o3++w:=by
    cases i with
    | zero=>exact⟨[],rfl,by simp,λw=>rfl⟩
    | succ i =>
     rw[decide_eq_true (show((i+1:Nat):Int)>0 by omega),cond_true,bI_ (by simp only[qLc,List.length_nil];omega)];refine⟨_,rfl,by simp only[qLa,qLc,List.length_nil];omega,λw => ?_⟩;rw[kp_ _ _ _ (λe=>by
      have:=congrArg List.length e;rw[List.length_map,List.length_take,List.length_nil]at this;omega),List.append_assoc]
   obtain⟨o3,ho,hol,hw⟩:=hsep;unfold da_;simp only[];rw[ba_ hi,cond_true,bX_ hi,ho];simp only[qBs];rw[di_ hi,List.map_append,List.map_cons,List.map_nil,hw];unfold bg_;cases l[i].Xb with
   | true =>
    rw[cond_true,bI_ (by omega)];simp only[qBs];rw[bI_ (by simp only[qLa,qLc,List.length_nil];omega),aq_ (by omega)];simp
   | false =>
    rw[cond_false,bI_ (by omega)];simp only[qBs];rw[bI_ (by simp only[qLa,qLc,List.length_nil];omega)];simp only[qBs];rw[refQuote_eq (by omega)];simp only[qBs];rw[bI_ (by simp only[qLa,qLc,List.length_nil];omega),aq_ (by omega)];simp) (by
   unfold da_;simp only[];rw[bx_];rfl)
  have hl':ah_ (da_ l) BIG ([],0)=some (bq_ [32] (l.map bg_)):=by
   simp only[List.take_length]at hl;exact hl
  rw[hl'];rfl
 .rw[if_neg h0,show(aU_ l != 0)=true from bne_iff_ne.2 h0];rfl
def az_:Str->Option (Str×Nat)
 | []=>none
 | b::t=>if b=39 then(match t with
   | []=>some ([],1)
   | c::t'=>if c=39 then(az_ t').map λp=>(39::p.1,p.2+2)else some ([],1))
  else(az_ t).map λp=>(b::p.1,p.2+1)
theorem ex_:∀(n:Nat) {s:Str} {p:Str×Nat},s.length<=n->az_ s=some p->p.2<=s.length/\p.1.length<=s.length/\1<=p.2
 | n,[],p,_,h=>by simp[az_]at h
 | n + 1,b::t,p,hn,h=>by
  have hn':t.length<=n:=by simpa using hn
  unfold az_ at h;split at h
  .split at h
   .obtain rfl:=qSj h;simp
   .rename_i c t';split at h
    .cases hq:az_ t' with
     | none=>rw[hq]at h;cases h
     | some q =>
      rw[hq]at h;obtain rfl:=qSj h;have:=ex_ n (s:=t') (by simp at hn';omega) hq;simp only[qLc];omega
    .obtain rfl:=qSj h;simp
  .cases hq:az_ t with
   | none=>rw[hq]at h;cases h
   | some q =>
    rw[hq]at h;obtain rfl:=qSj h;have:=ex_ n hn' hq;simp only[qLc];omega
theorem fb_{s t:Str}{i:Nat}{b:UInt8}(h:s.drop i=b::t):i<s.length/\an_ s (i:Int)=some (b.toNat:Int)/\s.drop (i+1)=t:=by
 have hi:i<s.length:=by
  rcases Nat.lt_or_ge i s.length with h1|h1
  .exact h1
  .rw[List.drop_eq_nil_of_le h1]at h;cases h
 rw[List.drop_eq_getElem_cons hi]at h;injection h with h1 h2;exact⟨hi,by rw[aL_ hi,h1],h2⟩
theorem drop_nil{s:Str}{i:Nat}(hi:i<=s.length)(h:s.drop i=[]):i=s.length:=by
 have:=congrArg List.length h;rw[List.length_drop,List.length_nil]at this;omega
theorem quoted_go {s:Str} (hs:s.length<=1000000000):∀(k:Nat) (rest:Str) (i:Nat) (buf:List Int) (f:Nat),rest.length<=k->k<f->i<=s.length->s.drop i=rest->buf.length<=i ->
  ah_ (bA_ s) f ((i:Int),buf)=some (match az_ rest with
   | some p => .ret (bytesS (buf++aS_ p.1),((i+p.2:Nat):Int),true)
   | none => .fall ()):=by
 intro k
 induction k with
 | zero =>
  intro rest i buf f hk hf hi hd hb;obtain rfl:rest=[]:=List.length_eq_zero_iff.1 (by omega);obtain⟨f,rfl⟩:∃g,f=g+1:=⟨f-1,by omega⟩;obtain rfl:=drop_nil hi hd;refine ao_ ?_;unfold bA_;simp only[];rw[bx_];rfl
 | succ k ih =>
  intro rest i buf f hk hf hi hd hb;obtain⟨f,rfl⟩:∃g,f=g+1:=⟨f-1,by omega⟩;cases rest with
  | nil =>
   obtain rfl:=drop_nil hi hd;refine ao_ ?_;unfold bA_;simp only[];rw[bx_];rfl
  | cons b t =>
   obtain⟨hlt,hby,hd1⟩:=fb_ hd;have hk':t.length<=k:=by simpa using hk
   have hc:((b.toNat:Int)==39)=(b==39):=bT_ b 39;by_cases hb39:b=39
   .
    have e39:((b.toNat:Int) != 39)=false:=by rw[bne,hc,hb39];rfl
    cases t with
    | nil =>
     have he:i+1=s.length:=drop_nil (by omega) hd1;refine ao_ ?_;unfold bA_;simp only[];rw[ba_ hlt,cond_true,hby];simp only[qBs,e39,cond_false];rw[aq_ (by omega),show(((i+1:Nat):Int)==(s.length:Int))=true by rw[he];simp];simp only[cond_true,qBs];unfold az_;rw[if_pos hb39];simp[aS_]
    | cons c t' =>
     obtain⟨hlt1,hby1,hd2⟩:=fb_ hd1;have hc1:((c.toNat:Int)==39)=(c==39):=bT_ c 39;have hne:(((i+1:Nat):Int)==(s.length:Int))=false:=beq_eq_false_iff_ne.2 (by omega);by_cases hc39:c=39
     .have e2:((c.toNat:Int) != 39)=false:=by rw[bne,hc1,hc39];rfl
      refine bc_ (s':=(((i+2:Nat):Int),buf++[39])) ?_ ?_
      .unfold bA_;simp only[];rw[ba_ hlt,cond_true,hby];simp only[qBs,e39,cond_false];rw[aq_ (by omega),hne];simp only[cond_false,hby1,qBs,e2];rw[cv_ (by simp only[qLc,List.length_nil];omega) (by simp only[qLc,List.length_nil];omega)];simp only[qBs];rw[aq_ (by omega)]
      .have hk2:t'.length<=k:=by simp at hk';omega
       rw[ih t' (i+2) (buf++[39]) f hk2 (by omega) (by omega) hd2 (by simp only[qLa,qLc,List.length_nil];omega)]
       conv=>rhs;unfold az_
       rw[if_pos hb39];simp only[hc39,if_true];cases az_ t' with
       | none=>rfl
       | some p =>
        simp only[Option.map_some]
        congr 2
        simp only[aS_,List.map_cons,List.append_assoc,List.cons_append,List.nil_append]
        congr 2
        omega
     .have e2:((c.toNat:Int) != 39)=true:=by rw[bne,hc1,beq_eq_false_iff_ne.2 hc39];rfl
      refine ao_ ?_;unfold bA_;simp only[];rw[ba_ hlt,cond_true,hby];simp only[qBs,e39,cond_false];rw[aq_ (by omega),hne];simp only[cond_false,hby1,qBs,e2,cond_true];unfold az_;rw[if_pos hb39];simp only[hc39,if_false];simp[aS_]
   .have e39:((b.toNat:Int) != 39)=true:=by rw[bne,hc,beq_eq_false_iff_ne.2 hb39];rfl
    refine bc_ (s':=(((i+1:Nat):Int),buf++[(b.toNat:Int)])) ?_ ?_
    .unfold bA_;simp only[];rw[ba_ hlt,cond_true,hby];simp only[qBs,e39,cond_true];rw[cv_ (by simp only[qLc,List.length_nil];omega) (by simp only[qLc,List.length_nil];omega)];simp only[qBs];rw[aq_ (by omega)]
    .rw[ih t (i+1) (buf++[(b.toNat:Int)]) f hk' (by omega) (by omega) hd1 (by simp only[qLa,qLc,List.length_nil];omega)]
     conv=>rhs;unfold az_
     rw[if_neg hb39];cases az_ t with
     | none=>rfl
     | some p =>
      simp only[Option.map_some]
      congr 2
      simp only[aS_,List.map_cons,List.append_assoc,List.cons_append,List.nil_append]
      congr 2
      omega
theorem quoted_eq{s:Str}(hs:s.length<=1000000000):es_ s=some (match az_ s with
  | some p=>(p.1,(p.2:Int),true)
  | none=>([],0,false)):=by
 unfold es_;have h:=quoted_go hs s.length s 0 [] BIG (Nat.le_refl _) (aR_ (by omega)) (Nat.zero_le _) rfl (Nat.le_refl _);refine aI_ h ?_;cases az_ s with
 | none=>rfl
 | some p =>
  simp only[List.nil_append,Nat.zero_add];rw[ib_]
def bn_(b:UInt8):Bool:=(b==32)||(b==9)
def aP_(t:Str)(i:Nat):Bool:=match t[i]? with|none=>true|some b=>bn_ b
def zeroA:Xz:=Xz.mk [] [] false
def aY_(t:Str):Int×Xz×Nat :=
 if(t.drop (ad_ [32,9,61,63,39] t)).take 1==[63]then
  if aP_ t (ad_ [32,9,61,63,39] t+1)then(0,Xz.mk (t.take (ad_ [32,9,61,63,39] t)) [] true,ad_ [32,9,61,63,39] t+1)else(2,zeroA,0)
 else if(t.drop (ad_ [32,9,61,63,39] t)).take 2==[61,39]then
  match az_ (t.drop (ad_ [32,9,61,63,39] t+2))with
  | none=>(48,zeroA,0)
  | some p=>if aP_ t (ad_ [32,9,61,63,39] t+(2+p.2))then(0,Xz.mk (t.take (ad_ [32,9,61,63,39] t)) p.1 false,ad_ [32,9,61,63,39] t+(2+p.2))else(2,zeroA,0)
 else if(t.drop (ad_ [32,9,61,63,39] t)).take 1==[61]then
  if(((t.drop (ad_ [32,9,61,63,39] t)).take (ad_ [32,9] (t.drop (ad_ [32,9,61,63,39] t)))).drop 1).contains 39 then(2,zeroA,0)
  else(0,Xz.mk (t.take (ad_ [32,9,61,63,39] t)) (((t.drop (ad_ [32,9,61,63,39] t)).take (ad_ [32,9] (t.drop (ad_ [32,9,61,63,39] t)))).drop 1) false,ad_ [32,9,61,63,39] t+ad_ [32,9] (t.drop (ad_ [32,9,61,63,39] t)))
 else(2,zeroA,0)
theorem until_at{p s:Str}{b:UInt8}(h:s[ad_ p s]? = some b):p.contains b=true:=by
 induction s with
 | nil=>simp at h
 | cons c t ih =>
  unfold ad_ at h ih;rw[List.takeWhile_cons]at h;cases hc:p.contains c with
  | true =>
   rw[hc]at h;simp at h;rw[←h];exact hc
  | false =>
   rw[hc]at h;simp only[Bool.not_false,if_true,qLc,List.getElem?_cons_succ]at h;exact ih h
theorem gx_(b:UInt8):d9_ (b.toNat:Int)=some (bn_ b):=by
 unfold d9_ bn_;have k1:((b.toNat:Int)==32)=(b==32):=bT_ b 32;have k2:((b.toNat:Int)==9)=(b==9):=bT_ b 9;rw[k1,k2]
theorem tail_eq{t:Str}{i:Nat}(_:i<=t.length):(Option.bind (bif(decide ((i:Int)<(t.length:Int)))then
   (an_ t (i:Int)).bind λy12 =>
   (d9_ y12).bind λy13 =>
   some (!y13)
    else some false) λ(y14:Bool)=>some y14)=some (!(aP_ t i)):=by
 unfold aP_;rcases Nat.lt_or_ge i t.length with h|h
 .rw[ba_ h,cond_true,aL_ h,List.getElem?_eq_getElem h];simp only[qBs];rw[gx_];rfl
 .rw[decide_eq_false (by omega),List.getElem?_eq_none h];rfl
theorem fZ_{β:Type}{o:Option Bool}{f:Bool->Option β}{r:Bool}(h:(Option.bind o λy=>some y)=some r):Option.bind o f=f r:=by
 cases o with
 | none=>cases h
 | some x=>simp only[qBs]at h ⊢;rw[qSj h]
theorem one_eq{t:Str}(ht:t.length<=1000000000):jf_ t=some ((aY_ t).2.1,((aY_ t).2.2:Int),(aY_ t).1):=by
 have hn:=dh_ [32,9,61,63,39] t;unfold jf_ aY_;rw[jm_ (by omega)];generalize hu:ad_ [32,9,61,63,39] t=n at hn;simp only[qBs];rw[aV_ (Int.le_refl 0) (by omega) (by omega),aV_ (by omega) (by omega) (Int.le_refl _)];simp only[qBs,qTn,Int.toNat_zero,List.drop_zero,List.take_length];unfold strings_HasPrefix;rw[hasPre,hasPre,hasPre];simp only[qBs,qLc,List.length_nil,Nat.zero_add,Nat.reduceAdd];have hdl:(t.drop n).length=t.length-n:=List.length_drop;cases c1:(t.drop n).take 1==[63]with
 | true =>
  have hlt:n<t.length:=by
   rcases Nat.lt_or_ge n t.length with h|h
   .exact h
   .rw[List.drop_eq_nil_of_le h]at c1;cases c1
  simp only[cond_true,qBs,if_true];rw[aq_ (by omega)];refine(fZ_ (tail_eq (by omega))).trans ?_;cases aP_ t (n+1)<;>rfl
 | false =>
  simp only[cond_false,Bool.false_eq_true,if_false];cases c2:(t.drop n).take 2==[61,39]with
  | true =>
   have hlt:n+2<=t.length:=by
    rw[hb_]at c2;have:=congrArg List.length (of_decide_eq_true c2);rw[List.length_take,hdl]at this;simp only[qLc,List.length_nil]at this;omega
   simp only[cond_true,if_true];rw[aV_ (by omega) (by omega) (Int.le_refl _)];simp only[qBs,qTn,List.take_length];have e2:(t.drop n).drop (2:Int).toNat=t.drop (n+2):=by rw[List.drop_drop];rfl
   rw[e2,quoted_eq (by rw[List.length_drop];omega)];cases hq:az_ (t.drop (n+2))with
   | none=>rfl
   | some p =>
    have hp:=ex_ (t.drop (n+2)).length (Nat.le_refl _) hq;rw[List.length_drop]at hp;simp only[qBs,Bool.not_true,cond_false];rw[aw_ (n:=2+(p.2:Int)) ⟨by omega,by omega⟩,aw_ ⟨by omega,by omega⟩,show(n:Int)+(2+(p.2:Int))=((n+(2+p.2):Nat):Int)by omega];refine(fZ_ (tail_eq (by omega))).trans ?_;cases aP_ t (n+(2+p.2))<;>rfl
  | false =>
   simp only[cond_false,Bool.false_eq_true,if_false];cases c3:(t.drop n).take 1==[61]with
   | false=>rfl
   | true =>
    have hlt:n<t.length:=by
     rcases Nat.lt_or_ge n t.length with h|h
     .exact h
     .rw[List.drop_eq_nil_of_le h]at c3;cases c3
    simp only[cond_true,if_true];rw[jm_ (by rw[hdl];omega)];have hk:=dh_ [32,9] (t.drop n);have hk1:1<=ad_ [32,9] (t.drop n):=by
     cases hr:t.drop n with
     | nil=>rw[hr]at hdl;simp at hdl;omega
     | cons b r =>
      rw[hr]at c3;have hb:b=61:=by
       rw[List.take_succ_cons,List.take_zero,hb_]at c3;have:=of_decide_eq_true c3;injection this
      unfold ad_;rw[List.takeWhile_cons,hb];simp
    simp only[qBs];rw[aV_ (by omega) (by omega) (by omega)];simp only[qBs,qTn];rw[kW_];simp only[qBs];have e1:(1:Int).toNat=1:=rfl;rw[e1];cases hc:(((t.drop n).take (ad_ [32,9] (t.drop n))).drop 1).contains 39 with
    | true=>rfl
    | false =>
     simp only[cond_false,qBs,Bool.false_eq_true,if_false];rw[hdl]at hk;rw[aw_ ⟨by omega,by omega⟩,show(n:Int)+((ad_ [32,9] (t.drop n):Nat):Int)=((n+ad_ [32,9] (t.drop n):Nat):Int)by omega];refine(fZ_ (tail_eq (by omega))).trans ?_;have hbl:aP_ t (n+ad_ [32,9] (t.drop n))=true:=by
      unfold aP_;cases hg:t[n+ad_ [32,9] (t.drop n)]? with
      | none=>rfl
      | some b =>
       have h4:=until_at (p:=[32,9]) (s:=t.drop n) (b:=b) (by rw[List.getElem?_drop];exact hg);simp only[List.contains_cons,List.contains_nil,Bool.or_false]at h4;exact h4
     rw[hbl];rfl
theorem mr_{s:Str}{p:UInt8->Bool}{body:Int->Option (Step Int Int)}(hb:∀i (h:i<s.length),body (i:Int)=some (if p s[i]then .done (i:Int)else .next ((i+1:Nat):Int)))
  (he:body (s.length:Int)=some (.done (s.length:Int))):∀(k:Nat) (i f:Nat),(s.drop i).length<=k->k<f->i<=s.length->ah_ body f (i:Int)=some ((i+((s.drop i).takeWhile λb => !(p b)).length:Nat):Int):=by
 intro k
 induction k with
 | zero =>
  intro i f hk hf hi;obtain⟨f,rfl⟩:∃g,f=g+1:=⟨f-1,by omega⟩;rw[List.length_drop]at hk;obtain rfl:i=s.length:=by omega
  rw[ao_ he,List.drop_length];rfl
 | succ k ih =>
  intro i f hk hf hi;obtain⟨f,rfl⟩:∃g,f=g+1:=⟨f-1,by omega⟩;rw[List.length_drop]at hk;rcases Nat.lt_or_ge i s.length with h|h
  .rw[List.drop_eq_getElem_cons h,List.takeWhile_cons];by_cases hp:p s[i]=true
   .rw[ao_ ((hb i h).trans (by rw[if_pos hp])),hp];rfl
   .have hp':p s[i]=false:=by simpa using hp
    refine(bc_ ((hb i h).trans (by rw[if_neg hp])) (ih (i+1) f (by rw[List.length_drop];omega) (by omega) (by omega))).trans ?_;rw[hp'];simp only[Bool.not_false,if_true,qLc]
    congr 2
    omega
  .obtain rfl:i=s.length:=by omega
   rw[ao_ he,List.drop_length];rfl
theorem kt_(b:UInt8):ev_ (b.toNat:Int)=some (bn_ b):=gx_ b
theorem f0_{s:Str}{i:Nat}(hi:i<=s.length):ef_ s (i:Int)=some (aP_ s i):=by
 unfold ef_ aP_;rcases Nat.lt_or_ge i s.length with h|h
 .rw[show((i:Int)==(s.length:Int))=false from beq_eq_false_iff_ne.2 (by omega),cond_false,aL_ h,List.getElem?_eq_getElem h];simp only[qBs];rw[kt_];rfl
 .obtain rfl:i=s.length:=by omega
  rw[List.getElem?_eq_none (Nat.le_refl _)];simp
theorem refQuoted_go {s:Str} (hs:s.length<=1000000000):∀(k:Nat) (rest:Str) (i:Nat) (out:Str) (f:Nat),rest.length<=k->k<f->i<=s.length->s.drop i=rest->out.length<=i ->
  ∃e,ah_ (br_ s) f ((i:Int),out)=some (match az_ rest with
   | some p => .ret (out++p.1,((i+p.2:Nat):Int),0)
   | none => .fall e):=by
 intro k
 induction k with
 | zero =>
  intro rest i out f hk hf hi hd hb;obtain rfl:rest=[]:=List.length_eq_zero_iff.1 (by omega);obtain⟨f,rfl⟩:∃g,f=g+1:=⟨f-1,by omega⟩;obtain rfl:=drop_nil hi hd;refine⟨(s.length:Int),ao_ ?_⟩;unfold br_;simp only[];rw[bx_];rfl
 | succ k ih =>
  intro rest i out f hk hf hi hd hb;obtain⟨f,rfl⟩:∃g,f=g+1:=⟨f-1,by omega⟩;cases rest with
  | nil =>
   obtain rfl:=drop_nil hi hd;refine⟨(s.length:Int),ao_ ?_⟩;unfold br_;simp only[];rw[bx_];rfl
  | cons b t =>
   obtain⟨hlt,hby,hd1⟩:=fb_ hd;have hk':t.length<=k:=by simpa using hk
   have hc:((b.toNat:Int)==39)=(b==39):=bT_ b 39;by_cases hb39:b=39
   .have e39:((b.toNat:Int) != 39)=false:=by rw[bne,hc,hb39];rfl
    cases t with
    | nil =>
     have he:i+1=s.length:=drop_nil (by omega) hd1;refine⟨0,ao_ ?_⟩;unfold br_;simp only[];rw[ba_ hlt,cond_true,hby];simp only[qBs,e39,cond_false];rw[aq_ (by omega),show(((i+1:Nat):Int)==(s.length:Int))=true by rw[he];simp];simp only[cond_true,qBs];unfold az_;rw[if_pos hb39];simp
    | cons c t' =>
     obtain⟨hlt1,hby1,hd2⟩:=fb_ hd1;have hc1:((c.toNat:Int)==39)=(c==39):=bT_ c 39;have hne:(((i+1:Nat):Int)==(s.length:Int))=false:=beq_eq_false_iff_ne.2 (by omega);by_cases hc39:c=39
     .have e2:((c.toNat:Int) != 39)=false:=by rw[bne,hc1,hc39];rfl
      have hk2:t'.length<=k:=by simp at hk';omega
      obtain⟨e,hih⟩:=ih t' (i+2) (out++[39]) f hk2 (by omega) (by omega) hd2 (by simp only[qLa,qLc,List.length_nil];omega);refine⟨e,(bc_ (s':=(((i+2:Nat):Int),out++[39])) ?_ hih).trans ?_⟩
      .unfold br_;simp only[];rw[ba_ hlt,cond_true,hby];simp only[qBs,e39,cond_false];rw[aq_ (by omega),hne];simp only[cond_false,hby1,qBs,e2];rw[bI_ (by simp only[qLc,List.length_nil];omega),aw_ (n:=(i:Int)+2) ⟨by omega,by omega⟩];rfl
      .conv=>rhs;unfold az_
       rw[if_pos hb39];simp only[hc39,if_true];cases az_ t' with
       | none=>rfl
       | some p =>
        simp only[Option.map_some,List.append_assoc,List.cons_append,List.nil_append]
        congr 4
        omega
     .have e2:((c.toNat:Int) != 39)=true:=by rw[bne,hc1,beq_eq_false_iff_ne.2 hc39];rfl
      refine⟨0,ao_ ?_⟩;unfold br_;simp only[];rw[ba_ hlt,cond_true,hby];simp only[qBs,e39,cond_false];rw[aq_ (by omega),hne];simp only[cond_false,hby1,qBs,e2,cond_true];unfold az_;rw[if_pos hb39];simp only[hc39,if_false];simp
   .have e39:((b.toNat:Int) != 39)=true:=by rw[bne,hc,beq_eq_false_iff_ne.2 hb39];rfl
    obtain⟨e,hih⟩:=ih t (i+1) (out++[b]) f hk' (by omega) (by omega) hd1 (by simp only[qLa,qLc,List.length_nil];omega);refine⟨e,(bc_ (s':=(((i+1:Nat):Int),out++[b])) ?_ hih).trans ?_⟩
    .have e1:(s.take (i+1)).drop i=[b]:=by
      rw[List.drop_take,hd,show i+1-i=1 by omega];rfl
     unfold br_;simp only[];rw[ba_ hlt,cond_true,hby];simp only[qBs,e39,cond_true];rw[aq_ (by omega),aV_ (by omega) (by omega) (by omega)];simp only[qBs,qTn];rw[e1,bI_ (by simp only[qLc,List.length_nil];omega)];rfl
    .conv=>rhs;unfold az_
     rw[if_neg hb39];cases az_ t with
     | none=>rfl
     | some p =>
      simp only[Option.map_some,List.append_assoc,List.cons_append,List.nil_append]
      congr 4
      omega
theorem refQuoted_eq{s:Str}{i:Nat}(hs:s.length<=1000000000)(hi:i<=s.length):∃v e,fx_ s (i:Int)=some (match az_ (s.drop i)with
  | some p=>(p.1,((i+p.2:Nat):Int),0)
  | none=>(v,e,48)):=by
 obtain⟨e,h⟩:=refQuoted_go hs (s.drop i).length (s.drop i) i [] BIG (Nat.le_refl _) (aR_ (by rw[List.length_drop];omega)) hi rfl (Nat.zero_le _);refine⟨[],e,?_⟩;unfold fx_;refine aI_ h ?_;cases az_ (s.drop i)<;>rfl
theorem lp_{t:Str}{c:UInt8}:(t.take 1==[c])=(match t with | []=>false|b::_=>b==c):=by
 cases t with
 | nil=>rfl
 | cons b r =>
  rw[List.take_succ_cons,List.take_zero];rw[Bool.eq_iff_iff,beq_iff_eq,beq_iff_eq];exact⟨λe=>by injection e,λe=>by rw[e]⟩
theorem loopL1{s:Str}(hs:s.length<=1000000000){i:Nat}(hi:i<=s.length):ah_ (du_ s) BIG (i:Int)=some ((i+ad_ [32,9,61,63,39] (s.drop i):Nat):Int):=by
 have h:=mr_ (s:=s) (p:=λb=>([32,9,61,63,39]:Str).contains b) (body:=du_ s) (λi hi=>by
  unfold du_;rw[ba_ hi,cond_true,aL_ hi];simp only[qBs];rw[kt_];have k1:((s[i].toNat:Int)==61)=(s[i]==61):=bT_ s[i] 61;have k2:((s[i].toNat:Int)==63)=(s[i]==63):=bT_ s[i] 63;have k3:((s[i].toNat:Int)==39)=(s[i]==39):=bT_ s[i] 39;have hc:([32,9,61,63,39]:Str).contains s[i]=(bn_ s[i]||((s[i]==61)||((s[i]==63)||(s[i]==39)))):=by
   unfold bn_;simp only[List.contains_cons,List.contains_nil,Bool.or_false,Bool.or_assoc]
  simp only[hc,qBs,bne,k1,k2,k3];rw[aq_ (by omega)];cases bn_ s[i]<;>cases(s[i]==61)<;>cases(s[i]==63)<;>cases(s[i]==39)<;>rfl) (by
  unfold du_;rw[bx_];rfl) (s.drop i).length i BIG (Nat.le_refl _) (aR_ (by rw[List.length_drop];omega)) hi
 rw[h];rfl
theorem loopL2{s nm:Str}(hs:s.length<=1000000000):∀(k:Nat) (i f:Nat),(s.drop i).length<=k->k<f->i<=s.length ->
  ∃e,ah_ (cg_ s nm) f (i:Int)=some (if((s.drop i).take (ad_ [32,9] (s.drop i))).contains 39 then .ret (Xz.mk nm [] false,e,2)else .fall ((i+ad_ [32,9] (s.drop i):Nat):Int)):=by
 intro k
 induction k with
 | zero =>
  intro i f hk hf hi;obtain⟨f,rfl⟩:∃g,f=g+1:=⟨f-1,by omega⟩;rw[List.length_drop]at hk;obtain rfl:i=s.length:=by omega
  refine⟨0,ao_ ?_⟩;unfold cg_;rw[f0_ (Nat.le_refl _)];unfold aP_;rw[List.getElem?_eq_none (Nat.le_refl _),List.drop_length];rfl
 | succ k ih =>
  intro i f hk hf hi;obtain⟨f,rfl⟩:∃g,f=g+1:=⟨f-1,by omega⟩;rw[List.length_drop]at hk;rcases Nat.lt_or_ge i s.length with h|h
  .have hd:=List.drop_eq_getElem_cons h;have k3:((s[i].toNat:Int)==39)=(s[i]==39):=bT_ s[i] 39;have hbc:([32,9]:Str).contains s[i]=bn_ s[i]:=by
    unfold bn_;simp only[List.contains_cons,List.contains_nil,Bool.or_false]
   have hba:aP_ s i=bn_ s[i]:=by
    unfold aP_;rw[List.getElem?_eq_getElem h]
   cases hb:bn_ s[i]with
   | true =>
    refine⟨0,ao_ ?_⟩;unfold cg_;rw[f0_ hi,hba,hb];have hu:ad_ [32,9] (s.drop i)=0:=by
     unfold ad_;rw[hd,List.takeWhile_cons,hbc,hb];rfl
    rw[hu];rfl
   | false =>
    have hu:ad_ [32,9] (s.drop i)=ad_ [32,9] (s.drop (i+1))+1:=by
     unfold ad_;rw[hd,List.takeWhile_cons,hbc,hb];rfl
    by_cases h39:s[i]=39
    .refine⟨(i:Int),ao_ ?_⟩;unfold cg_;rw[f0_ hi,hba,hb];simp only[qBs,Bool.not_false,cond_true];rw[aL_ h];simp only[qBs];rw[k3,h39,hu,hd,List.take_succ_cons,h39,List.contains_cons];rfl
    .obtain⟨e,he⟩:=ih (i+1) f (by rw[List.length_drop];omega) (by omega) (by omega);refine⟨e,(bc_ (s':=((i+1:Nat):Int)) ?_ he).trans ?_⟩
     .unfold cg_;rw[f0_ hi,hba,hb];simp only[qBs,Bool.not_false,cond_true];rw[aL_ h];simp only[qBs];rw[k3,beq_eq_false_iff_ne.2 h39,cond_false,aq_ (by omega)]
     .have e1:((s.drop i).take (ad_ [32,9] (s.drop i))).contains 39=((s.drop (i+1)).take (ad_ [32,9] (s.drop (i+1)))).contains 39:=by
       rw[hu,hd,List.take_succ_cons,List.contains_cons,show((39:UInt8)==s[i])=false from beq_eq_false_iff_ne.2 λe=>h39 e.symm,Bool.false_or]
      rw[e1,hu]
      congr 2
      congr 1
      omega
  .obtain rfl:i=s.length:=by omega
   refine⟨0,ao_ ?_⟩;unfold cg_;rw[f0_ (Nat.le_refl _)];unfold aP_;rw[List.getElem?_eq_none (Nat.le_refl _),List.drop_length];rfl
theorem ku_(s:Str)(i m:Nat):aP_ (s.drop i) m=aP_ s (i+m):=by
 unfold aP_;rw[List.getElem?_drop]
def ReadsAs(o:Option (Xz×Int×Int))(i:Nat)(q:Int×Xz×Nat):Prop:=∃a nx,o=some (a,nx,q.1)/\(q.1=0->a=q.2.1/\nx=((i+q.2.2:Nat):Int))
theorem fc_{o:Option (Xz×Int×Int)}{i:Nat}{a:Xz}{nx e:Int}{q:Int×Xz×Nat}(h:o=some (a,nx,e))(hq:q.1=e)(he:e≠0):ReadsAs o i q :=
 ⟨a,nx,by rw[h,hq],λh0=>absurd (hq.symm.trans h0) he⟩
theorem lq_{o:Option (Xz×Int×Int)}{i m:Nat}{a:Xz}(h:o=some (a,((i+m:Nat):Int),0)):ReadsAs o i (0,a,m) :=
 ⟨a,_,h,λ_=>⟨rfl,rfl⟩⟩
theorem read_eq{s:Str}(hs:s.length<=1000000000){i:Nat}(hi:i<=s.length):ReadsAs (g5_ s (i:Int)) i (aY_ (s.drop i)):=by
 have hn:=dh_ [32,9,61,63,39] (s.drop i);unfold g5_;rw[loopL1 hs hi];simp only[qBs];unfold aY_;generalize hu:ad_ [32,9,61,63,39] (s.drop i)=n at hn;rw[List.length_drop]at hn;have e1:(s.take (i+n)).drop i=(s.drop i).take n:=by
  rw[List.drop_take];congr 1;omega
 rw[aV_ (by omega) (by omega) (by omega)];simp only[qBs,qTn];rw[e1];have ed:(s.drop i).drop n=s.drop (i+n):=by rw[List.drop_drop]
 have ed2:(s.drop i).drop (n+2)=s.drop (i+n+2):=by rw[List.drop_drop];congr 1
 rw[ed,ed2,ku_,lp_,lp_];cases hr:s.drop (i+n)with
 | nil =>
  have he:i+n=s.length:=drop_nil (by omega) hr;rw[decide_eq_false (show ¬((i+n:Nat):Int)<(s.length:Int)by omega),show(((i+n:Nat):Int)==(s.length:Int))=true by rw[he];simp];exact fc_ rfl rfl (by decide)
 | cons b r =>
  obtain⟨hlt,hby,hd1⟩:=fb_ hr;have k63:((b.toNat:Int)==63)=(b==63):=bT_ b 63;have k61:((b.toNat:Int)==61)=(b==61):=bT_ b 61;have hne:(((i+n:Nat):Int)==(s.length:Int))=false:=beq_eq_false_iff_ne.2 (by omega);rw[ba_ hlt,cond_true,hby,hne];simp only[qBs];rw[k63];by_cases hb63:b=63
  .have e61:((b.toNat:Int) != 61)=true:=by rw[bne,k61,hb63];rfl
   rw[hb63];simp only[beq_self_eq_true,cond_true,if_true];rw[aq_ (by omega),f0_ (by omega)];simp only[qBs];rw[show i+(n+1)=i+n+1 by omega];cases hbl:aP_ s (i+n+1)with
   | true =>
    simp only[cond_true,if_true];exact lq_ (m:=n+1) (by rw[show i+(n+1)=i+n+1 by omega])
   | false =>
    simp only[cond_false,Bool.false_eq_true,if_false];rw[hb63]at e61;rw[e61];exact fc_ rfl rfl (by decide)
  .rw [beq_eq_false_iff_ne.2 hb63];simp only[cond_false,qBs,Bool.false_eq_true,if_false];by_cases hb61:b=61
   .have e61:((b.toNat:Int) != 61)=false:=by rw[bne,k61,hb61];rfl
    rw[e61];simp only[cond_false];rw[aq_ (by omega)];have hk:ad_ [32,9] (b::r)=ad_ [32,9] r+1:=by
     unfold ad_;rw[List.takeWhile_cons,hb61];rfl
    have hbb:(b==61)=true:=by rw[hb61];rfl
    -- whether a quote follows
    have hq:(Option.bind (bif decide (((i+n+1:Nat):Int)<(s.length:Int))then(an_ s ((i+n+1:Nat):Int)).bind λy26=>some (y26==39)else some false) λy=>some y)=some ((b::r).take 2==[61,39]):=by
     rw[hb61];cases r with
     | nil =>
      have he:i+n+1=s.length:=drop_nil (by omega) hd1;rw[decide_eq_false (by omega)];rfl
     | cons c r' =>
      obtain⟨hlt1,hby1,_⟩:=fb_ hd1;rw[ba_ hlt1,cond_true,hby1];simp only[qBs];have k39:((c.toNat:Int)==39)=(c==39):=bT_ c 39;rw[k39]
      congr 1
      rw[Bool.eq_iff_iff,beq_iff_eq,beq_iff_eq];constructor
      .intro e;rw[e];rfl
      .intro e;simp only[List.take_succ_cons,List.take_zero]at e;injection e with _ e;injection e
    refine(fZ_ hq).symm ▸ ?_;cases hc:(b::r).take 2==[61,39]with
    | true =>
     have hlt2:i+n+2<=s.length:=by
      rw[hb_]at hc;have:=congrArg List.length (of_decide_eq_true hc);rw[←hr,List.length_take,List.length_drop]at this;simp only[qLc,List.length_nil]at this;omega
     simp only[cond_true,if_true];rw[aq_ (by omega)];obtain⟨v,e,hqd⟩:=refQuoted_eq hs hlt2;rw[hqd];cases hqs:az_ (s.drop (i+n+2))with
     | none =>
      simp only[qBs];exact fc_ (e:=48) rfl rfl (by decide)
     | some p =>
      have hp:=ex_ (s.drop (i+n+2)).length (Nat.le_refl _) hqs;rw[List.length_drop]at hp;simp only[qBs,beq_self_eq_true,cond_true];rw[f0_ (by omega)];simp only[qBs];rw[ku_,show i+(n+(2+p.2))=i+n+2+p.2 by omega];cases hbl:aP_ s (i+n+2+p.2)with
      | true =>
       simp only[Bool.not_true,cond_false,qBs,if_true];exact lq_ (m:=n+(2+p.2)) (by rw[show i+(n+(2+p.2))=i+n+2+p.2 by omega])
      | false =>
       simp only[Bool.not_false,cond_true,qBs,Bool.false_eq_true,if_false];exact fc_ rfl rfl (by decide)
    | false =>
     simp only[cond_false,Bool.false_eq_true,if_false,hbb,if_true];obtain⟨e,hl2⟩:=loopL2 (nm:=(s.drop i).take n) hs (s.drop (i+n+1)).length (i+n+1) BIG (Nat.le_refl _) (aR_ (by rw[List.length_drop];omega)) (by omega);rw[hl2,hd1,hk];have e5:((b::r).take (ad_ [32,9] r+1)).drop 1=r.take (ad_ [32,9] r):=by
      rw[List.take_succ_cons];rfl
     rw[e5];have hur:=dh_ [32,9] r;have hrl:r.length=s.length-(i+n+1):=by rw[←hd1,List.length_drop]
     cases hc9:(r.take (ad_ [32,9] r)).contains 39 with
     | true=>exact fc_ rfl rfl (by decide)
     | false =>
      simp only[Bool.false_eq_true,if_false,qBs];rw[aV_ (by omega) (by omega) (by omega)];simp only[qBs,qTn];have e6:(s.take (i+n+1+ad_ [32,9] r)).drop (i+n+1)=r.take (ad_ [32,9] r):=by
       rw[List.drop_take,hd1];congr 1;omega
      rw[e6];exact lq_ (m:=n+(ad_ [32,9] r+1)) (by rw[show i+(n+(ad_ [32,9] r+1))=i+n+1+ad_ [32,9] r by omega])
   .have e61:((b.toNat:Int) != 61)=true:=by rw[bne,k61,beq_eq_false_iff_ne.2 hb61];rfl
    have hc2:((b::r).take 2==[61,39])=false:=by
     rw[beq_eq_false_iff_ne];intro e;cases r with
     | nil=>simp at e
     | cons c r' =>
      simp only[List.take_succ_cons,List.take_zero]at e;injection e with e _;exact hb61 e
    rw[e61,hc2];simp only[beq_eq_false_iff_ne.2 hb61,cond_true,Bool.false_eq_true,if_false];exact fc_ rfl rfl (by decide)
theorem fd_{t:Str}(h:(aY_ t).1=0):1<=(aY_ t).2.2/\(aY_ t).2.2<=t.length/\(aY_ t).2.1.Xh.length<=t.length/\(aY_ t).2.1.Xv.length<=t.length:=by
 have hn:=dh_ [32,9,61,63,39] t;unfold aY_ at h ⊢;generalize ad_ [32,9,61,63,39] t=n at hn h ⊢;have hdl:(t.drop n).length=t.length-n:=List.length_drop;have htk:(t.take n).length<=t.length:=by rw[List.length_take];omega
 have hne:∀c:UInt8,((t.drop n).take 1==[c])=true->n<t.length:=λc hc=>by
  rcases Nat.lt_or_ge n t.length with h1|h1
  .exact h1
  .rw[List.drop_eq_nil_of_le h1]at hc;cases hc
 by_cases c1:((t.drop n).take 1==[63])=true
 .have:=hne _ c1;rw[if_pos c1]at h ⊢;by_cases hb:aP_ t (n+1)=true
  .rw[if_pos hb];exact⟨by simp,by simp;omega,htk,by simp⟩
  .rw[if_neg hb]at h;cases h
 .rw [if_neg c1]at h ⊢;by_cases c2:((t.drop n).take 2==[61,39])=true
  .rw[if_pos c2]at h ⊢;have h2:n+2<=t.length:=by
    have e:=c2;rw[hb_]at e;have:=congrArg List.length (of_decide_eq_true e);rw[List.length_take,hdl]at this;simp only[qLc,List.length_nil]at this;omega
   cases hq:az_ (t.drop (n+2))with
   | none=>rw[hq]at h;cases h
   | some p =>
    rw[hq]at h;have hp:=ex_ (t.drop (n+2)).length (Nat.le_refl _) hq;rw[List.length_drop]at hp;simp only at h ⊢;by_cases hb:aP_ t (n+(2+p.2))=true
    .rw[if_pos hb];exact⟨by simp;omega,by simp;omega,htk,by simp;omega⟩
    .rw[if_neg hb]at h;cases h
  .rw [if_neg c2]at h ⊢;by_cases c3:((t.drop n).take 1==[61])=true
   .have hlt:=hne _ c3;rw[if_pos c3]at h ⊢;split at h
    .cases h
    .rename_i hc;rw[if_neg hc];have hk:=dh_ [32,9] (t.drop n);have hk1:1<=ad_ [32,9] (t.drop n):=by
      rw[lp_]at c3;cases hr:t.drop n with
      | nil=>rw[hr]at c3;cases c3
      | cons b r =>
       rw[hr]at c3;have hb:b=61:=by simpa using c3
       unfold ad_;rw[List.takeWhile_cons,hb];simp
     refine⟨by simp;omega,by simp;omega,htk,?_⟩;show(((t.drop n).take (ad_ [32,9] (t.drop n))).drop 1).length<=t.length;rw[List.length_drop,List.length_take,hdl];omega
   .rw[if_neg c3]at h;cases h
def dL_(s:Str)(i:Nat)(out:List Xz):Int:=if(aY_ (s.drop i)).1=0 then bJ_ out (aY_ (s.drop i)).2.1 else(aY_ (s.drop i)).1
inductive PR(s:Str):Nat->List Xz->List Xz×Int×Int->Prop
 | done {out}:PR s s.length out (out,0,0)
 | blank {i out r} (h:i<s.length) (hb:bn_ s[i]=true) (t:PR s (i+1) out r):PR s i out r
 | err {i out} (h:i<s.length) (hb:bn_ s[i]=false) (he:dL_ s i out≠0):PR s i out ([],(i:Int),dL_ s i out)
 | next {i out r} (h:i<s.length) (hb:bn_ s[i]=false) (he:dL_ s i out=0) (t:PR s (i+(aY_ (s.drop i)).2.2) (out++[(aY_ (s.drop i)).2.1]) r):PR s i out r
theorem jq_{s:Str}{i:Nat}{out:List Xz}(h:dL_ s i out=0):(aY_ (s.drop i)).1=0/\bJ_ out (aY_ (s.drop i)).2.1=0:=by
 unfold dL_ at h;split at h
 .rename_i h0;exact⟨h0,h⟩
 .rename_i h0;exact absurd h h0
theorem PR.ex{s:Str}:∀(k i:Nat) (out:List Xz),s.length-i<=k->i<=s.length->∃r,PR s i out r:=by
 intro k
 induction k with
 | zero =>
  intro i out hk hi;obtain rfl:i=s.length:=by omega
  exact⟨_,.done⟩
 | succ k ih =>
  intro i out hk hi;rcases Nat.lt_or_ge i s.length with h|h
  .cases hb:bn_ s[i]with
   | true =>
    obtain⟨r,hr⟩:=ih (i+1) out (by omega) (by omega);exact⟨r,.blank h hb hr⟩
   | false =>
    by_cases he:dL_ s i out=0
    .have hl:=fd_ (jq_ he).1;rw[List.length_drop]at hl;obtain⟨r,hr⟩:=ih (i+(aY_ (s.drop i)).2.2) (out++[(aY_ (s.drop i)).2.1]) (by omega) (by omega);exact⟨r,.next h hb he hr⟩
    .exact⟨_,.err h hb he⟩
  .obtain rfl:i=s.length:=by omega
   exact⟨_,.done⟩
theorem out_len{out:List Xz}{a:Xz}(h:bJ_ out a=0):out.length<32:=(dA_ h).1
theorem PR.prog{s:Str}(hs:s.length<=1000000000){i:Nat}{out:List Xz}{r:List Xz×Int×Int}(h:PR s i out r):i<=s.length->out.length<=32->∀f,s.length-i<f ->
  Option.bind (ah_ (bN_ s) f ((i:Int),out)) (λwo=>match wo with
   | .ret r3=>some r3
   | .fall o3=>some (o3,0,0))=some r:=by
 induction h with
 | done =>
  intro _ _ f hf;obtain⟨f,rfl⟩:∃g,f=g+1:=⟨f-1,by omega⟩;refine aI_ (ao_ (b := .fall _) ?_) rfl;unfold bN_;simp only[];rw[bx_];rfl
 | @blank i out r h hb _ ih =>
  intro hi ho f hf;obtain⟨f,rfl⟩:∃g,f=g+1:=⟨f-1,by omega⟩;have h1:=ih (by omega) ho f (by omega);have hbody:bN_ s ((i:Int),out)=some (.next (((i+1:Nat):Int),out)):=by
   unfold bN_;simp only[];rw[ba_ h,cond_true,aL_ h];simp only[qBs];rw[gx_,hb];simp only[qBs,cond_true];rw[aq_ (by omega)]
  rw[bc_ hbody rfl];exact h1
 | @err i out h hb he =>
  intro hi ho f hf;obtain⟨f,rfl⟩:∃g,f=g+1:=⟨f-1,by omega⟩;refine aI_ (ao_ (b := .ret ([],(i:Int),dL_ s i out)) ?_) rfl;unfold bN_;simp only[];rw[ba_ h,cond_true,aL_ h];simp only[qBs];rw[gx_,hb];simp only[qBs,cond_false];rw[aV_ (by omega) (by omega) (Int.le_refl _)];simp only[qBs,qTn,List.take_length];rw[one_eq (by rw[List.length_drop];omega)];simp only[qBs];have hee:(bif(aY_ (s.drop i)).1==0 then(d7_ out (aY_ (s.drop i)).2.1).bind λy11=>some y11 else some (aY_ (s.drop i)).1)=some (dL_ s i out):=by
   unfold dL_;by_cases h0:(aY_ (s.drop i)).1=0
   .have hl:=fd_ h0;rw[List.length_drop]at hl;rw[if_pos h0,h0];simp only[beq_self_eq_true,cond_true];rw[lo_ (by omega) (by omega) (by omega)];rfl
   .rw[if_neg h0,beq_eq_false_iff_ne.2 h0];rfl
  rw[hee];simp only[qBs];rw[show(dL_ s i out != 0)=true from bne_iff_ne.2 he];rfl
 | @next i out r h hb he _ ih =>
  intro hi ho f hf;obtain⟨f,rfl⟩:∃g,f=g+1:=⟨f-1,by omega⟩;obtain⟨z0,z1⟩:=jq_ he;have hl:=fd_ z0;rw[List.length_drop]at hl;have hol:=out_len z1;have h1:=ih (by omega) (by rw[qLa];simp only[qLc,List.length_nil];omega) f (by omega);have hbody:bN_ s ((i:Int),out)=some (.next (((i+(aY_ (s.drop i)).2.2:Nat):Int),out++[(aY_ (s.drop i)).2.1])):=by
   unfold bN_;simp only[];rw[ba_ h,cond_true,aL_ h];simp only[qBs];rw[gx_,hb];simp only[qBs,cond_false];rw[aV_ (by omega) (by omega) (Int.le_refl _)];simp only[qBs,qTn,List.take_length];rw[one_eq (by rw[List.length_drop];omega)];simp only[qBs];rw[z0];simp only[beq_self_eq_true,cond_true];rw[lo_ (by omega) (by omega) (by omega),z1];simp only[qBs,bne_self_eq_false,cond_false];rw[cv_ (by simp only[qLc,List.length_nil];omega) (by simp only[qLc,List.length_nil];omega)];simp only[qBs];rw[aw_ ⟨by omega,by omega⟩];rfl
  rw[bc_ hbody rfl];exact h1
theorem parse_eq{s:Str}(hs:s.length<=1000000000){r:List Xz×Int×Int}(h:PR s 0 [] r):g1_ s=some r :=
 h.prog hs (Nat.zero_le _) (Nat.zero_le _) BIG (aR_ (by omega))
def g8_(s:Str)(i:Nat):Nat:=i+((s.drop i).takeWhile bn_).length
theorem gy_{s:Str}(hs:s.length<=1000000000){i:Nat}(hi:i<=s.length):ah_ (db_ s) BIG (i:Int)=some ((g8_ s i:Nat):Int):=by
 have h:=mr_ (s:=s) (p:=λb => !(bn_ b)) (body:=db_ s) (λi hi=>by
  unfold db_;rw[ba_ hi,cond_true,aL_ hi];simp only[qBs];rw[kt_];simp only[qBs];rw[aq_ (by omega)];cases bn_ s[i]<;>rfl) (by
  unfold db_;rw[bx_];rfl) (s.drop i).length i BIG (Nat.le_refl _) (aR_ (by rw[List.length_drop];omega)) hi
 rw[h];unfold g8_;simp only[Bool.not_not]
theorem skip_blank{s:Str}{i:Nat}(h:i<s.length)(hb:bn_ s[i]=true):g8_ s i=g8_ s (i+1):=by
 unfold g8_;rw[List.drop_eq_getElem_cons h,List.takeWhile_cons,hb];simp only[if_true,qLc];omega
theorem skip_none{s:Str}{i:Nat}(h:i<s.length)(hb:bn_ s[i]=false):g8_ s i=i:=by
 unfold g8_;rw[List.drop_eq_getElem_cons h,List.takeWhile_cons,hb];rfl
theorem skip_end(s:Str):g8_ s s.length=s.length:=by
 unfold g8_;rw[List.drop_length];rfl
theorem loopF_same{σ β:Type}{body:σ->Option (Step σ β)}{s s':σ}(h:body s=body s'):∀(f:Nat),ah_ body f s=ah_ body f s'
 | 0=>rfl
 | f+1=>by simp only[ah_,h]
theorem PR.ref{s:Str}(hs:s.length<=1000000000){i:Nat}{out:List Xz}{r:List Xz×Int×Int}(h:PR s i out r):i<=s.length->out.length<=32->∀f,s.length-i<f ->
  ah_ (cu_ s) f ((i:Int),out)=some (.ret r):=by
 induction h with
 | done =>
  intro _ _ f hf;obtain⟨f,rfl⟩:∃g,f=g+1:=⟨f-1,by omega⟩;refine ao_ ?_;unfold cu_;simp only[];rw[gy_ hs (Nat.le_refl _),skip_end];simp
 | @blank i out r h hb _ ih =>
  intro hi ho f hf;have h1:=ih (by omega) ho f (by omega);rw[←h1];refine loopF_same ?_ f;unfold cu_;simp only[];rw[gy_ hs hi,gy_ hs (by omega),skip_blank h hb]
 | @err i out h hb he =>
  intro hi ho f hf;obtain⟨f,rfl⟩:∃g,f=g+1:=⟨f-1,by omega⟩;refine ao_ ?_;unfold cu_;simp only[];rw[gy_ hs hi,skip_none h hb];simp only[qBs];rw[show((i:Int)==(s.length:Int))=false from beq_eq_false_iff_ne.2 (by omega),cond_false];obtain⟨a,nx,hr,h0⟩:=read_eq hs hi;rw[hr];simp only[qBs];have hee:(bif(aY_ (s.drop i)).1==0 then(e9_ out a).bind λy17=>some y17 else some (aY_ (s.drop i)).1)=some (dL_ s i out):=by
   unfold dL_;by_cases hz:(aY_ (s.drop i)).1=0
   .have hl:=fd_ hz;rw[List.length_drop]at hl;obtain⟨rfl,_⟩:=h0 hz;rw[if_pos hz,hz];simp only[beq_self_eq_true,cond_true];rw[kl_ (by omega) (by omega) (by omega)];rfl
   .rw[if_neg hz,beq_eq_false_iff_ne.2 hz];rfl
  rw[hee];simp only[qBs];rw[show(dL_ s i out != 0)=true from bne_iff_ne.2 he];rfl
 | @next i out r h hb he _ ih =>
  intro hi ho f hf;obtain⟨f,rfl⟩:∃g,f=g+1:=⟨f-1,by omega⟩;obtain⟨z0,z1⟩:=jq_ he;have hl:=fd_ z0;rw[List.length_drop]at hl;have hol:=out_len z1;have h1:=ih (by omega) (by rw[qLa];simp only[qLc,List.length_nil];omega) f (by omega);obtain⟨a,nx,hr,h0⟩:=read_eq hs hi;obtain⟨rfl,rfl⟩:=h0 z0;refine bc_ ?_ h1;unfold cu_;simp only[];rw[gy_ hs hi,skip_none h hb];simp only[qBs];rw[show((i:Int)==(s.length:Int))=false from beq_eq_false_iff_ne.2 (by omega),cond_false,hr];simp only[qBs];rw[z0];simp only[beq_self_eq_true,cond_true];rw[kl_ (by omega) (by omega) (by omega),z1];simp only[qBs,bne_self_eq_false,cond_false]
  rw[cv_ (by simp only[qLc,List.length_nil];omega) (by simp only[qLc,List.length_nil];omega)];rfl
theorem refParse_eq{s:Str}(hs:s.length<=1000000000){r:List Xz×Int×Int}(h:PR s 0 [] r):gj_ s=some r:=by
 unfold gj_;exact aI_ (h.ref hs (Nat.zero_le _) (Nat.zero_le _) BIG (aR_ (by omega))) rfl
def isD(b:UInt8):Bool:=decide (48<=b.toNat)&&decide (b.toNat<=57)
def numS:Str->Nat->Option Nat | [],v=>some v|b::t,v=>if isD b=true/\v<=(65536-(b.toNat-48))/10 then numS t (v*10+(b.toNat-48))else none
theorem digit_eq(b:UInt8):hO_ (b.toNat:Int)=some (if isD b then((b.toNat-48:Nat):Int)else if 97<=b.toNat/\b.toNat<=102 then((b.toNat-87:Nat):Int)else 16):=by
 unfold hO_ isD;have hb:=b.toNat_lt;by_cases h1:48<=b.toNat/\b.toNat<=57
 .rw[decide_eq_true (show(b.toNat:Int)>=48 by omega),decide_eq_true (show(b.toNat:Int)<=57 by omega),decide_eq_true h1.1,decide_eq_true h1.2];simp only[Bool.and_self,cond_true,if_true];rw[wu8,aw_ ⟨by omega,by omega⟩]
  congr 1
  omega
 .have e1:(decide ((b.toNat:Int)>=48)&&decide ((b.toNat:Int)<=57))=false:=by
   rw[Bool.and_eq_false_iff,decide_eq_false_iff_not,decide_eq_false_iff_not];omega
  have e2:(decide (48<=b.toNat)&&decide (b.toNat<=57))=false:=by
   rw[Bool.and_eq_false_iff,decide_eq_false_iff_not,decide_eq_false_iff_not];omega
  rw[e1,e2];simp only[cond_false,Bool.false_eq_true,if_false];by_cases h2:97<=b.toNat/\b.toNat<=102
  .rw[decide_eq_true (show(b.toNat:Int)>=97 by omega),decide_eq_true (show(b.toNat:Int)<=102 by omega),if_pos h2];simp only[Bool.and_self,cond_true];rw[wu8,aw_ (n:=((b.toNat:Int)-97)%256) ⟨by omega,by omega⟩,aw_ ⟨by omega,by omega⟩]
   congr 1
   omega
  .have e3:(decide ((b.toNat:Int)>=97)&&decide ((b.toNat:Int)<=102))=false:=by
    rw[Bool.and_eq_false_iff,decide_eq_false_iff_not,decide_eq_false_iff_not];omega
   rw[e3,if_neg h2];rfl
theorem refDigit_eq(b:UInt8):gk_ (b.toNat:Int)=some (if isD b then((b.toNat-48:Nat):Int)else if 97<=b.toNat/\b.toNat<=102 then((b.toNat-87:Nat):Int)else -1):=by
 unfold gk_ isD;have hb:=b.toNat_lt;by_cases h1:48<=b.toNat/\b.toNat<=57
 .rw[decide_eq_true (show(b.toNat:Int)>=48 by omega),decide_eq_true (show(b.toNat:Int)<=57 by omega),decide_eq_true h1.1,decide_eq_true h1.2];simp only[Bool.and_self,cond_true,if_true];rw[aw_ (n:=(b.toNat:Int)) ⟨by omega,by omega⟩,aw_ ⟨by omega,by omega⟩]
  congr 1
  omega
 .have e1:(decide ((b.toNat:Int)>=48)&&decide ((b.toNat:Int)<=57))=false:=by
   rw[Bool.and_eq_false_iff,decide_eq_false_iff_not,decide_eq_false_iff_not];omega
  have e2:(decide (48<=b.toNat)&&decide (b.toNat<=57))=false:=by
   rw[Bool.and_eq_false_iff,decide_eq_false_iff_not,decide_eq_false_iff_not];omega
  rw[e1,e2];simp only[cond_false,Bool.false_eq_true,if_false];by_cases h2:97<=b.toNat/\b.toNat<=102
  .rw[decide_eq_true (show(b.toNat:Int)>=97 by omega),decide_eq_true (show(b.toNat:Int)<=102 by omega),if_pos h2];simp only[Bool.and_self,cond_true];rw[aw_ (n:=(b.toNat:Int)) ⟨by omega,by omega⟩,aw_ (n:=(b.toNat:Int)-97) ⟨by omega,by omega⟩,aw_ ⟨by omega,by omega⟩]
   congr 1
   omega
  .have e3:(decide ((b.toNat:Int)>=97)&&decide ((b.toNat:Int)<=102))=false:=by
    rw[Bool.and_eq_false_iff,decide_eq_false_iff_not,decide_eq_false_iff_not];omega
   rw[e3,if_neg h2];rfl
theorem quo10{d:Nat}(hd:d<=9):quoI .i64 (w64 (65536-(d:Int))) 10=some (((65536-d)/10:Nat):Int):=by
 unfold quoI;rw[aw_ ⟨by omega,by omega⟩,if_neg (by decide),show(65536-(d:Int))=((65536-d:Nat):Int)by omega,Int.tdiv_eq_ediv_of_nonneg (by omega),wi64_eq ⟨by omega,by omega⟩]
 congr 1
theorem num_go{s:Str}{body:Int×Int->Option (Step (Int×Int) (Out Int (Int×Int)))}
  (hb:∀(v i:Nat) (h:i<s.length),v<=65536->body ((v:Int),(i:Int))=some (if isD s[i]=true/\v<=(65536-(s[i].toNat-48))/10 then .next (((v*10+(s[i].toNat-48):Nat):Int),((i+1:Nat):Int))else .done (.ret (0,5))))
  (he:∀v:Int,body (v,(s.length:Int))=some (.done (.fall v))):∀(k i v f:Nat),(s.drop i).length<=k->k<f->i<=s.length->v<=65536 ->
  ah_ body f ((v:Int),(i:Int))=some (match numS (s.drop i) v with
   | some w => .fall (w:Int)
   | none => .ret (0,5)):=by
 intro k
 induction k with
 | zero =>
  intro i v f hk hf hi hv;obtain⟨f,rfl⟩:∃g,f=g+1:=⟨f-1,by omega⟩;rw[List.length_drop]at hk;obtain rfl:i=s.length:=by omega
  rw[ao_ (he v),List.drop_length];rfl
 | succ k ih =>
  intro i v f hk hf hi hv;obtain⟨f,rfl⟩:∃g,f=g+1:=⟨f-1,by omega⟩;rw[List.length_drop]at hk;rcases Nat.lt_or_ge i s.length with h|h
  .rw[List.drop_eq_getElem_cons h];unfold numS;by_cases hc:isD s[i]=true/\v<=(65536-(s[i].toNat-48))/10
   .rw[if_pos hc];have h1:=hc.1;unfold isD at h1;simp only[qAn,qDe]at h1;have h2:=hc.2;exact bc_ ((hb v i h hv).trans (by rw[if_pos hc])) (ih (i+1) _ f (by rw[List.length_drop];omega) (by omega) (by omega) (by omega))
   .rw[if_neg hc];exact ao_ ((hb v i h hv).trans (by rw[if_neg hc]))
  .obtain rfl:i=s.length:=by omega
   rw[ao_ (he v),List.drop_length];rfl
def numR(s:Str):Int×Int:=if s=[]\/(1<s.length/\s.take 1=[48])then(0,5)else match numS s 0 with|some w=>((w:Int),0)|none=>(0,5)
theorem lead_eq(s:Str):(Option.bind (bif(s==[])then some true else
   Option.bind (bif(decide ((s.length:Int)>1))then
    (an_ s 0).bind λy2 =>
    some (y2==48)
     else some false) λ(y3:Bool) =>
   some y3
   ) λ(y4:Bool)=>some y4)=some (decide (s=[]\/(1<s.length/\s.take 1=[48]))):=by
 cases s with
 | nil=>rfl
 | cons b t =>
  rw[show(((b::t:Str))==[])=false from rfl,cond_false];by_cases h1:1<(b::t).length
  .rw[decide_eq_true (show((b::t).length:Int)>1 by omega),cond_true,show an_ (b::t) 0=some (b.toNat:Int)from aL_ (s:=b::t) (i:=0) (by simp)];simp only[qBs];have k:((b.toNat:Int)==48)=(b==48):=bT_ b 48;rw[k]
   congr 1
   rw[Bool.eq_iff_iff,beq_iff_eq,qDe];constructor
   .intro e;exact .inr ⟨h1,by rw[e];rfl⟩
   .rintro(e|⟨_,e⟩)
    .cases e
    .rw[List.take_succ_cons]at e;injection e
  .rw[decide_eq_false (show ¬((b::t).length:Int)>1 by omega),cond_false];simp only[qBs]
   congr 1
   symm;rw[decide_eq_false_iff_not]
   rintro(e|⟨e,_⟩)
   .cases e
   .exact h1 e
theorem num_eq{s:Str}(hs:s.length<=9223372036854775807):hP_ s 10 65536=some (numR s):=by
 unfold hP_ numR;have hk:hM_ 10=some true:=rfl;rw[hk];simp only[qBs];rw[show((!true)||decide ((65536:Int)<0))=false from rfl,cond_false];refine(fZ_ (lead_eq s)).trans ?_;by_cases hl:s=[]\/(1<s.length/\s.take 1=[48])
 .rw[decide_eq_true hl,if_pos hl];rfl
 .rw [decide_eq_false hl,if_neg hl,cond_false];have h:=num_go (s:=s) (body:=fq_ s 10 65536) (λv i h hv=>by
   unfold fq_;simp only[];rw[ba_ h,cond_true,aL_ h];simp only[qBs];rw[digit_eq];simp only[qBs];by_cases hd:isD s[i]=true
   .have h1:=hd;unfold isD at h1;simp only[qAn,qDe]at h1;rw[if_pos hd,decide_eq_false (by omega),cond_false,quo10 (by omega)];simp only[qBs];rw[decide_eq_false (show ¬((s[i].toNat-48:Nat):Int)>65536 by omega),Bool.or_false];by_cases hv2:v<=(65536-(s[i].toNat-48))/10
    .rw[decide_eq_false (by omega),cond_false,if_pos ⟨hd,hv2⟩,aq_ (by omega),aw_ (n:=(v:Int)*10) ⟨by omega,by omega⟩,aw_ ⟨by omega,by omega⟩]
     congr 3
    .rw[decide_eq_true (by omega),cond_true,if_neg λh=>hv2 h.2]
   .have hng:¬(isD s[i]=true/\v<=(65536-(s[i].toNat-48))/10):=λh=>hd h.1
    rw[if_neg hd,if_neg hng];have hge:(if 97<=s[i].toNat/\s[i].toNat<=102 then((s[i].toNat-87:Nat):Int)else 16)>=10:=by
     split<;>omega
    rw[decide_eq_true hge];rfl) (λv=>by
   unfold fq_;simp only[];rw[bx_];rfl) (s.drop 0).length 0 0 BIG (Nat.le_refl _) (aR_ (by simpa using hs)) (Nat.zero_le _) (Nat.zero_le _)
  refine aI_ h ?_;rw[List.drop_zero];cases numS s 0<;>rfl
theorem refNum_eq{s:Str}(hs:s.length<=9223372036854775807):gl_ s 10 65536=some (numR s):=by
 unfold gl_ numR;have hk:gh_ 10=some true:=rfl;rw[hk];simp only[qBs];rw[show((!true)||decide ((65536:Int)<0))=false from rfl,cond_false];refine(fZ_ (lead_eq s)).trans ?_;by_cases hl:s=[]\/(1<s.length/\s.take 1=[48])
 .rw[decide_eq_true hl,if_pos hl];rfl
 .rw [decide_eq_false hl,if_neg hl,cond_false];have h:=num_go (s:=s) (body:=eg_ s 10 65536) (λv i h hv=>by
   unfold eg_;simp only[];rw[ba_ h,cond_true,aL_ h];simp only[qBs];rw[refDigit_eq];simp only[qBs];by_cases hd:isD s[i]=true
   .have h1:=hd;unfold isD at h1;simp only[qAn,qDe]at h1;rw[if_pos hd,decide_eq_false (show ¬((s[i].toNat-48:Nat):Int)<0 by omega),decide_eq_false (show ¬((s[i].toNat-48:Nat):Int)>=10 by omega),decide_eq_false (show ¬((s[i].toNat-48:Nat):Int)>65536 by omega)];simp only[Bool.or_self,cond_false];rw[quo10 (by omega)];simp only[qBs];by_cases hv2:v<=(65536-(s[i].toNat-48))/10
    .rw[decide_eq_false (by omega),cond_false,if_pos ⟨hd,hv2⟩,aq_ (by omega),aw_ (n:=(v:Int)*10) ⟨by omega,by omega⟩,aw_ ⟨by omega,by omega⟩]
     congr 3
    .rw[decide_eq_true (by omega),cond_true,if_neg λh=>hv2 h.2]
   .have hng:¬(isD s[i]=true/\v<=(65536-(s[i].toNat-48))/10):=λh=>hd h.1
    rw[if_neg hd,if_neg hng];by_cases h9:97<=s[i].toNat/\s[i].toNat<=102
    .rw[if_pos h9,decide_eq_true (show((s[i].toNat-87:Nat):Int)>=10 by omega),Bool.or_true];rfl
    .rw[if_neg h9];rfl) (λv=>by
   unfold eg_;simp only[];rw[bx_];rfl) (s.drop 0).length 0 0 BIG (Nat.le_refl _) (aR_ (by simpa using hs)) (Nat.zero_le _) (Nat.zero_le _)
  refine aI_ h ?_;rw[List.drop_zero];cases numS s 0<;>rfl
def splitK:Nat->Str->List Str | 0,s=>[s]|k+1,s=>if s.contains 10 then s.take (ad_ [10] s)::splitK k (s.drop (ad_ [10] s+1))else[s]
theorem ey_{k:Nat}{s:Str}(h:s.contains 10=false):splitK k s=[s]:=by
 cases k with
 | zero=>rfl
 | succ k=>unfold splitK;rw[h];rfl
theorem jr_{k:Nat}{s:Str}(h:s.contains 10=true):splitK (k+1) s=s.take (ad_ [10] s)::splitK k (s.drop (ad_ [10] s+1)):=by
 conv=>lhs;unfold splitK
 rw[if_pos h]
theorem set_rep{α:Type}(A:List α)(k:Nat)(z v:α):(A++List.replicate (k+1) z).set A.length v=A++[v]++List.replicate k z:=set_mid A k z v
theorem split_go{s:Str}(hs:s.length<=1000000000){m:Nat}(hm:m=min 7 (s.length+1)):∀(k:Nat) (t:Str) (i:Nat) (A:List Str) (f:Nat),m-1-i<=k->k<f->A.length=i->i+1<=m->t.length+i<=s.length->splitK 6 s=A++splitK (6-i) t ->
  ∃t' i' A',ah_ (bh_ 7 s [10] 0) f (t,(i:Int),A++List.replicate (m-i) [])=some (t',((i':Nat):Int),A'++List.replicate (m-i') [])/\A'.length=i'/\i'+1<=m/\splitK 6 s=A'++[t']:=by
 have hmi:minI 7 (w64 ((s.length:Int)+1))=(m:Int):=by
  rw[aw_ ⟨by omega,by omega⟩];unfold minI;rw[hm];split<;>omega
 intro k
 induction k with
 | zero =>
  intro t i A f hk hf hA hi ht hsp;obtain⟨f,rfl⟩:∃g,f=g+1:=⟨f-1,by omega⟩;refine⟨t,i,A,ao_ ?_,hA,hi,?_⟩
  .unfold bh_;simp only[];rw[hmi,aw_ (n:=(m:Int)-1) ⟨by omega,by omega⟩,decide_eq_false (by omega)];rfl
  .rw[hsp]
   congr 1
   by_cases h6:i=6
   .rw[h6];rfl
   .have:t=[]:=List.length_eq_zero_iff.1 (by omega);rw[this];exact ey_ rfl
 | succ k ih =>
  intro t i A f hk hf hA hi ht hsp;obtain⟨f,rfl⟩:∃g,f=g+1:=⟨f-1,by omega⟩;by_cases hlast:i+1=m
  .refine⟨t,i,A,ao_ ?_,hA,hi,?_⟩
   .unfold bh_;simp only[];rw[hmi,aw_ (n:=(m:Int)-1) ⟨by omega,by omega⟩,decide_eq_false (by omega)];rfl
   .rw[hsp]
    congr 1
    by_cases h6:i=6
    .rw[h6];rfl
    .have:t=[]:=List.length_eq_zero_iff.1 (by omega);rw[this];exact ey_ rfl
  .cases hc:t.contains 10 with
   | false =>
    refine⟨t,i,A,ao_ ?_,hA,hi,by rw[hsp,ey_ hc]⟩;have hneg:cd_ t 10<0:=by
     rcases Int.lt_or_le (cd_ t 10) 0 with h|h
     .exact h
     .rw[(ln_ t 10).1 h]at hc;cases hc
    unfold bh_;simp only[];rw[hmi,aw_ (n:=(m:Int)-1) ⟨by omega,by omega⟩,decide_eq_true (by omega),cond_true];unfold strings_Index stringslite_Index;simp only[qBs];rw[decide_eq_true hneg];rfl
   | true =>
    obtain⟨k1,k2,k3,k4⟩:=go_ hc;have hi6:i<6:=by omega
    obtain⟨t',i',A',h1,h2⟩:=ih (t.drop (ad_ [10] t+1)) (i+1) (A++[t.take (ad_ [10] t)]) f (by omega) (by omega) (by rw[qLa,hA];rfl) (by omega) (by rw[List.length_drop];omega) (by
     rw[hsp,show 6-i=(6-(i+1))+1 by omega,jr_ hc,List.append_assoc];rfl)
    refine⟨t',i',A',(bc_ ?_ h1),h2⟩;unfold bh_;simp only[];rw[hmi,aw_ (n:=(m:Int)-1) ⟨by omega,by omega⟩,decide_eq_true (by omega),cond_true];unfold strings_Index stringslite_Index;simp only[qBs];rw[k3,decide_eq_false (by omega),cond_false,Int.add_zero,aw_ (n:=((ad_ [10] t:Nat):Int)) ⟨by omega,by omega⟩,aV_ (Int.le_refl 0) (by omega) (by omega)];simp only[qBs,qTn,Int.toNat_zero,List.drop_zero];have hget:ai_ (A++List.replicate (m-i) ([]:Str)) (i:Int)=some []:=by
     rw[lm_,List.getElem?_append_right (by omega),hA,Nat.sub_self,List.getElem?_replicate,if_pos (by omega)]
    rw[hget];simp only[qBs];rw[aw_ (n:=((ad_ [10] t:Nat):Int)+(([10]:Str).length:Int)) ⟨by simp only[qLc,List.length_nil];omega,by simp only[qLc,List.length_nil];omega⟩,aV_ (by simp only[qLc,List.length_nil];omega) (by simp only[qLc,List.length_nil];omega) (Int.le_refl _)];simp only[qBs,qTn,List.take_length];rw[aq_ (by omega)];have e1:(((ad_ [10] t:Nat):Int)+(([10]:Str).length:Int)).toNat=ad_ [10] t+1:=by simp only[qLc,List.length_nil];omega
    rw[e1];have e2:(A++List.replicate (m-i) ([]:Str)).set i (t.take (ad_ [10] t))=A++[t.take (ad_ [10] t)]++List.replicate (m-(i+1)) []:=by
     rw[←hA,show m-A.length=(m-(A.length+1))+1 by omega,set_rep]
    rw[e2]
theorem splitN_eq{s:Str}(hs:s.length<=1000000000):strings_SplitN s [10] 7=some (splitK 6 s):=by
 unfold strings_SplitN strings_genSplit;rw[show((7:Int)==0)=false from rfl,cond_false,show(([10]:Str)==[])=false from rfl,cond_false,show decide ((7:Int)<0)=false from rfl,cond_false];simp only[qBs];obtain⟨m,hm⟩:∃m,m=min 7 (s.length+1):=⟨_,rfl⟩;have hmi:minI 7 (w64 ((s.length:Int)+1))=(m:Int):=by
  rw[aw_ ⟨by omega,by omega⟩];unfold minI;rw[hm];split<;>omega
 rw[hmi,makeI_eq (by omega) (by omega) (by omega)];simp only[qBs,qTn];obtain⟨t,i,A,h1,h2,h3,h4⟩:=split_go hs hm (m-1) s 0 [] BIG (by omega) (aR_ (by omega)) rfl (by omega) (Nat.le_refl _) rfl;have h1':ah_ (bh_ 7 s [10] 0) BIG (s,0,List.replicate m [])=some (t,((i:Nat):Int),A++List.replicate (m-i) []):=h1;rw[h1'];simp only[qBs];have hget:ai_ (A++List.replicate (m-i) ([]:Str)) (i:Int)=some []:=by
  rw[lm_,List.getElem?_append_right (by omega),h2,Nat.sub_self,List.getElem?_replicate,if_pos (by omega)]
 have e2:(A++List.replicate (m-i) ([]:Str)).set i t=A++[t]++List.replicate (m-(i+1)) []:=by
  rw[←h2,show m-A.length=(m-(A.length+1))+1 by omega,set_rep]
 rw[hget];simp only[qBs,qTn];rw[e2,aq_ (by omega),aV_ (Int.le_refl 0) (by omega) (by simp only[qLa,qLc,List.length_nil,List.length_replicate];omega)];simp only[qBs,qTn]
 congr 1
 rw[h4,List.take_append_of_le_length (by simp only[qLa,qLc,List.length_nil];omega),List.take_of_length_le (by simp only[qLa,qLc,List.length_nil];omega)]
theorem id_{c:UInt8}:∀{t:Str} {n:Nat},(t.take n).contains c=false->t[n]? = some c->ad_ [c] t=n/\t.contains c=true
 | [],n,_,h=>by simp at h
 | b::t,0,_,h=>by
  have hb:b=c:=by simpa using h
  subst hb;constructor
  .unfold ad_;rw[List.takeWhile_cons];simp
  .rw[List.contains_cons];simp
 | b::t,n+1,h1,h2=>by
  rw[List.take_succ_cons,List.contains_cons,Bool.or_eq_false_iff]at h1;obtain⟨h3,h4⟩:=id_ (t:=t) (n:=n) h1.2 (by simpa using h2);have hbc:b≠c:=λe=>by
   have:=h1.1;rw[e]at this;simp at this
  constructor
  .unfold ad_ at h3 ⊢;rw[List.takeWhile_cons];have:([c]:Str).contains b=false:=by
    rw[List.contains_cons,List.contains_nil,Bool.or_false];exact beq_eq_false_iff_ne.2 hbc
   rw[this];simp only[Bool.not_false,if_true,qLc,h3]
  .rw[List.contains_cons,h4,Bool.or_true]
theorem refSplit_go{s:Str}(hs:s.length<=1000000000):∀(k fr i:Nat) (l:List Str) (f:Nat),s.length-i<=k->k<f->fr<=i->i<=s.length->l.length<=6->((s.drop fr).take (i-fr)).contains 10=false->splitK 6 s=l++splitK (6-l.length) (s.drop fr) ->
  ∃(fr':Nat) (l':List Str),ah_ (bB_ s) f ((fr:Int),(i:Int),l)=some ((fr':Int),l')/\fr'<=s.length/\l'.length<=6/\splitK 6 s=l'++[s.drop fr']:=by
 intro k
 induction k with
 | zero =>
  intro fr i l f hk hf hfi hi hl hc hsp;obtain⟨f,rfl⟩:∃g,f=g+1:=⟨f-1,by omega⟩;obtain rfl:i=s.length:=by omega
  refine⟨fr,l,ao_ ?_,by omega,hl,?_⟩
  .unfold bB_;simp only[];rw[bx_];rfl
  .rw[List.take_of_length_le (by rw[List.length_drop];omega)]at hc;rw[hsp,ey_ hc]
 | succ k ih =>
  intro fr i l f hk hf hfi hi hl hc hsp;obtain⟨f,rfl⟩:∃g,f=g+1:=⟨f-1,by omega⟩;rcases Nat.lt_or_ge i s.length with h|h
  .by_cases h6:l.length=6
   .refine⟨fr,l,ao_ ?_,by omega,hl,by rw[hsp,h6];rfl⟩;unfold bB_;simp only[];rw[ba_ h,decide_eq_false (by omega)];rfl
   .have e10:((s[i].toNat:Int)==10)=(s[i]==10):=bT_ s[i] 10;have hget:(s.drop fr)[i-fr]? = some s[i]:=by
     rw[List.getElem?_drop,show fr+(i-fr)=i by omega,List.getElem?_eq_getElem h]
    by_cases hb:s[i]=10
    .obtain⟨hu,hcc⟩:=id_ hc (hb▸hget);have e1:(s.take i).drop fr=(s.drop fr).take (i-fr):=by rw[List.drop_take]
     obtain⟨fr',l',h1,h2⟩:=ih (i+1) (i+1) (l++[(s.drop fr).take (i-fr)]) f (by omega) (by omega) (Nat.le_refl _) (by omega) (by rw[qLa];simp only[qLc,List.length_nil];omega) (by rw[Nat.sub_self];rfl) (by
      have e2:(s.drop fr).drop (i-fr+1)=s.drop (i+1):=by rw[List.drop_drop];congr 1;omega
      rw[hsp,show 6-l.length=(6-(l++[(s.drop fr).take (i-fr)]).length)+1 by rw[qLa];simp only[qLc,List.length_nil];omega,jr_ hcc,hu,e2,List.append_assoc];rfl)
     refine⟨fr',l',bc_ ?_ h1,h2⟩;unfold bB_;simp only[];rw[ba_ h,decide_eq_true (by omega),aL_ h];simp only[Bool.and_self,cond_true,qBs];rw[e10,hb];simp only[beq_self_eq_true,cond_true];rw[aV_ (by omega) (by omega) (by omega)];simp only[qBs,qTn];rw[e1,cv_ (by simp only[qLc,List.length_nil];omega) (by simp only[qLc,List.length_nil];omega),aq_ (by omega)];rfl
    .obtain⟨fr',l',h1,h2⟩:=ih fr (i+1) l f (by omega) (by omega) (by omega) (by omega) hl (by
      have hlt:i-fr<(s.drop fr).length:=by rw[List.length_drop];omega
      rw[show i+1-fr=i-fr+1 by omega,di_ hlt];have e3:(s.drop fr)[i-fr]=s[i]:=by
       rw[List.getElem?_eq_getElem hlt]at hget;exact qSj hget
      rw[e3];have:((s.drop fr).take (i-fr)++[s[i]]).contains 10=(((s.drop fr).take (i-fr)).contains 10||([s[i]]:Str).contains 10):=by
       rw[Bool.eq_iff_iff,Bool.or_eq_true];simp only[List.contains_iff_mem,List.mem_append]
      rw[this,hc,Bool.false_or,List.contains_cons,List.contains_nil,Bool.or_false];exact beq_eq_false_iff_ne.2 λe=>hb e.symm) hsp
     refine⟨fr',l',bc_ ?_ h1,h2⟩;unfold bB_;simp only[];rw[ba_ h,decide_eq_true (by omega),aL_ h];simp only[Bool.and_self,cond_true,qBs];rw[e10,beq_eq_false_iff_ne.2 hb];simp only[cond_false,qBs];rw[aq_ (by omega)]
  .obtain rfl:i=s.length:=by omega
   refine⟨fr,l,ao_ ?_,by omega,hl,?_⟩
   .unfold bB_;simp only[];rw[bx_];rfl
   .rw[List.take_of_length_le (by rw[List.length_drop];omega)]at hc;rw[hsp,ey_ hc]
theorem PR.lens{s:Str}{i:Nat}{out:List Xz}{r:List Xz×Int×Int}(h:PR s i out r):out.length<=32->(∀a∈out,a.Xh.length<=s.length/\a.Xv.length<=s.length)->r.1.length<=32/\∀a∈r.1,a.Xh.length<=s.length/\a.Xv.length<=s.length:=by
 induction h with
 | done=>exact λh1 h2=>⟨h1,h2⟩
 | blank _ _ _ ih=>exact ih
 | err=>exact λ_ _=>⟨Nat.zero_le _,λa ha=>nomatch ha⟩
 | @next i out r h hb he _ ih =>
  intro h1 h2;obtain⟨z0,z1⟩:=jq_ he;have hl:=fd_ z0;rw[List.length_drop]at hl;have hol:=out_len z1;refine ih (by rw[qLa];simp only[qLc,List.length_nil];omega) λa ha => ?_
  rcases List.mem_append.1 ha with ha|ha
  .exact h2 a ha
  .obtain rfl:=List.mem_singleton.1 ha;exact⟨by omega,by omega⟩
theorem kY_:∀(k:Nat) (s:Str),∀x∈splitK k s,x.length<=s.length
 | 0,s,x,hx=>by obtain rfl:=List.mem_singleton.1 hx;exact Nat.le_refl _
 | k+1,s,x,hx=>by
  unfold splitK at hx;split at hx
  .rcases List.mem_cons.1 hx with rfl|hx
   .rw[List.length_take];omega
   .have:=kY_ k _ x hx;rw[List.length_drop]at this;omega
  .obtain rfl:=List.mem_singleton.1 hx;exact Nat.le_refl _
theorem ms_{s:Str}(hs:s.length<=1000000000):∃q,b2_ s=some q/\gm_ s=some q/\q.1.Xx.length<=32:=by
 obtain⟨fr,l,h1,h2,h3,h4⟩:=refSplit_go hs s.length 0 0 [] BIG (by omega) (aR_ (by omega)) (Nat.le_refl _) (Nat.zero_le _) (by simp) rfl rfl;have h1':ah_ (bB_ s) BIG (0,0,[])=some ((fr:Int),l):=h1;have hlens:=kY_ 6 s;rw[h4]at hlens;unfold b2_ gm_;rw[splitN_eq hs,h4,h1'];simp only[qBs,qLa,qLc,List.length_nil];by_cases h6:l.length=6
 .rw [decide_eq_false (by omega),decide_eq_false (by omega)];simp only[cond_false]
  match l,h6,hlens with
  | [x0,x1,x2,x3,x4,x5],_,hlens =>
   have hx4:x4.length<=s.length:=hlens x4 (by simp);have hx5:x5.length<=s.length:=hlens x5 (by simp);have g0:ai_ ([x0,x1,x2,x3,x4,x5]++[s.drop fr]) 0=some x0:=rfl;have g1:ai_ ([x0,x1,x2,x3,x4,x5]++[s.drop fr]) 1=some x1:=rfl;have g2:ai_ ([x0,x1,x2,x3,x4,x5]++[s.drop fr]) 2=some x2:=rfl;have g3:ai_ ([x0,x1,x2,x3,x4,x5]++[s.drop fr]) 3=some x3:=rfl;have g4:ai_ ([x0,x1,x2,x3,x4,x5]++[s.drop fr]) 4=some x4:=rfl;have g5:ai_ ([x0,x1,x2,x3,x4,x5]++[s.drop fr]) 5=some x5:=rfl;have g6:ai_ ([x0,x1,x2,x3,x4,x5]++[s.drop fr]) 6=some (s.drop fr):=rfl;have r0:ai_ [x0,x1,x2,x3,x4,x5] 0=some x0:=rfl;have r1:ai_ [x0,x1,x2,x3,x4,x5] 1=some x1:=rfl
   have r2:ai_ [x0,x1,x2,x3,x4,x5] 2=some x2:=rfl;have r3:ai_ [x0,x1,x2,x3,x4,x5] 3=some x3:=rfl;have r4:ai_ [x0,x1,x2,x3,x4,x5] 4=some x4:=rfl;have r5:ai_ [x0,x1,x2,x3,x4,x5] 5=some x5:=rfl;rw[g0,g1,g2,g3,g4,g5,g6,r0,r1,r2,r3,r4,r5];simp only[qBs];obtain⟨r,hr⟩:=PR.ex x4.length 0 [] (by omega) (Nat.zero_le _) (s:=x4);rw[parse_eq (by omega) hr,refParse_eq (by omega) hr];simp only[qBs];by_cases he:r.2.2=0
   .rw [he];simp only[bne_self_eq_false,cond_false];rw[num_eq (by omega),refNum_eq (by omega)];simp only[qBs];by_cases hn:(numR x5).2=0
    .rw[hn];simp only[bne_self_eq_false,cond_false];have hdl:(s.drop fr).length=s.length-fr:=List.length_drop;rw[aw_ (n:=(s.length:Int)-(fr:Int)) ⟨by omega,by omega⟩,show(s.length:Int)-(fr:Int)=((s.drop fr).length:Int)by omega];cases decide (((s.drop fr).length:Int)<(numR x5).1)with
     | true=>exact⟨_,rfl,rfl,Nat.zero_le _⟩
     | false =>
      simp only[cond_false];cases decide (((s.drop fr).length:Int)>(numR x5).1)with
      | true=>exact⟨_,rfl,rfl,Nat.zero_le _⟩
      | false =>
       simp only[cond_false];rw[aV_ (by omega) (by omega) (Int.le_refl _)];simp only[qBs,qTn,List.take_length];obtain⟨k1,k2⟩:=hr.lens (Nat.zero_le _) (λa ha=>nomatch ha);have hA:AttrL r.1:=⟨by omega,λa ha=>by have:=(k2 a ha).1;omega,λa ha=>by have:=(k2 a ha).2;omega⟩;rw[eL_ (m:=Xq.mk x0 x1 x2 x3 r.1 (s.drop fr)) hA,eU_ (m:=Xq.mk x0 x1 x2 x3 r.1 (s.drop fr)) hA];simp only[qBs];cases(bt_ (Xq.mk x0 x1 x2 x3 r.1 (s.drop fr)) != 0)with
       | true=>exact⟨_,rfl,rfl,Nat.zero_le _⟩
       | false=>exact⟨_,rfl,rfl,k1⟩
    .rw[show((numR x5).2 != 0)=true from bne_iff_ne.2 hn];exact⟨_,rfl,rfl,Nat.zero_le _⟩
   .rw[show(r.2.2 != 0)=true from bne_iff_ne.2 he];exact⟨_,rfl,rfl,Nat.zero_le _⟩
 .rw[decide_eq_true (by omega),decide_eq_true (by omega)];exact⟨_,rfl,rfl,Nat.zero_le _⟩
theorem mt_{σ β:Type}{body:σ->Option (Step σ β)}{b:β}:∀{n m:Nat} {s:σ},ah_ body n s=some b->n<=m->ah_ body m s=some b
 | 0,_,_,h,_=>by cases h
 | n+1,0,_,_,hm=>by omega
 | n+1,m+1,s,h,hm=>by
  simp only[ah_]at h ⊢;cases hb:body s with
  | none=>rw[hb]at h;cases h
  | some x =>
   rw[hb]at h;cases x with
   | done b'=>exact h
   | next s'=>exact mt_ (n:=n) (m:=m) (s:=s') h (by omega)
theorem text_eq{n:Int}(h0:0<=n)(h1:n<=9223372036854775807):je_ n 10=some (bF_ 20 n.toNat):=by
 unfold je_;exact aI_ (a:=true) rfl (cond_f rfl (aI_ (by unfold cj_;rw[if_pos ⟨rfl,h0,h1⟩]) rfl))
theorem mu_(u:Nat)(s:Str)(hu:u<=9223372036854775807)(hs:s.length<=1000)(hc:(decide (-(u:Int)<0)||(s==[]))=true):cb_ 10 (-(u:Int),s)=some (.next (-((u/10:Nat):Int),UInt8.ofNat (48+u%10)::s)):=by
 unfold cb_;have hd:u%10<10:=Nat.mod_lt _ (by omega);have e1:remI (-(u:Int)) 10=some (-((u%10:Nat):Int)):=by
  unfold remI;rw[if_neg (by decide),Int.neg_tmod,Int.tmod_eq_emod_of_nonneg (by omega)];rfl
 have e2:quoI .i64 (-(u:Int)) 10=some (-((u/10:Nat):Int)):=by
  unfold quoI;rw[if_neg (by decide),Int.neg_tdiv,Int.tdiv_eq_ediv_of_nonneg (by omega),wi64_eq ⟨by omega,by omega⟩];rfl
 refine cond_t hc (aI_ e1 (aI_ (a:=[UInt8.ofNat (48+u%10)]) ?_ (aI_ (a:=UInt8.ofNat (48+u%10)::s) ?_ (aI_ e2 rfl))))
 .generalize u%10=d at hd;have h:d=0\/d=1\/d=2\/d=3\/d=4\/d=5\/d=6\/d=7\/d=8\/d=9:=by omega
  rcases h with rfl|rfl|rfl|rfl|rfl|rfl|rfl|rfl|rfl|rfl<;>rfl
 .rw[bI_ (by simp;omega)];rfl
theorem fe_(f u:Nat):bF_ (f+1) u=if u<10 then[UInt8.ofNat (48+u)]else bF_ f (u/10)++[UInt8.ofNat (48+u%10)]:=rfl
theorem kZ_:∀(f u:Nat) (s:Str),u<10^f->u<=9223372036854775807->s≠[]->s.length+f<=1000->ah_ (cb_ 10) (f+1) (-(u:Int),s)=some ((if u=0 then[]else bF_ f u)++s)
 | 0,u,s,h,_,hs,_=>by
  have:u=0:=by simpa using h
  subst this;refine ao_ ?_;unfold cb_;refine cond_f ?_ rfl;cases s with
  | nil=>exact absurd rfl hs
  | cons a l=>rfl
 | f+1,u,s,h,hu,hs,hl=>by
  by_cases h0:u=0
  .subst h0;rw[if_pos rfl];refine ao_ ?_;unfold cb_;refine cond_f ?_ rfl;cases s with
   | nil=>exact absurd rfl hs
   | cons a l=>rfl
  .rw[if_neg h0];have hc:(decide (-(u:Int)<0)||(s==[]))=true:=by
    have:decide (-(u:Int)<0)=true:=by simp;omega
    rw[this];rfl
   refine bc_ (mu_ u s hu (by omega) hc) ((kZ_ f (u/10) (UInt8.ofNat (48+u%10)::s) (by rw[Nat.pow_succ]at h;omega) (by omega) (by simp) (by simp;omega)).trans ?_);rw[fe_ f u];by_cases h1:u<10
   .rw[if_pos h1,if_pos (by omega),Nat.mod_eq_of_lt h1];rfl
   .rw[if_neg h1,if_neg (by omega)];simp
theorem ref_text_eq{n:Int}(h0:0<=n)(h1:n<=9223372036854775807):g4_ n 10=some (bF_ 20 n.toNat):=by
 obtain⟨u,rfl⟩:∃u:Nat,n=(u:Int):=⟨n.toNat,by omega⟩;rw[qTn];unfold g4_ fw_;refine aI_ (a:=true) rfl (cond_f rfl (cond_f (by simp) ?_));rw[aw_ ⟨by omega,by omega⟩,Int.zero_sub];have hstep:=mu_ u [] (by omega) (by simp) (by simp);have hrest:=kZ_ 19 (u/10) [UInt8.ofNat (48+u%10)] (by omega) (by omega) (by simp) (by simp);have h:=mt_ (bc_ hstep hrest) (show 19+1+1<=BIG by decide);refine aI_ (aI_ h rfl) (congrArg some ?_);rw[show bF_ 20 u=_ from fe_ 19 u];by_cases h2:u<10
 .rw[if_pos h2,if_pos (by omega),Nat.mod_eq_of_lt h2];rfl
 .rw[if_neg h2,if_neg (by omega)]
theorem js_:∀(f u:Nat),(bF_ f u).length<=f
 | 0,_=>Nat.le_refl _
 | f+1,u=>by
  rw[fe_];split
  .simp
  .have:=js_ f (u/10);rw[qLa];simp only[qLc,List.length_nil];omega
def fA_(m:Xq):Str:=bq_ [10] [m.Xg,m.Xf,m.Xm,m.Xw,bm_ m.Xx,bF_ 20 m.Xk.length,m.Xk]
theorem ez_{m:Xq}(h:bt_ m=0):(∀s∈[m.Xg,m.Xf,m.Xm,m.Xw],s.length<=1024/\s.contains 10=false)/\aU_ m.Xx=0/\m.Xx.any (·.Xb)=false/\m.Xk.length<=65536:=by
 unfold bt_ at h;cases hs:bl_ gn_ 0 [m.Xg,m.Xf,m.Xm,m.Xw]with
 | some r =>
  rw[hs,Option.getD_some]at h;obtain⟨i,x,h1,h2,_⟩:=hR_ hs;unfold gn_ at h2;split at h2
  .cases h2
  .rename_i h0;have:=qSj h2;omega
 | none =>
  rw[hs,Option.getD_none]at h;have key:=scan_none.1 hs;refine⟨λs hm => ?_,?_⟩
  .obtain⟨i,hi⟩:=List.mem_iff_getElem?.1 hm;have h3:=key i s hi;unfold gn_ at h3;split at h3
   .rename_i h4;unfold textE at h4;split at h4
    .cases h4
    .split at h4
     .cases h4
     .rename_i h5 h6;exact⟨by omega,by simpa using h6⟩
   .cases h3
  .split at h
   .rename_i h0;refine⟨h0,?_⟩;split at h
    .cases h
    .rename_i h1;split at h
     .cases h
     .rename_i h2;exact⟨by simpa using h1,by omega⟩
   .rename_i h0;exact absurd h h0
theorem mv_{m:Xq}(h:bt_ m=0):(fA_ m).length<=150000:=by
 obtain⟨h1,h2,_,h4⟩:=ez_ h;have a1:=(h1 m.Xg (by simp)).1;have a2:=(h1 m.Xf (by simp)).1;have a3:=(h1 m.Xm (by simp)).1;have a4:=(h1 m.Xw (by simp)).1;have a5:=g7_ (dW_ h2);have a6:=js_ 20 m.Xk.length;unfold fA_;rw[jo_];simp only[List.flatten_cons,List.flatten_nil,qLa,qLc,List.length_nil];omega
theorem jy_{m:Xq}(h:AttrL m.Xx):c1_ m=some (if bt_ m=0 then(fA_ m,0)else([],bt_ m)):=by
 unfold c1_;rw[eL_ h];simp only[qBs];by_cases h0:bt_ m=0
 .have h1:=ez_ h0;rw[if_pos h0,h0];simp only[bne_self_eq_false,cond_false];rw[attrPrint_eq h,if_pos h1.2.1];simp only[qBs,bne_self_eq_false,cond_false];rw[text_eq (by omega) (by have:=h1.2.2.2;omega)];simp only[qBs,qTn];have hl:=mv_ h0;unfold fA_ at hl;rw[Join_eq (by simp) (by omega) (by simp) (by simp)];rfl
 .rw[if_neg h0,show(bt_ m != 0)=true from bne_iff_ne.2 h0];rfl
theorem lr_{m:Xq}(h:AttrL m.Xx):gi_ m=some (if bt_ m=0 then(fA_ m,0)else([],bt_ m)):=by
 unfold gi_;rw[eU_ h];simp only[qBs];by_cases h0:bt_ m=0
 .have h1:=ez_ h0;rw[if_pos h0,h0];simp only[bne_self_eq_false,cond_false];rw[refPrint_eq h,if_pos h1.2.1];have a1:=(h1.1 m.Xg (by simp)).1;have a2:=(h1.1 m.Xf (by simp)).1;have a3:=(h1.1 m.Xm (by simp)).1;have a4:=(h1.1 m.Xw (by simp)).1;have a5:=g7_ (dW_ h1.2.1);have a6:=js_ 20 m.Xk.length;have a7:=h1.2.2.2;have ht:=ref_text_eq (n:=(m.Xk.length:Int)) (by omega) (by omega);rw[qTn]at ht;rw[ht];simp only[qBs]
  repeat (rw[bI_ (by simp only[qLa,qLc,List.length_nil];omega)];simp only[qBs])
  unfold fA_;simp[bq_]
 .rw[if_neg h0,show(bt_ m != 0)=true from bne_iff_ne.2 h0];rfl
def gSmall(_:Nat)(a:Xz):Option Bool:=if decide (w64 ((a.Xh.length:Int)+(a.Xv.length:Int))>2000)then some false else none
theorem small_eq{m:Xq}(hl:m.Xx.length<=9223372036854775807):∃b,er_ m=some b/\(b=true->m.Xx.length<=40/\m.Xk.length<=70000/\m.Xg.length<=2000/\m.Xf.length<=2000/\m.Xm.length<=2000/\m.Xw.length<=2000):=by
 unfold er_;have hs:=dg_ (body:=d5_ m) m.Xx gSmall (aR_ hl) (λi hi=>by
  unfold d5_;rw[ba_ hi,cond_true,bX_ hi];simp only[qBs];unfold gSmall;cases decide (w64 ((m.Xx[i].Xh.length:Int)+(m.Xx[i].Xv.length:Int))>2000)with
  | true=>rfl
  | false =>
   simp only[cond_false,Bool.false_eq_true,if_false,stepO];rw[aq_ (by omega)]) (by
  unfold d5_;rw[bx_];rfl)
 cases hsc:bl_ gSmall 0 m.Xx with
 | some r =>
  rw[hsc]at hs;refine⟨r,aI_ hs rfl,λhr => ?_⟩;obtain⟨i,x,_,h2,_⟩:=hR_ hsc;unfold gSmall at h2;split at h2
  .have:=qSj h2;rw[hr]at this;cases this
  .cases h2
 | none =>
  rw[hsc]at hs;refine⟨_,aI_ hs rfl,λhr => ?_⟩;simp only[qAn,qDe]at hr;omega
theorem nf_{l:List Xz}(hl:l.length<=9223372036854775807):dJ_ l l=some true:=by
 unfold dJ_;rw[show((l.length:Int) != (l.length:Int))=false from bne_self_eq_false _,cond_false];have hs:=dg_ (body:=cS_ l l) l (λ_ _=>(none:Option Bool)) (aR_ hl) (λi hi=>by
  unfold cS_;rw[ba_ hi,cond_true,bX_ hi];simp only[qBs];rw[decide_eq_true trivial,Bool.not_true,cond_false,aq_ (by omega)];rfl) (by
  unfold cS_;rw[bx_];rfl)
 have hn:bl_ (λ_ _=>(none:Option Bool)) 0 l=none:=scan_none.2 λ_ _ _=>rfl
 rw[hn]at hs;exact aI_ hs rfl
theorem same_refl{m:Xq}(hl:m.Xx.length<=9223372036854775807):fy_ m m=some true:=by
 unfold fy_;rw[beq_self_eq_true,beq_self_eq_true,beq_self_eq_true,beq_self_eq_true,beq_self_eq_true];simp only[Bool.and_self,cond_true];rw[nf_ hl];rfl
theorem nW_{m:Xq}{s:Str}(ha:bs_=some true)(h:AttrL m.Xx):bS_ m s=some true:=by
 unfold bS_;obtain⟨b,hb,_⟩:=small_eq (m:=m) h.len;rw[hb];simp only[qBs];cases hc:(!b||decide ((s.length:Int)>70000))with
 | true=>rw[cond_true,ha];rfl
 | false =>
  rw[cond_false];rw[Bool.or_eq_false_iff,decide_eq_false_iff_not]at hc;obtain⟨q,h1,h2,hql⟩:=ms_ (s:=s) (by omega);rw[jy_ h,lr_ h,h1,h2,eL_ h,eU_ h];simp only[qBs,beq_self_eq_true,Bool.and_self,cond_true];rw[same_refl (by omega)];simp only[qBs,Bool.and_self,cond_true];rw[ha];rfl
theorem kv_{p a t:Str}{c:UInt8}(h:∀b∈a,p.contains b=false)(hc:p.contains c=true):ad_ p (a++c::t)=a.length:=by
 unfold ad_
 induction a with
 | nil=>rw[List.nil_append,List.takeWhile_cons,hc];rfl
 | cons b a ih =>
  rw[List.cons_append,List.takeWhile_cons,h b (by simp)];simp only[Bool.not_false,if_true,qLc];rw[ih λx hx=>h x (List.mem_cons_of_mem _ hx)]
theorem until_app0{p a:Str}(h:∀b∈a,p.contains b=false):ad_ p a=a.length:=by
 unfold ad_
 induction a with
 | nil=>rfl
 | cons b a ih =>
  rw[List.takeWhile_cons,h b (by simp)];simp only[Bool.not_false,if_true,qLc];rw[ih λx hx=>h x (List.mem_cons_of_mem _ hx)]
theorem mx_{p a:Str}(h:ad_ p a=a.length):∀b∈a,p.contains b=false:=by
 have h1:=(until_all p a).1 h;intro b hb;have h2:=List.any_eq_false.1 h1 b hb;simpa using h2
def Rest(r:Str):Prop:=r=[]\/∃t,r=32::t
theorem k0_{r:Str}(hr:Rest r):∀v:Str,az_ (dbl v++39::r)=some (v,(dbl v).length+1)
 | []=>by
  rcases hr with rfl|⟨t,rfl⟩
  .rfl
  .rfl
 | b::v=>by
  have ih:=k0_ hr v;by_cases hb:b=39
  .subst hb;have e:dbl (39::v)=39::39::dbl v:=rfl;rw[e];simp only[List.cons_append];unfold az_;rw[if_pos rfl];simp only[if_true];rw[ih];rfl
  .have e:dbl (b::v)=b::dbl v:=by
    unfold dbl;rw[List.flatMap_cons,show(b==39)=false from beq_eq_false_iff_ne.2 hb];rfl
   rw[e];simp only[List.cons_append];unfold az_;rw[if_neg hb,ih];rfl
theorem jt_{s:Str}(h:cB_ s=true):s≠[]/\∀b∈s,okN b.toNat=true\/b=33:=by
 unfold cB_ at h;simp only[qAn,qDe]at h;obtain⟨h1,_,_,h4⟩:=h;rw[List.all_eq_true]at h4;unfold trimB at h1 h4;split at h1
 .rename_i hc;rw[if_pos hc]at h4;cases s with
  | nil=>cases hc
  | cons c t =>
   refine⟨by simp,λb hb => ?_⟩;rcases List.mem_cons.1 hb with rfl|hb
   .right;simpa using hc
   .left;exact h4 b (by simpa using hb)
 .rename_i hc;rw[if_neg hc]at h4;refine⟨λe=>by rw[e]at h1;simp at h1,λb hb => .inl (h4 b hb)⟩
theorem ok_ne{b k:UInt8}(h:okN b.toNat=true\/b=33)(hk:okN k.toNat=false)(h3:k≠33):b≠k:=by
 rintro rfl;rcases h with h|h
 .rw[hk]at h;cases h
 .exact h3 h
theorem ok_sep{b:UInt8}(h:okN b.toNat=true\/b=33):([32,9,61,63,39]:Str).contains b=false:=by
 simp only[List.contains_cons,List.contains_nil,Bool.or_false,Bool.or_eq_false_iff,beq_eq_false_iff_ne];exact⟨ok_ne h rfl (by decide),ok_ne h rfl (by decide),ok_ne h rfl (by decide),ok_ne h rfl (by decide),ok_ne h rfl (by decide)⟩
theorem my_{a r:Str}(hr:Rest r):aP_ (a++r) a.length=true:=by
 unfold aP_;rw[List.getElem?_append_right (Nat.le_refl _),Nat.sub_self];rcases hr with rfl|⟨t,rfl⟩<;>rfl
theorem readS_word{a:Xz}(hn:cB_ a.Xh=true)(hq:a.Xb=true->a.Xv=[]){r:Str}(hr:Rest r):aY_ (bg_ a++r)=(0,a,(bg_ a).length):=by
 obtain⟨nm,v,q⟩:=a;simp only at hn hq;have hb:=λb hb=>ok_sep ((jt_ hn).2 b hb)
 unfold bg_;simp only;cases q with
 | true =>
  obtain rfl:v=[]:=hq rfl;simp only[if_true,List.append_assoc,List.cons_append,List.nil_append];have hu:ad_ [32,9,61,63,39] (nm++63::r)=nm.length:=kv_ hb rfl;unfold aY_;rw[hu,List.drop_left];have hbl:aP_ (nm++63::r) (nm.length+1)=true:=by
   have:=my_ (a:=nm++[63]) hr
   rwa [List.append_assoc,qLa]at this
  rw[hbl,List.take_left];simp
 | false =>
  simp only[Bool.false_eq_true,if_false,List.append_assoc,List.cons_append];have hu:ad_ [32,9,61,63,39] (nm++61::(dd_ v++r))=nm.length:=kv_ hb rfl;unfold aY_;rw[hu,List.drop_left,List.take_left];have h1:((61::(dd_ v++r)).take 1==[63])=false:=rfl;rw[h1];simp only[Bool.false_eq_true,if_false];unfold dd_;by_cases hc:v≠[]/\ad_ [32,9,39] v=v.length
  .rw[if_pos hc];obtain⟨h0,hv⟩:=hc;have hvb:=mx_ hv;obtain⟨c,v',rfl⟩:∃c v',v=c::v':=by
    cases v with
    | nil=>exact absurd rfl h0
    | cons c v'=>exact⟨c,v',rfl⟩
   have hc39:c≠39:=by
    have:=hvb c (by simp)
    rintro rfl;cases this
   have h2:((61::(c::v'++r)).take 2==[61,39])=false:=by
    rw[List.cons_append,List.take_succ_cons,List.take_succ_cons,List.take_zero]
    apply beq_eq_false_iff_ne.2;intro e;injection e with _ e;injection e with e _;exact hc39 e
   rw[h2];simp only[Bool.false_eq_true,if_false];have h3:((61::(c::v'++r)).take 1==[61])=true:=rfl;rw[h3,if_pos rfl];have hw:∀b∈(61:UInt8)::(c::v'),([32,9]:Str).contains b=false:=by
    intro b hb;rcases List.mem_cons.1 hb with rfl|hb
    .rfl
    .have:=hvb b hb;simp only[List.contains_cons,List.contains_nil,Bool.or_false,Bool.or_eq_false_iff]at this ⊢;exact⟨this.1,this.2.1⟩
   have hu2:ad_ [32,9] (61::(c::v'++r))=(61::(c::v')).length:=by
    rcases hr with rfl|⟨t,rfl⟩
    .rw[List.append_nil];exact until_app0 hw
    .exact kv_ (a:=61::(c::v')) hw rfl
   rw[hu2];have e1:((61::(c::v'++r)).take (61::(c::v')).length).drop 1=c::v':=by
    rw[show(61::(c::v'++r))=(61::(c::v'))++r from rfl,List.take_left];rfl
   rw[e1];have e2:(c::v').contains 39=false:=by
    apply Bool.eq_false_iff.2;intro e;have:=hvb 39 (by simpa using e);cases this
   rw[e2];simp
  .rw[if_neg hc];have e0:(39::(dbl v++[39]))++r=39::(dbl v++39::r):=by simp
   rw[e0];have h2:((61::39::(dbl v++39::r)).take 2==[61,39])=true:=rfl;rw[h2,if_pos rfl];have e3:(nm++61::39::(dbl v++39::r)).drop (nm.length+2)=dbl v++39::r:=by
    rw[show nm++61::39::(dbl v++39::r)=(nm++[61,39])++(dbl v++39::r)by simp];exact List.drop_left' (by simp)
   have e4:(61::39::(dbl v++39::r)).drop 2=dbl v++39::r:=rfl;have hbl:aP_ (nm++61::39::(dbl v++39::r)) (nm.length+(2+((dbl v).length+1)))=true:=by
    have:=my_ (a:=nm++(61::39::(dbl v++[39]))) hr;rw[show nm++61::39::(dbl v++[39])++r=nm++61::39::(dbl v++39::r)by simp]at this;rw[←this]
    congr 1
    simp only[qLa,qLc,List.length_nil];omega
   rw[List.drop_append,List.drop_eq_nil_of_le (by omega),show nm.length+2-nm.length=2 by omega,List.nil_append,e4,k0_ hr];simp only[hbl,if_true];simp only[qLa,qLc,List.length_nil];rw[show 2+((dbl v).length+1)=(dbl v).length+(0+1)+1+1 by omega]
def tailA(l:List Xz):Str:=match l with | []=>[]|a::l=>32::bm_ (a::l)
theorem k1_(a:Xz)(l:List Xz):bm_ (a::l)=bg_ a++tailA l:=by
 cases l with
 | nil=>simp[bm_,tailA,bq_]
 | cons b l=>rfl
theorem tailA_rest(l:List Xz):Rest (tailA l):=by
 cases l with
 | nil=>exact .inl rfl
 | cons a l=>exact .inr ⟨_,rfl⟩
theorem word_first{a:Xz}(h:cB_ a.Xh=true):∃b t,bg_ a=b::t/\bn_ b=false:=by
 obtain⟨h0,h1⟩:=jt_ h;cases hn:a.Xh with
 | nil=>exact absurd hn h0
 | cons b t =>
  have hb:=h1 b (by rw[hn];simp);have h2:bn_ b=false:=by
   unfold bn_;rw[beq_eq_false_iff_ne.2 (ok_ne hb rfl (by decide)),beq_eq_false_iff_ne.2 (ok_ne hb rfl (by decide))];rfl
  unfold bg_;rw[hn];split
  .exact⟨b,_,rfl,h2⟩
  .exact⟨b,_,rfl,h2⟩
theorem PR.step{s pre:Str}{a:Xz}{l:List Xz}{out:List Xz}{r:List Xz×Int×Int}(hs:s=pre++(bg_ a++tailA l))(hn:cB_ a.Xh=true)(hq:a.Xb=true->a.Xv=[])(hc:bJ_ out a=0)(h:PR s (pre.length+(bg_ a).length) (out++[a]) r):PR s pre.length out r:=by
 obtain⟨b,t,hw,hb⟩:=word_first hn;have hd:s.drop pre.length=bg_ a++tailA l:=by rw[hs,List.drop_left]
 have hr:=readS_word hn hq (tailA_rest l);have hlt:pre.length<s.length:=by rw[hs,qLa,hw];simp
 have hg:s[pre.length]=b:=by
  have:s[pre.length]? = some b:=by
   rw[hs,List.getElem?_append_right (Nat.le_refl _),Nat.sub_self,hw];rfl
  rw[List.getElem?_eq_getElem hlt]at this;exact qSj this
 refine .next hlt (by rw[hg];exact hb) ?_ ?_
 .unfold dL_;rw[hd,hr];simp only[if_true];exact hc
 .rw[hd,hr];exact h
theorem PR.tail{s:Str}:∀(l:List Xz) (pre:Str) (out:List Xz),s=pre++tailA l->(∀a∈l,cB_ a.Xh=true)->(∀a∈l,a.Xb=true->a.Xv=[])->(∀i (h:i<l.length),bJ_ (out++l.take i) l[i]=0)->PR s pre.length out (out++l,0,0)
 | [],pre,out,hs,_,_,_=>by
  obtain rfl:s=pre:=by rw[hs];simp[tailA]
  rw[List.append_nil];exact .done
 | a::l,pre,out,hs,hn,hq,hc=>by
  have hlt:pre.length<s.length:=by rw[hs];simp[tailA]
  have hg:s[pre.length]=32:=by
   have:s[pre.length]? = some 32:=by
    rw[hs,List.getElem?_append_right (Nat.le_refl _),Nat.sub_self];rfl
   rw[List.getElem?_eq_getElem hlt]at this;exact qSj this
  refine .blank hlt (by rw[hg];rfl) ?_;have hs2:s=(pre++[32])++(bg_ a++tailA l):=by
   rw[hs,show tailA (a::l)=32::bm_ (a::l)from rfl,k1_];simp
  have hc0:=hc 0 (by simp);rw[List.take_zero,List.append_nil]at hc0;have ih:=PR.tail (s:=s) l ((pre++[32])++bg_ a) (out++[a]) (by rw[hs2];simp) (λx hx=>hn x (List.mem_cons_of_mem _ hx)) (λx hx=>hq x (List.mem_cons_of_mem _ hx)) (λi hi=>by
   have:=hc (i+1) (by simp;omega);rw[List.take_succ_cons]at this;simpa using this)
  rw[show out++[a]++l=out++a::l by simp,@qLa _ (pre++[32]) (bg_ a)]at ih;have h2:=PR.step (pre:=pre++[32]) hs2 (hn a (by simp)) (hq a (by simp)) hc0 ih
  rwa [qLa]at h2
theorem PR.print{l:List Xz}(h:aU_ l=0):PR (bm_ l) 0 [] (l,0,0):=by
 have hk:=dW_ h;have hc:=checkAll_zero.1 h;cases l with
 | nil=>exact .done
 | cons a l =>
  rw[k1_];have hc0:=hc 0 (by simp);have ih:=PR.tail (s:=bg_ a++tailA l) l (bg_ a) [a] rfl (λx hx=>hk.nm x (List.mem_cons_of_mem _ hx)) (λx hx=>hk.qv x (List.mem_cons_of_mem _ hx)) (λi hi=>by
   have:=hc (i+1) (by simp;omega);rw[List.take_succ_cons]at this;simpa using this)
  exact PR.step (pre:=[]) rfl (hk.nm a (by simp)) (hk.qv a (by simp)) hc0 (by simpa using ih)
theorem hV_{d:Nat}(hd:d<10):isD (UInt8.ofNat (48+d))=true/\(UInt8.ofNat (48+d)).toNat=48+d:=by
 have e:(UInt8.ofNat (48+d)).toNat=48+d:=by
  rw[UInt8.toNat_ofNat'];omega
 refine⟨?_,e⟩;unfold isD;rw[e,decide_eq_true (by omega),decide_eq_true (by omega)];rfl
theorem numS_digF:∀(f u:Nat) (t:Str),u<10^f->u<=65536->numS (bF_ f u++t) 0=numS t u
 | 0,u,t,h,_=>by
  obtain rfl:u=0:=by simpa using h
  rfl
 | f+1,u,t,h,hu=>by
  rw[fe_];by_cases h1:u<10
  .obtain⟨k1,k2⟩:=hV_ h1;rw[if_pos h1,List.cons_append,List.nil_append]
   conv=>lhs;unfold numS
   rw[if_pos ⟨k1,Nat.zero_le _⟩,k2,Nat.zero_mul,Nat.zero_add,Nat.add_sub_cancel_left]
  .have hd:u%10<10:=Nat.mod_lt _ (by omega);obtain⟨k1,k2⟩:=hV_ hd;rw[if_neg h1,List.append_assoc,numS_digF f (u/10) _ (by rw[Nat.pow_succ]at h;omega) (by omega),List.cons_append,List.nil_append]
   conv=>lhs;unfold numS
   rw[k2,if_pos ⟨k1,by omega⟩]
   congr 1
   omega
theorem mz_:∀(f u:Nat),0<u->u<10^f->bF_ f u≠[]/\(bF_ f u).take 1≠[48]
 | 0,u,h0,h=>by simp at h;omega
 | f+1,u,h0,h=>by
  rw[fe_];by_cases h1:u<10
  .rw[if_pos h1];refine⟨by simp,λe => ?_⟩;have e2:UInt8.ofNat (48+u)=48:=by simpa using e
   have:=(hV_ h1).2;rw[e2]at this;have h48:(48:UInt8).toNat=48:=rfl;omega
  .rw[if_neg h1];obtain⟨k1,k2⟩:=mz_ f (u/10) (by omega) (by rw[Nat.pow_succ]at h;omega);refine⟨by simp,λe=>k2 ?_⟩;rw[List.take_append_of_le_length (by cases hz:bF_ f (u/10)with|nil=>exact absurd hz k1|cons=>simp)]at e;exact e
theorem numR_digF{u:Nat}(hu:u<=65536):numR (bF_ 20 u)=((u:Int),0):=by
 unfold numR;have h:=numS_digF 20 u [] (by omega) hu;rw[List.append_nil]at h;have h2:numS [] u=some u:=rfl;rw[h2]at h;by_cases h0:u=0
 .subst h0;rfl
 .obtain⟨k1,k2⟩:=mz_ 20 u (by omega) (by omega);rw[if_neg (by rintro(e|e);exact k1 e;exact k2 e.2),h]
theorem ei_{k:Nat}{x t:Str}(hx:x.contains 10=false):splitK (k+1) (x++10::t)=x::splitK k t:=by
 obtain⟨h1,h2⟩:=id_ (c:=10) (t:=x++10::t) (n:=x.length) (by rwa [List.take_left]) (by rw[List.getElem?_append_right (Nat.le_refl _),Nat.sub_self];rfl);rw[jr_ h2,h1,List.take_left,show x++10::t=(x++[10])++t by simp,List.drop_left' (by simp)]
theorem mem_join{sep:Str}{b:UInt8}:∀{xs:List Str},b∈bq_ sep xs->b∈sep\/∃x∈xs,b∈x
 | [],h=>by cases h
 | [x],h => .inr ⟨x,by simp,h⟩
 | x::y::l,h=>by
  rcases List.mem_append.1 h with h|h
  .exact .inr ⟨x,by simp,h⟩
  .rcases List.mem_append.1 h with h|h
   .exact .inl h
   .rcases mem_join (xs:=y::l) h with h|⟨z,hz,h⟩
    .exact .inl h
    .exact .inr ⟨z,List.mem_cons_of_mem _ hz,h⟩
theorem no_ten{s:Str}(h:∀b∈s,b≠10):s.contains 10=false:=by
 apply Bool.eq_false_iff.2;intro e;exact h 10 (by simpa using e) rfl
theorem digF_ten:∀(f u:Nat),∀b∈bF_ f u,b≠10
 | 0,_,b,h=>by cases h
 | f+1,u,b,h=>by
  rw[fe_]at h;have key:∀d,d<10->UInt8.ofNat (48+d)≠10:=λd hd e=>by
   have:=(hV_ hd).2;rw[e]at this;have h10:(10:UInt8).toNat=10:=rfl;omega
  by_cases h1:u<10
  .rw[if_pos h1]at h;obtain rfl:=List.mem_singleton.1 h;exact key u h1
  .rw[if_neg h1]at h;rcases List.mem_append.1 h with h|h
   .exact digF_ten f _ b h
   .obtain rfl:=List.mem_singleton.1 h;exact key _ (Nat.mod_lt _ (by omega))
theorem mem_dbl{v:Str}{b:UInt8}(h:b∈dbl v):b∈v:=by
 unfold dbl at h;obtain⟨c,hc,hb⟩:=List.mem_flatMap.1 h;split at hb
 .rename_i h39;have:c=39:=by simpa using h39
  have:b=39:=by simpa using hb
  simp_all
 .have:b=c:=by simpa using hb
  rw[this];exact hc
theorem quote_ten{v:Str}(h:∀b∈v,b≠10):∀b∈dd_ v,b≠10:=by
 intro b hb;unfold dd_ at hb;split at hb
 .exact h b hb
 .rcases List.mem_cons.1 hb with rfl|hb
  .decide
  .rcases List.mem_append.1 hb with hb|hb
   .exact h b (mem_dbl hb)
   .obtain rfl:=List.mem_singleton.1 hb
    decide
theorem printA_ten{l:List Xz}(h:AttrOK l):(bm_ l).contains 10=false:=by
 refine no_ten λb hb => ?_
 unfold bm_ at hb;rcases mem_join hb with hb|⟨x,hx,hb⟩
 .obtain rfl:=List.mem_singleton.1 hb
  decide
 .obtain⟨a,ha,rfl⟩:=List.mem_map.1 hx;have hn:∀b∈a.Xh,b≠10:=λb hb=>ok_ne ((jt_ (h.nm a ha)).2 b hb) rfl (by decide)
  have hv:∀b∈a.Xv,b≠10:=λb hb e=>by
   have:=mx_ (h.pl a ha) b hb;rw[e]at this;cases this
  unfold bg_ at hb;split at hb
  .rcases List.mem_append.1 hb with hb|hb
   .exact hn b hb
   .obtain rfl:=List.mem_singleton.1 hb
    decide
  .rcases List.mem_append.1 hb with hb|hb
   .exact hn b hb
   .rcases List.mem_cons.1 hb with rfl|hb
    .decide
    .exact quote_ten hv b hb
theorem split_print{m:Xq}(h:bt_ m=0):splitK 6 (fA_ m)=[m.Xg,m.Xf,m.Xm,m.Xw,bm_ m.Xx,bF_ 20 m.Xk.length,m.Xk]:=by
 obtain⟨h1,h2,_,_⟩:=ez_ h;unfold fA_;simp only[bq_,List.cons_append,List.nil_append];rw[ei_ (h1 m.Xg (by simp)).2,ei_ (h1 m.Xf (by simp)).2,ei_ (h1 m.Xm (by simp)).2,ei_ (h1 m.Xw (by simp)).2,ei_ (printA_ten (dW_ h2)),ei_ (no_ten (digF_ten _ _))];rfl
theorem parse_print{m:Xq}(ha:AttrL m.Xx)(h:bt_ m=0):b2_ (fA_ m)=some (m,0):=by
 obtain⟨h1,h2,_,h4⟩:=ez_ h;have hl:=mv_ h;have hpl:=g7_ (dW_ h2);have hdl:=js_ 20 m.Xk.length;unfold b2_;rw[splitN_eq (by omega),split_print h];simp only[qBs];rw[show decide (([m.Xg,m.Xf,m.Xm,m.Xw,bm_ m.Xx,bF_ 20 m.Xk.length,m.Xk].length:Int)<=6)=false from rfl,cond_false];have g0:ai_ [m.Xg,m.Xf,m.Xm,m.Xw,bm_ m.Xx,bF_ 20 m.Xk.length,m.Xk] 0=some m.Xg:=rfl;have g1:ai_ [m.Xg,m.Xf,m.Xm,m.Xw,bm_ m.Xx,bF_ 20 m.Xk.length,m.Xk] 1=some m.Xf:=rfl;have g2:ai_ [m.Xg,m.Xf,m.Xm,m.Xw,bm_ m.Xx,bF_ 20 m.Xk.length,m.Xk] 2=some m.Xm:=rfl;have g3:ai_ [m.Xg,m.Xf,m.Xm,m.Xw,bm_ m.Xx,bF_ 20 m.Xk.length,m.Xk] 3=some m.Xw:=rfl
 have g4:ai_ [m.Xg,m.Xf,m.Xm,m.Xw,bm_ m.Xx,bF_ 20 m.Xk.length,m.Xk] 4=some (bm_ m.Xx):=rfl;have g5:ai_ [m.Xg,m.Xf,m.Xm,m.Xw,bm_ m.Xx,bF_ 20 m.Xk.length,m.Xk] 5=some (bF_ 20 m.Xk.length):=rfl;have g6:ai_ [m.Xg,m.Xf,m.Xm,m.Xw,bm_ m.Xx,bF_ 20 m.Xk.length,m.Xk] 6=some m.Xk:=rfl;rw[g0,g1,g2,g3,g4,g5,g6];simp only[qBs];rw[parse_eq (by omega) (PR.print h2)];simp only[qBs,bne_self_eq_false,cond_false];rw[num_eq (by omega),numR_digF h4];simp only[qBs,bne_self_eq_false,cond_false];rw[decide_eq_false (Int.lt_irrefl (m.Xk.length:Int))];simp only[cond_false];rw[eL_ (m:=Xq.mk m.Xg m.Xf m.Xm m.Xw m.Xx m.Xk) ha,show bt_ (Xq.mk m.Xg m.Xf m.Xm m.Xw m.Xx m.Xk)=0 from h]
 simp only[qBs,bne_self_eq_false,cond_false]
theorem back_true{m:Xq}(ha:bs_=some true)(h:AttrL m.Xx):cT_ m=some true:=by
 unfold cT_;obtain⟨b,hb,_⟩:=small_eq (m:=m) h.len;rw[hb];simp only[qBs];cases b with
 | false=>rw[Bool.not_false,cond_true,ha];rfl
 | true =>
  rw[Bool.not_true,cond_false,jy_ h];simp only[qBs];by_cases h0:bt_ m=0
  .rw[if_pos h0];simp only[bne_self_eq_false,cond_false];rw[parse_print h h0];simp only[qBs,beq_self_eq_true,cond_true];rw[same_refl h.len];simp only[qBs,cond_true];rw[ha];rfl
  .rw[if_neg h0];simp only[];rw[show(bt_ m != 0)=true from bne_iff_ne.2 h0,cond_true];simp only[beq_self_eq_true,cond_true];rw[ha];rfl
end Go.Proofs.YtbdcelleafhelaaGreatDoor
