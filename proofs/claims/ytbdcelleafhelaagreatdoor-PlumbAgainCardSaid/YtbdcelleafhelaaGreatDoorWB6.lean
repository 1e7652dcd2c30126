/-
 What the statements of this seat hang on,part 6: K2 K3 K4 K5 K6 K7 K8 K9 Num Fa0 Aa Ab Ac Ad Ae Af Ag Ah Ai Aj Ak Al Am An Ao Ap Aq Ar Ba Bb Bc Bd Be Bf Bg Bh Bi Bj.
-/
import Derived.Test.YtbdcelleafhelaaGreatDoorWB5
import Derived.Laws.BitsLemmas
import Derived.KernelRfl
namespace Go.Proofs.YtbdcelleafhelaaGreatDoor
open Go.Rt Go.RowKit
noncomputable section
def c_109:Con te:=ae_ te [.d .str,.d (.int .i64)] [(.sl .str,[])] false λa=>hH_ a.1 a.2.1
theorem ok_109:OKF 109 c_109:=⟨fC_ λ_=>rfl,by kernel_rfl⟩
def c_73:Con te:=ae_ te [.d .str,.d .str,.d (.int .i64),.d (.int .i64)] [(.sl .str,[])] true λa=>strings_genSplit a.1 a.2.1 a.2.2.1 a.2.2.2.1
theorem ok_73:OKF 73 c_73:=⟨ab_ ad_ (aa_ ok_82 (aa_ fF_ (aa_ ok_109 ac_))) Tryz.func73 (by kernel_rfl) (pl := .s .p (.s .p (.s .p (.j ⟨[(3,.d (.int .i64))],[],[0,1,2],[],[],5⟩ false .p (.s .p (.s .p (.s .p (.s .p (.s (.lp ⟨[(0,.d .str),(10,.d (.int .i64))],[(12,true,.row 9 .str [])],[1,2,3,9],[],[],19⟩ ⟨[(0,.d .str),(10,.d (.int .i64))],[(12,true,.row 9 .str [])],[9],[],[],19⟩ false .p) .p))))))))) λ_=>by kernel_rfl,by kernel_rfl⟩
def c_34:Con te:=ae_ te [.d .str,.d .str,.d (.int .i64)] [(.sl .str,[])] true λa=>strings_SplitN a.1 a.2.1 a.2.2.1
theorem ok_34:OKF 34 c_34:=⟨ab_ ad_ (aa_ ok_73 ac_) Tryz.func34 (by kernel_rfl) (pl := .p) λ_=>by kernel_rfl,by kernel_rfl⟩
def c_74:Con te:=ae_ te [.d (.int .u8)] [(.bool,[])] false λa=>jd_ a.1
theorem ok_74:OKF 74 c_74:=⟨ab_ ad_ ac_ Tryz.func74 (by kernel_rfl) (pl := .p) λ_=>by kernel_rfl,by kernel_rfl⟩
def c_56:Con te:=ae_ te [.d .str,.d .str] [(.bool,[])] false λa=>strings_HasPrefix a.1 a.2.1
theorem ok_56:OKF 56 c_56:=⟨ab_ ad_ (aa_ ok_99 ac_) Tryz.func56 (by kernel_rfl) (pl := .p) λ_=>by kernel_rfl,by kernel_rfl⟩
theorem e_111(a:PA te [.d .str]):h2_ a.1=e0_ Tryz.prog te eqL (ti 150 (inlF Tryz.prog te eqL (ti 104 cB_ c7_) Tryz.f150 (.p:Pl)) (ti 65 dT_ c7_)) Tryz.f111 [.d .str] [(.str,[]),(.int .i64,[]),(.bool,[])] (.s .p (.s .p (.s (.s .p (.lp ⟨[(6,.d (.int .i64))],[(3,true,.cells 94 [.sbp 3,.own 6]),(6,false,.row 5 (.int .u8) [])],[0,5],[],[],7⟩ ⟨[],[],[],[],[],6⟩ true (.s .p (.j ⟨[(6,.d (.int .i64))],[(3,true,.cells 94 [.sbp 3,.own 11]),(11,false,.row 5 (.int .u8) [])],[0,5],[],[],12⟩ true .p .p)))) .p))) a:=by kernel_rfl
def c_111:Con te:=ae_ te [.d .str] [(.str,[]),(.int .i64,[]),(.bool,[])] false λa=>h2_ a.1
theorem ok_111:OKF 111 c_111:=⟨ab_ ad_ (bZ_ ⟨dE_ ad_ (bZ_ c0_ ac_) Tryz.func150,by kernel_rfl⟩ (bZ_ d2_ ac_)) Tryz.func111 (by kernel_rfl) e_111,by kernel_rfl⟩
def c_75:Con te:=ae_ te [.d .str] [(.st 0,[]),(.int .i64,[]),(.int .i64,[])] false λa=>attr_one a.1
theorem ok_75:OKF 75 c_75:=⟨ab_ ad_ (aa_ ok_74 (aa_ ok_39 (aa_ ok_111 (aa_ ok_56 (aa_ ok_105 ac_))))) Tryz.func75 (by kernel_rfl) (pl := .s .p (.s .p (.s .p (.s .p (.j ⟨[(5,.d (.int .i64))],[(11,true,.box 50 (.st 0))],[0,2,6],[0],[],19⟩ true .p .p))))) λ_=>by kernel_rfl,by kernel_rfl⟩
def c_35:Con te:=ae_ te [.d .str] [(.sl (.st 0),[some 50]),(.int .i64,[]),(.int .i64,[])] false λa=>je_ a.1
theorem ok_35:OKF 35 c_35:=⟨ab_ ad_ (aa_ ok_76 (aa_ ok_75 (aa_ ok_74 ac_))) Tryz.func35 (by kernel_rfl) (pl := .s .p (.s .p (.s (.s .p (.lp ⟨[(5,.one (.own 5)),(6,.d (.int .i64))],[(5,false,.row 50 (.st 0) [])],[0],[],[],6⟩ ⟨[(5,.one (.own 5))],[(5,false,.row 50 (.st 0) [])],[],[],[],6⟩ true (.s .p (.s .p (.s .p (.j ⟨[(9,.d (.int .i64))],[],[0,5,6,7,8],[5,22],[],28⟩ false .p .p)))))) .p))) λ_=>by kernel_rfl,by kernel_rfl⟩
def c_77:Con te:=ae_ te [.d (.int .u8)] [(.int .i64,[])] false λa=>num_digit a.1
theorem ok_77:OKF 77 c_77:=⟨ab_ ad_ ac_ Tryz.func77 (by kernel_rfl) (pl := .p) λ_=>by kernel_rfl,by kernel_rfl⟩
def c_36:Con te:=ae_ te [.d .str,.d (.int .i64),.d (.int .i64)] [(.int .i64,[]),(.int .i64,[])] false λa=>num_Parse a.1 a.2.1 a.2.2.1
theorem ok_36:OKF 36 c_36:=⟨ab_ ad_ (aa_ ok_77 (aa_ ok_68 ac_)) Tryz.func36 (by kernel_rfl) (pl := .s .p (.s .p (.s .p (.s .p (.s (.s .p (.lp ⟨[(8,.d (.int .i64)),(32,.d (.int .i64))],[],[0,1,2,31],[],[],12013⟩ ⟨[(8,.d (.int .i64))],[],[],[],[],12013⟩ true .p)) .p))))) λ_=>by kernel_rfl,by kernel_rfl⟩
def c_13:Con te:=ae_ te [.d .str] [(.st 1,[none,none,none,none,some 50]),(.int .i64,[])] false λa=>h3_ a.1
theorem ok_13:OKF 13 c_13:=⟨ab_ ad_ (aa_ ok_15 (aa_ ok_36 (aa_ ok_35 (aa_ ok_34 ac_)))) Tryz.func13 (by kernel_rfl) (pl := .s .p (.s .p (.s .p (.s .p (.s .p (.s .p (.s .p (.s (.dr [0,0,0,0,0,0,0,0,0,0,0,0,0,0,0,0,0,1,2] [] false []) .p)))))))) λ_=>by kernel_rfl,by kernel_rfl⟩
def c_170:Con te:=ae_ te [.d .str,.d .str] [(.bool,[])] false λa=>b0_ a.1 a.2.1
theorem ok_170:OKF 170 c_170:=⟨ab_ ad_ ac_ Tryz.func170 (by kernel_rfl) (pl := .p) λ_=>by kernel_rfl,by kernel_rfl⟩
def c_136:Con te:=ae_ te [.d .str,.d .str] [(.str,[])] false λa=>bT_ a.1 a.2.1
theorem ok_136:OKF 136 c_136:=⟨ab_ ad_ (aa_ ok_170 ac_) Tryz.func136 (by kernel_rfl) (pl := .p) λ_=>by kernel_rfl,by kernel_rfl⟩
def c_98:Con te:=ae_ te [.d .str,.d .str] [(.str,[])] false λa=>strings_TrimSuffix a.1 a.2.1
theorem ok_98:OKF 98 c_98:=⟨ab_ ad_ (aa_ ok_136 ac_) Tryz.func98 (by kernel_rfl) (pl := .p) λ_=>by kernel_rfl,by kernel_rfl⟩
def c_97:Con te:=ae_ te [.d .str,.d .str] [(.sl .str,[])] true λa=>strings_Split a.1 a.2.1
theorem ok_97:OKF 97 c_97:=⟨ab_ ad_ (aa_ ok_73 ac_) Tryz.func97 (by kernel_rfl) (pl := .p) λ_=>by kernel_rfl,by kernel_rfl⟩
def c_55:Con te:=ae_ te [.d .str] [(.sl .str,[])] true λa=>d7_ a.1
theorem ok_55:OKF 55 c_55:=⟨ab_ ad_ (aa_ ok_97 (aa_ ok_98 ac_)) Tryz.func55 (by kernel_rfl) (pl := .p) λ_=>by kernel_rfl,by kernel_rfl⟩
def c_57:Con te:=ae_ te [.d (.st 3)] [(.bool,[])] false λa=>bU_ a.1
theorem ok_57:OKF 57 c_57:=⟨ab_ ad_ ac_ Tryz.func57 (by kernel_rfl) (pl := .p) λ_=>by kernel_rfl,by kernel_rfl⟩
def c_137:Con te:=ae_ te [.d .str,.d .str] [(.str,[]),(.str,[]),(.bool,[])] false λa=>cU_ a.1 a.2.1
theorem ok_137:OKF 137 c_137:=⟨ab_ ad_ (aa_ er_ ac_) Tryz.func137 (by kernel_rfl) (pl := .s .p (.s (.s .p (.s .p (.s (.s (.dr [0,0,0,0,0,0,0,0,0,0,0,0] [] false []) .p) .p))) .p)) λ_=>by kernel_rfl,by kernel_rfl⟩
def c_100:Con te:=ae_ te [.d .str,.d .str] [(.str,[]),(.str,[]),(.bool,[])] false λa=>strings_Cut a.1 a.2.1
theorem ok_100:OKF 100 c_100:=⟨ab_ ad_ (aa_ ok_137 ac_) Tryz.func100 (by kernel_rfl) (pl := .p) λ_=>by kernel_rfl,by kernel_rfl⟩
def c_58:Con te:=ae_ te [.d .str] [(.st 2,[])] false λa=>dY_ a.1
theorem ok_58:OKF 58 c_58:=⟨ab_ ad_ (aa_ ok_100 ac_) Tryz.func58 (by kernel_rfl) (pl := .p) λ_=>by kernel_rfl,by kernel_rfl⟩
def c_102:Con te:=ae_ te [.d .str] [(.sl .str,[some 9])] false λa=>bV_ a.1
theorem ok_102:OKF 102 c_102:=⟨ab_ ad_ ac_ Tryz.func102 (by kernel_rfl) (pl := .s .p (.s (.s .p (.j ⟨[(4,.d .bool)],[],[3],[],[],2⟩ false .p .p)) .p)) λ_=>by kernel_rfl,by kernel_rfl⟩
def c_138:Con te:=ae_ te [.d (.sl .str),.d .str] [(.int .i64,[])] false λa=>cK_ a.1 a.2.1
theorem ok_138:OKF 138 c_138:=⟨ab_ ad_ ac_ Tryz.func138 (by kernel_rfl) (pl := .s .p (.s (.s .p (.lp ⟨[(8,.d (.int .i64))],[],[0,1,7],[],[],4⟩ ⟨[],[],[],[],[],4⟩ true .p)) .p)) λ_=>by kernel_rfl,by kernel_rfl⟩
def c_101:Con te:=ae_ te [.d (.sl .str),.d .str] [(.bool,[])] false λa=>au_ a.1 a.2.1
theorem ok_101:OKF 101 c_101:=⟨ab_ ad_ (aa_ ok_138 ac_) Tryz.func101 (by kernel_rfl) (pl := .p) λ_=>by kernel_rfl,by kernel_rfl⟩
def c_125:Con te:=ae_ te [.bm 149 (.st 6) [none,none,none,some 126] false,.d (.st 4)] [(.int .i64,[])] false λa=>ao_ a.1 a.2.1
theorem iB_:OKF 125 c_125:=⟨ab_ ad_ ac_ Tryz.func125 (by kernel_rfl) (pl := .s .p (.s (.dr [4,0,0,0,0,0,1,2,4,4,2] [0,1,2,3,4,5] false []) .p)) λ_=>by kernel_rfl,by kernel_rfl⟩
def c_181:Con te:=ae_ te [.bm 149 (.st 6) [none,none,none,some 126] false] [(.int .u8,[]),(.bool,[])] false λa=>ba_ a.1
theorem ok_181:OKF 181 c_181:=⟨ab_ ad_ ac_ Tryz.func181 (by kernel_rfl) (pl := .s .p (.s (.s (.dr [0,0,0,0,0,0,0,0,0,0] [] false []) .p) (.s (.dr [0,0,0,0,0,0,0,0,0,0,0] [] false []) .p))) λ_=>by kernel_rfl,by kernel_rfl⟩
def c_196:Con te:=ae_ te [.bm 149 (.st 6) [none,none,none,some 126] false] [(.bool,[])] false λa=>aL_ a.1
theorem ok_196:OKF 196 c_196:=⟨ab_ ad_ ac_ Tryz.func196 (by kernel_rfl) (pl := .p) λ_=>by kernel_rfl,by kernel_rfl⟩
def c_162:Con te:=ae_ te [.bm 149 (.st 6) [none,none,none,some 126] false,.d (.int .u8)] [(.bool,[])] false λa=>aA_ a.1 a.2.1
theorem ok_162:OKF 162 c_162:=⟨ab_ ad_ (aa_ ok_181 ac_) Tryz.func162 (by kernel_rfl) (pl := .p) λ_=>by kernel_rfl,by kernel_rfl⟩
def gu_(rec0:regex_parser->Int->Option (Bool×regex_parser)):Con te:=ae_ te [.bm 149 (.st 6) [none,none,none,some 126] false,.d (.int .i64)] [(.bool,[])] false λa=>rec0 a.1 a.2.1
def cS_197(f126:regex_parser->Int->Option (Bool×regex_parser)):Con te:=ae_ te [.bm 149 (.st 6) [none,none,none,some 126] false,.d (.int .i64)] [(.bool,[])] false λa=>bj_ f126 a.1 a.2.1
theorem okS_197(f126:regex_parser->Int->Option (Bool×regex_parser))(h126:OKF 126 (gu_ f126)):OKF 197 (cS_197 f126):=⟨ab_ ad_ (aa_ ok_162 (aa_ h126 (aa_ iB_ (aa_ ok_196 ac_)))) Tryz.func197 (by kernel_rfl) (pl := .p) λ_=>by kernel_rfl,by kernel_rfl⟩
def c_199:Con te:=ae_ te [.bm 149 (.st 6) [none,none,none,some 126] false] [(.int .u8,[]),(.bool,[])] false λa=>b1_ a.1
theorem ok_199:OKF 199 c_199:=⟨ab_ ad_ (aa_ ok_196 (aa_ ok_181 ac_)) Tryz.func199 (by kernel_rfl) (pl := .p) λ_=>by kernel_rfl,by kernel_rfl⟩
def c_201:Con te:=ae_ te [.bm 149 (.st 6) [none,none,none,some 126] false] [(.int .u8,[]),(.bool,[])] false λa=>bF_ a.1
theorem ok_201:OKF 201 c_201:=⟨ab_ ad_ (aa_ ok_199 (aa_ ok_196 (aa_ ok_181 ac_))) Tryz.func201 (by kernel_rfl) (pl := .p) λ_=>by kernel_rfl,by kernel_rfl⟩
def c_198:Con te:=ae_ te [.bm 149 (.st 6) [none,none,none,some 126] false] [(.bool,[])] false λa=>df_ a.1
theorem ok_198:OKF 198 c_198:=⟨ab_ ad_ (aa_ iB_ (aa_ ok_196 (aa_ ok_201 (aa_ ok_162 ac_)))) Tryz.func198 (by kernel_rfl) (pl := .s .p (.s .p (.s (.s .p (.lp ⟨[(4,.d .bool)],[(0,true,.cells 149 [.v .str,.v (.int .i64),.v (.int .i64),.own 15,.v (.int .i64)]),(15,false,.row 126 (.st 4) []),(10,true,.box 126 (.st 4))],[0,3],[],[],16⟩ ⟨[],[(0,true,.cells 149 [.v .str,.v (.int .i64),.v (.int .i64),.own 15,.v (.int .i64)]),(15,false,.row 126 (.st 4) []),(10,true,.box 126 (.st 4))],[0,3],[],[],16⟩ true (.s (.s (.ot 0 (.free 0 (.free 1 (.spl 1 (.free 2 (.alt 3 (.free 4 (.alt 5 .nil .nil)) .nil)) (.free 2 (.alt 3 (.free 4 (.alt 5 .nil .nil)) .nil)))))) .p) (.s (.s .p (.s .p (.s .p (.j ⟨[(7,.d (.int .u8))],[(0,true,.cells 149 [.v .str,.v (.int .i64),.v (.int .i64),.own 41,.v (.int .i64)]),(41,false,.row 126 (.st 4) [])],[0,3,5,13,14,15],[10],[],42⟩ true .p .p)))) .p)))) .p))) λ_=>by kernel_rfl,by kernel_rfl⟩
def cS_188(f126:regex_parser->Int->Option (Bool×regex_parser)):Con te:=ae_ te [.bm 149 (.st 6) [none,none,none,some 126] false,.d (.int .i64)] [(.bool,[])] false λa=>ap_ f126 a.1 a.2.1
theorem okS_188(f126:regex_parser->Int->Option (Bool×regex_parser))(h126:OKF 126 (gu_ f126)):OKF 188 (cS_188 f126):=⟨ab_ ad_ (aa_ ok_199 (aa_ ok_198 (aa_ iB_ (aa_ (okS_197 f126 h126) (aa_ ok_196 (aa_ ok_181 ac_)))))) Tryz.func188 (by kernel_rfl) (pl := .s .p (.s .p (.s .p (.j ⟨[],[(0,true,.cells 149 [.v .str,.v (.int .i64),.v (.int .i64),.own 16,.v (.int .i64)]),(16,false,.row 126 (.st 4) [])],[0],[],[],17⟩ true (.s .p (.s .p (.s .p (.j ⟨[(28,.d .bool)],[],[0,5,18],[0,4],[],19⟩ false .p .p)))) .p)))) λ_=>by kernel_rfl,by kernel_rfl⟩
def c_163:Con te:=ae_ te [.bm 149 (.st 6) [none,none,none,some 126] false,.d (.int .i64),.d (.st 4)] [] false λa=>bG_ a.1 a.2.1 a.2.2.1
theorem ok_163:OKF 163 c_163:=⟨ab_ ad_ (aa_ ix_ ac_) Tryz.func163 (by kernel_rfl) (pl := .s .p (.s (.s .p (.lp ⟨[(6,.d (.int .i64))],[(1,true,.row 126 (.st 4) [])],[0,1,5],[0,2],[],6⟩ ⟨[],[(1,true,.row 126 (.st 4) [])],[0,1,5],[0,2],[],6⟩ false (.s .p (.j ⟨[],[(1,true,.row 126 (.st 4) [])],[0,1,5,6],[0,2],[],13⟩ false .p .p)))) (.dr [4,0,0,0,0,0,0,1,2,4,4,2] [0,1,2,3,4,5,6] false []))) λ_=>by kernel_rfl,by kernel_rfl⟩
def cS_182(f126:regex_parser->Int->Option (Bool×regex_parser)):Con te:=ae_ te [.bm 149 (.st 6) [none,none,none,some 126] false,.d (.int .i64)] [(.bool,[])] false λa=>aS_ f126 a.1 a.2.1
theorem okS_182(f126:regex_parser->Int->Option (Bool×regex_parser))(h126:OKF 126 (gu_ f126)):OKF 182 (cS_182 f126):=⟨ab_ ad_ (aa_ iB_ (aa_ ok_163 (aa_ ok_162 (aa_ (okS_188 f126 h126) ac_)))) Tryz.func182 (by kernel_rfl) (pl := .s .p (.s .p (.s .p (.j ⟨[],[(0,true,.cells 149 [.v .str,.v (.int .i64),.v (.int .i64),.own 17,.v (.int .i64)]),(17,false,.row 126 (.st 4) [])],[],[],[],18⟩ false (.s .p (.s (.s .p (.s .p (.dr [0,0,0,0,0,0,0,0,0,0,0,0,2] [] false []))) (.s .p (.s .p (.s .p (.s (.s .p (.dr [0,0,0,0,0,0,0,0,0,0,0,0,2] [] false [])) .p)))))) .p)))) λ_=>by kernel_rfl,by kernel_rfl⟩
def cS_161(f126:regex_parser->Int->Option (Bool×regex_parser)):Con te:=ae_ te [.bm 149 (.st 6) [none,none,none,some 126] false,.d (.int .i64)] [(.bool,[])] false λa=>bQ_ f126 a.1 a.2.1
theorem okS_161(f126:regex_parser->Int->Option (Bool×regex_parser))(h126:OKF 126 (gu_ f126)):OKF 161 (cS_161 f126):=⟨ab_ ad_ (aa_ (okS_182 f126 h126) (aa_ ok_181 ac_)) Tryz.func161 (by kernel_rfl) (pl := .s .p (.lp ⟨[],[(0,true,.cells 149 [.v .str,.v (.int .i64),.v (.int .i64),.own 3,.v (.int .i64)]),(3,false,.row 126 (.st 4) [])],[0,1],[],[],4⟩ ⟨[],[],[],[0,1],[],3⟩ true .p)) λ_=>by kernel_rfl,by kernel_rfl⟩
theorem okS_126(rec0:regex_parser->Int->Option (Bool×regex_parser))(h:OKF 126 (gu_ rec0)):OKF 126 (gu_ (bB_ rec0)):=⟨ab_ ad_ (aa_ iB_ (aa_ ok_163 (aa_ ok_162 (aa_ (okS_161 rec0 h) (aa_ h ac_))))) Tryz.func126 (by kernel_rfl) (pl := .s .p (.s .p (.s .p (.s .p (.s .p (.s .p (.s .p (.s .p (.s (.dr [0,0,0,0,0,0,0,0,0,0,0,0,2] [] false []) .p))))))))) λ_=>by kernel_rfl,by kernel_rfl⟩
theorem okN_126:∀n,OKF 126 (gu_ (ag_ n))
 | 0=>⟨fC_ λ_=>rfl,by kernel_rfl⟩
 | n+1=>okS_126 _ (okN_126 n)
def c_126:Con te:=gu_ (ag_ BIG)
theorem ok_126:OKF 126 c_126:=okN_126 BIG
def c_88:Con te:=ae_ te [.d .str] [(.st 5,[some 126]),(.int .i64,[]),(.int .i64,[])] false λa=>aC_ a.1
theorem ok_88:OKF 88 c_88:=⟨ab_ ad_ (aa_ ok_126 (aa_ iB_ ac_)) Tryz.func88 (by kernel_rfl) (pl := .s .p (.s .p (.s .p (.s .p (.s (.s .p (.s (.s (.dr [0,0,0,0,0,1,4,4] [] true [0]) .p) .p)) (.s .p (.s .p (.s (.dr [0,0,0,0,0,0,0,0,0,0,2,4,4] [] false []) .p)))))))) λ_=>by kernel_rfl,by kernel_rfl⟩
def c_59:Con te:=ae_ te [.d (.st 2)] [(.bool,[])] false λa=>dv_ a.1
theorem ok_59:OKF 59 c_59:=⟨ab_ ad_ (aa_ ok_88 (aa_ ok_39 (aa_ ok_101 (aa_ ok_102 ac_)))) Tryz.func59 (by kernel_rfl) (pl := .s .p (.s (.j ⟨[(28,.d .bool)],[],[1],[0],[],3⟩ false (.ot 0 (.free 0 (.free 3 (.alt 1 (.alt 2 (.alt 4 (.alt 5 (.free 6 (.free 7 (.spl 7 (.free 8 (.alt 9 (.free 10 (.alt 11 (.free 12 (.spl 12 (.free 13 (.alt 14 (.free 15 (.free 16 (.alt 17 (.free 18 (.spl 18 (.free 19 (.alt 20 (.alt 21 (.alt 22 .nil .nil) .nil) .nil)) (.free 19 (.alt 20 (.alt 21 (.alt 22 .nil .nil) .nil) .nil)))) .nil))) .nil)) (.free 13 (.alt 14 (.free 15 (.free 16 (.alt 17 (.free 18 (.spl 18 (.free 19 (.alt 20 (.alt 21 (.alt 22 .nil .nil) .nil) .nil)) (.free 19 (.alt 20 (.alt 21 (.alt 22 .nil .nil) .nil) .nil)))) .nil))) .nil)))) .nil)) .nil)) (.free 8 (.alt 9 (.free 10 (.alt 11 (.free 12 (.spl 12 (.free 13 (.alt 14 (.free 15 (.free 16 (.alt 17 (.free 18 (.spl 18 (.free 19 (.alt 20 (.alt 21 (.alt 22 .nil .nil) .nil) .nil)) (.free 19 (.alt 20 (.alt 21 (.alt 22 .nil .nil) .nil) .nil)))) .nil))) .nil)) (.free 13 (.alt 14 (.free 15 (.free 16 (.alt 17 (.free 18 (.spl 18 (.free 19 (.alt 20 (.alt 21 (.alt 22 .nil .nil) .nil) .nil)) (.free 19 (.alt 20 (.alt 21 (.alt 22 .nil .nil) .nil) .nil)))) .nil))) .nil)))) .nil)) .nil))))) .nil) .nil) (.alt 4 (.alt 2 (.alt 5 (.free 6 (.free 7 (.spl 7 (.free 8 (.alt 9 (.free 10 (.alt 11 (.free 12 (.spl 12 (.free 13 (.alt 14 (.free 15 (.free 16 (.alt 17 (.free 18 (.spl 18 (.free 19 (.alt 20 (.alt 21 (.alt 22 .nil .nil) .nil) .nil)) (.free 19 (.alt 20 (.alt 21 (.alt 22 .nil .nil) .nil) .nil)))) .nil))) .nil)) (.free 13 (.alt 14 (.free 15 (.free 16 (.alt 17 (.free 18 (.spl 18 (.free 19 (.alt 20 (.alt 21 (.alt 22 .nil .nil) .nil) .nil)) (.free 19 (.alt 20 (.alt 21 (.alt 22 .nil .nil) .nil) .nil)))) .nil))) .nil)))) .nil)) .nil)) (.free 8 (.alt 9 (.free 10 (.alt 11 (.free 12 (.spl 12 (.free 13 (.alt 14 (.free 15 (.free 16 (.alt 17 (.free 18 (.spl 18 (.free 19 (.alt 20 (.alt 21 (.alt 22 .nil .nil) .nil) .nil)) (.free 19 (.alt 20 (.alt 21 (.alt 22 .nil .nil) .nil) .nil)))) .nil))) .nil)) (.free 13 (.alt 14 (.free 15 (.free 16 (.alt 17 (.free 18 (.spl 18 (.free 19 (.alt 20 (.alt 21 (.alt 22 .nil .nil) .nil) .nil)) (.free 19 (.alt 20 (.alt 21 (.alt 22 .nil .nil) .nil) .nil)))) .nil))) .nil)))) .nil)) .nil))))) .nil) .nil) .nil)) (.alt 4 (.alt 1 (.alt 2 (.alt 5 (.free 6 (.free 7 (.spl 7 (.free 8 (.alt 9 (.free 10 (.alt 11 (.free 12 (.spl 12 (.free 13 (.alt 14 (.free 15 (.free 16 (.alt 17 (.free 18 (.spl 18 (.free 19 (.alt 20 (.alt 21 (.alt 22 .nil .nil) .nil) .nil)) (.free 19 (.alt 20 (.alt 21 (.alt 22 .nil .nil) .nil) .nil)))) .nil))) .nil)) (.free 13 (.alt 14 (.free 15 (.free 16 (.alt 17 (.free 18 (.spl 18 (.free 19 (.alt 20 (.alt 21 (.alt 22 .nil .nil) .nil) .nil)) (.free 19 (.alt 20 (.alt 21 (.alt 22 .nil .nil) .nil) .nil)))) .nil))) .nil)))) .nil)) .nil)) (.free 8 (.alt 9 (.free 10 (.alt 11 (.free 12 (.spl 12 (.free 13 (.alt 14 (.free 15 (.free 16 (.alt 17 (.free 18 (.spl 18 (.free 19 (.alt 20 (.alt 21 (.alt 22 .nil .nil) .nil) .nil)) (.free 19 (.alt 20 (.alt 21 (.alt 22 .nil .nil) .nil) .nil)))) .nil))) .nil)) (.free 13 (.alt 14 (.free 15 (.free 16 (.alt 17 (.free 18 (.spl 18 (.free 19 (.alt 20 (.alt 21 (.alt 22 .nil .nil) .nil) .nil)) (.free 19 (.alt 20 (.alt 21 (.alt 22 .nil .nil) .nil) .nil)))) .nil))) .nil)))) .nil)) .nil))))) .nil) .nil) .nil) .nil))))) .p) .p)) λ_=>by kernel_rfl,by kernel_rfl⟩
def c_24:Con te:=ae_ te [.d .str] [(.sl (.st 3),[some 41]),(.int .i64,[]),(.int .i64,[])] true λa=>bz_ a.1
theorem ok_24:OKF 24 c_24:=⟨ab_ ad_ (aa_ ok_59 (aa_ ok_58 (aa_ ok_57 (aa_ ok_56 (aa_ ok_55 ac_))))) Tryz.func24 (by kernel_rfl) (pl := .s .p (.s .p (.s .p (.s .p (.s (.s .p (.lp ⟨[(5,.one (.own 15)),(16,.d (.int .i64))],[(15,false,.row 41 (.st 3) []),(5,true,.cells 41 [.own 16]),(16,false,.row 66 (.st 2) [])],[6,7,14,15],[],[],17⟩ ⟨[(5,.one (.own 15))],[(15,false,.row 41 (.st 3) []),(5,true,.cells 41 [.own 16]),(16,false,.row 66 (.st 2) [])],[6,7],[],[],17⟩ true (.s .p (.s .p (.j ⟨[(5,.one (.own 18))],[(18,false,.row 41 (.st 3) []),(5,true,.cells 41 [.own 19]),(19,false,.row 66 (.st 2) [])],[6,7,14,15,16],[],[],20⟩ true .p .p))))) (.j ⟨[(5,.one (.own 17))],[(17,false,.row 41 (.st 3) [])],[],[],[],18⟩ true .p .p)))))) λ_=>by kernel_rfl,by kernel_rfl⟩
def c_45:Con te:=ae_ te [.d (.st 3)] [(.bool,[])] false λa=>dw_ a.1
theorem ok_45:OKF 45 c_45:=⟨ab_ ad_ (aa_ ok_59 ac_) Tryz.func45 (by kernel_rfl) (pl := .s .p (.s .p (.s .p (.s (.s .p (.lp ⟨[(18,.d (.int .i64))],[],[3,16,17],[],[],3014⟩ ⟨[],[],[],[],[],3014⟩ true .p)) .p)))) λ_=>by kernel_rfl,by kernel_rfl⟩
def c_46:Con te:=ae_ te [.d (.sl (.st 0))] [(.sl (.st 0),[some 50])] false λa=>aX_ a.1
theorem ok_46:OKF 46 c_46:=⟨ab_ ad_ ac_ Tryz.func46 (by kernel_rfl) (pl := .p) λa=>(congrFun fK_ a.1).symm.trans (by kernel_rfl),by kernel_rfl⟩
def c_120:Con te:=ae_ te [.bm 71 (.st 7) [] false,.d (.int .i64)] [(.str,[])] true λa=>gJ_ a.1 a.2.1
theorem ok_120:OKF 120 c_120:=⟨ab_ ad_ ac_ Tryz.func120 (by kernel_rfl) (pl := .s .p (.s (.s (.dr [0,0,0,0,0,0,0,0,0,0,0,0,0,0,0,0,0,0,0,0,0,0,0,0,0,0,0,0,0,0,0,0,0,0,0,0,0,0,0,0] [] false []) .p) (.s (.dr [0,0,0,0,0,0,0,0,0,0,0,0,0,0,0,0,0,0,0,0,0,0,0] [] false []) .p))) λ_=>by kernel_rfl,by kernel_rfl⟩
theorem e_121(a:PA te [.bm 71 (.st 7) [] false,.d .str]):eI_ a.1 a.2.1=e0_ Tryz.prog te eqL (ti 87 (inlF Tryz.prog te eqL c7_ Tryz.f87 (.p:Pl)) (tb 56 c_56 c7_)) Tryz.f121 [.bm 71 (.st 7) [] false,.d .str] [(.str,[]),(.int .i64,[])] (.s .p (.s (.s .p (.lp ⟨[(10,.d (.int .i64))],[(3,true,.row 9 .str [])],[0,1,8,9],[0],[],7⟩ ⟨[],[],[],[0],[],7⟩ true .p)) .p)) a:=by kernel_rfl
def c_121:Con te:=ae_ te [.bm 71 (.st 7) [] false,.d .str] [(.str,[]),(.int .i64,[])] true λa=>eI_ a.1 a.2.1
theorem ok_121:OKF 121 c_121:=⟨ab_ ad_ (bZ_ ⟨dE_ ad_ ac_ Tryz.func87,by kernel_rfl⟩ (aa_ ok_56 ac_)) Tryz.func121 (by kernel_rfl) e_121,by kernel_rfl⟩
theorem e_85(a:PA te [.bm 71 (.st 7) [] false,.d .str]):dg_ a.1 a.2.1=e0_ Tryz.prog te eqL (ti 64 (inlF Tryz.prog te eqL (ti 104 cB_ c7_) Tryz.f64 (.p:Pl)) (tb 121 c_121 (tb 120 c_120 (tb 56 c_56 (tb 100 c_100 (ti 65 dT_ c7_)))))) Tryz.f85 [.bm 71 (.st 7) [] false,.d .str] [(.str,[])] (.s .p (.s .p (.s (.lp ⟨[(1,.d .str)],[(0,true,.box 71 (.st 7)),(2,true,.cells 94 [.sbp 2,.own 4]),(4,false,.row 5 (.int .u8) [])],[0,5],[],[],5⟩ ⟨[],[(2,true,.cells 94 [.sbp 2,.own 4]),(4,false,.row 5 (.int .u8) []),(0,true,.box 71 (.st 7))],[5],[],[],5⟩ false .p) .p))) a:=by kernel_rfl
def c_85:Con te:=ae_ te [.bm 71 (.st 7) [] false,.d .str] [(.str,[])] true λa=>dg_ a.1 a.2.1
theorem ok_85:OKF 85 c_85:=⟨ab_ ad_ (bZ_ ⟨dE_ ad_ (bZ_ c0_ ac_) Tryz.func64,by kernel_rfl⟩ (aa_ ok_121 (aa_ ok_120 (aa_ ok_56 (aa_ ok_100 (bZ_ d2_ ac_)))))) Tryz.func85 (by kernel_rfl) e_85,by kernel_rfl⟩
def c_157:Con te:=ae_ te [.g (.sl (.st 0)) [some 50],.f1 (.st 0) .bool] [(.sl (.st 0),[])] true λa=>cV_ a.1 a.2.1
theorem ok_157:OKF 157 c_157:=⟨ab_ ad_ (aa_ ok_119 ac_) Tryz.func157 (by kernel_rfl) (pl := .s .p (.s .p (.s .p (.s (.s .p (.lp ⟨[(5,.d (.int .i64)),(6,.d (.int .i64))],[(0,true,.row 50 (.st 0) [])],[0,1],[],[],11⟩ ⟨[(5,.d (.int .i64))],[(0,true,.row 50 (.st 0) [])],[0],[],[],11⟩ false (.s .p (.j ⟨[(5,.d (.int .i64))],[(0,true,.row 50 (.st 0) [])],[0,1,6],[],[],15⟩ false .p .p)))) .p)))) λ_=>by kernel_rfl,by kernel_rfl⟩
def c_158:Con te:=ae_ te [.d (.st 0),.p .str] [(.bool,[])] false λa=>is_ a.1 a.2.1
theorem ok_158:OKF 158 c_158:=⟨ab_ ad_ ac_ Tryz.func158 (by kernel_rfl) (pl := .p) λ_=>by kernel_rfl,by kernel_rfl⟩
def c_122:Con te:=ae_ te [.d (.sl (.st 0)),.d .str] [(.sl (.st 0),[])] true λa=>ke_ a.1 a.2.1
theorem ok_122:OKF 122 c_122:=⟨ab_ ad_ (aa_ ok_158 (aa_ ok_157 (aa_ ok_46 ac_))) Tryz.func122 (by kernel_rfl) (pl := .p) λ_=>by kernel_rfl,by kernel_rfl⟩
def c_180:Con te:=ae_ te [.d (.st 0),.p .str] [(.bool,[])] false λa=>kf_ a.1 a.2.1
theorem ok_180:OKF 180 c_180:=⟨ab_ ad_ ac_ Tryz.func180 (by kernel_rfl) (pl := .p) λ_=>by kernel_rfl,by kernel_rfl⟩
def c_160:Con te:=ae_ te [.d (.sl (.st 0)),.d .str] [(.int .i64,[])] false λa=>jg_ a.1 a.2.1
theorem ok_160:OKF 160 c_160:=⟨ab_ ad_ (aa_ ok_180 (aa_ ok_119 ac_)) Tryz.func160 (by kernel_rfl) (pl := .p) λ_=>by kernel_rfl,by kernel_rfl⟩
def c_159:Con te:=ae_ te [.d (.sl (.st 0)),.d .str] [(.str,[]),(.bool,[])] false λa=>attr_Find a.1 a.2.1
theorem ok_159:OKF 159 c_159:=⟨ab_ ad_ (aa_ ok_160 ac_) Tryz.func159 (by kernel_rfl) (pl := .p) λ_=>by kernel_rfl,by kernel_rfl⟩
def c_123:Con te:=ae_ te [.d (.sl (.st 0)),.d (.sl (.st 0))] [(.bool,[])] false λa=>kg_ a.1 a.2.1
theorem ok_123:OKF 123 c_123:=⟨ab_ ad_ (aa_ ok_159 ac_) Tryz.func123 (by kernel_rfl) (pl := .s .p (.s (.s .p (.lp ⟨[(11,.d (.int .i64))],[],[0,9,10],[],[],4⟩ ⟨[],[],[],[],[],4⟩ true .p)) .p)) λ_=>by kernel_rfl,by kernel_rfl⟩
def c_124:Con te:=ae_ te [.d (.sl (.st 0)),.d .str,.d .str] [(.sl (.st 0),[some 50])] false λa=>attr_Set a.1 a.2.1 a.2.2.1
theorem ok_124:OKF 124 c_124:=⟨ab_ ad_ (aa_ ok_160 (aa_ ok_46 ac_)) Tryz.func124 (by kernel_rfl) (pl := .p) λ_=>by kernel_rfl,by kernel_rfl⟩
def c_86:Con te:=ae_ te [.bm 71 (.st 7) [] false,.d .str,.d .str] [(.bool,[])] true λa=>eJ_ a.1 a.2.1 a.2.2.1
theorem ok_86:OKF 86 c_86:=⟨ab_ ad_ (aa_ ok_124 (aa_ ok_41 (aa_ ok_123 (aa_ ok_35 (aa_ ok_122 ac_))))) Tryz.func86 (by kernel_rfl) (pl := .s .p (.s .p (.s .p (.s .p (.s .p (.s .p (.s (.s .p (.lp ⟨[(49,.d (.int .i64))],[(0,true,.cells 71 [.v .str,.v .str,.v .str,.v .str,.v (.sl (.st 0)),.v .str,.v .str,.v (.sl (.int .i64)),.v .str]),(5,true,.row 50 (.st 0) [])],[0,47,48],[],[],23⟩ ⟨[],[(0,true,.box 71 (.st 7))],[],[],[],23⟩ false (.s .p (.s .p (.s (.s .p (.dr [0,0,0,0,0,0,0,0,0,0,1,4,4,4,2] [] false [])) .p))))) .p))))))) λ_=>by kernel_rfl,by kernel_rfl⟩
def c_192:Con te:=ae_ te [.d (.int .u64),.d (.int .u64)] [(.int .u64,[]),(.int .u64,[])] false λa=>bits_Mul64 a.1 a.2.1
theorem ok_192:OKF 192 c_192:=⟨ab_ ad_ ac_ Tryz.func192 (by kernel_rfl) (pl := .p) λ_=>by kernel_rfl,by kernel_rfl⟩
def c_184:Con te:=ae_ te [.d (.int .u64),.d (.int .u64)] [(.int .u64,[]),(.int .u64,[])] false λa=>bits_Mul a.1 a.2.1
theorem ok_184:OKF 184 c_184:=⟨ab_ ad_ (aa_ ok_192 ac_) Tryz.func184 (by kernel_rfl) (pl := .p) λ_=>by kernel_rfl,by kernel_rfl⟩
def c_166:Con te:=ae_ te [.d (.sl (.int .i64)),.d (.int .i64)] [(.sl (.int .i64),[some 3])] false λa=>dS_ a.1 a.2.1
theorem ok_166:OKF 166 c_166:=⟨ab_ ad_ (aa_ ok_184 ac_) Tryz.func166 (by kernel_rfl) (pl := .s .p (.j ⟨[],[],[0,1],[],[],1⟩ false .p (.s .p (.j ⟨[],[],[0,6],[],[],12⟩ false .p (.s .p (.s .p (.s (.lp ⟨[(8,.d (.int .i64))],[(14,true,.row 3 (.int .i64) [])],[7],[],[],22⟩ ⟨[],[(14,true,.row 3 (.int .i64) [])],[7],[],[],22⟩ false (.s .p (.dr [4,0,0,0,0,0,0,2,4,4] [0,1,2,3,4,5,6] false []))) .p))))))) λ_=>by kernel_rfl,by kernel_rfl⟩
def c_128:Con te:=ae_ te [.d (.sl (.int .i64))] [(.sl (.int .i64),[some 3])] false λa=>b9_ a.1
theorem ok_128:OKF 128 c_128:=⟨ab_ ad_ ac_ Tryz.func128 (by kernel_rfl) (pl := .p) λa=>(congrFun iu_ a.1).symm.trans (by kernel_rfl),by kernel_rfl⟩
def cS_165(rec0:regex_machine->Int->(List Int)->Option regex_machine):Con te:=ae_ te [.bm 191 (.st 9) [none,none,none,none,some 3,some 196] false,.d (.int .i64),.d (.sl (.int .i64))] [] true λa=>rec0 a.1 a.2.1 a.2.2.1
theorem okS_165(rec0:regex_machine->Int->(List Int)->Option regex_machine)(h:OKF 165 (cS_165 rec0)):OKF 165 (cS_165 (fL_ rec0)):=⟨ab_ ad_ (aa_ ok_128 (aa_ h ac_)) Tryz.func165 (by kernel_rfl) (pl := .s .p (.s .p (.s .p (.s .p (.s .p (.s .p (.s .p (.s .p (.s .p (.s (.s .p (.s (.dr [0,0,0,0,0,0,0,0,2] [] false []) .p)) (.s .p (.s .p (.s .p (.s (.s (.dr [0,0,0,0,0,0,0,0,0,0] [] false []) .p) .p)))))))))))))) λ_=>by kernel_rfl,by kernel_rfl⟩
theorem okN_165:∀n,OKF 165 (cS_165 (b3_ n))
 | 0=>⟨fC_ λ_=>rfl,by kernel_rfl⟩
 | n+1=>okS_165 _ (okN_165 n)
def c_165:Con te:=cS_165 (b3_ BIG)
theorem ok_165:OKF 165 c_165:=okN_165 BIG
def c_168:Con te:=ae_ te [.d (.st 4),.d (.int .u8)] [(.bool,[])] false λa=>jy_ a.1 a.2.1
theorem ok_168:OKF 168 c_168:=⟨ab_ ad_ ac_ Tryz.func168 (by kernel_rfl) (pl := .s .p (.s (.s .p (.s .p (.s .p (.s .p (.s .p (.s .p (.s (.s .p (.s (.s .p (.lp ⟨[(5,.d .bool),(6,.d (.int .i64))],[],[1,2],[0],[],13⟩ ⟨[(5,.d .bool)],[],[2],[0],[],13⟩ false .p)) .p)) .p))))))) .p)) λ_=>by kernel_rfl,by kernel_rfl⟩
theorem e_127(a:PA te [.d (.st 5),.d .str,.d (.int .i64),.d .bool]):gs_ a.1 a.2.1 a.2.2.1 a.2.2.2.1=e0_ Tryz.prog te eqL (ti 167 (inlF Tryz.prog te eqL c7_ Tryz.f167 (.s .p (.s (.s .p (.lx ⟨[(10,.d (.int .i64))],[(257,true,.row 196 (.st 8) [])],[0,8,9],[7,256],[],266⟩ ⟨[],[(257,true,.row 196 (.st 8) [])],[],[7,256],[],266⟩ ⟨[(2,.d (.sl (.int .i64)))],[(257,true,.row 196 (.st 8) [])],[],[7,256],[],266⟩ (.s .p (.s .p (.s (.s .p (.s (.dr [0,0,0,0,0,0,0,0,0,0,0] [] false []) (.s (.s .p .rx) .p))) .p))))) .p))) (ti 164 (inlF Tryz.prog te eqL c7_ Tryz.f164 (.p:Pl)) (tb 168 c_168 (tb 165 c_165 (tb 166 c_166 c7_))))) Tryz.f127 [.d (.st 5),.d .str,.d (.int .i64),.d .bool] [(.sl (.int .i64),[]),(.int .i64,[])] (.s .p (.s .p (.s .p (.s .p (.s .p (.s .p (.lp ⟨[(11,.d (.sl (.int .i64))),(12,.d (.int .i64))],[(7,true,.cells 191 [.v (.sl (.st 4)),.v (.int .i64),.v .str,.v (.int .i64),.own 256,.own 257]),(256,false,.row 3 (.int .i64) []),(257,false,.row 196 (.st 8) [])],[1,3,4,10],[0],[],258⟩ ⟨[],[],[],[],[],256⟩ true (.j ⟨[(11,.d (.sl (.int .i64))),(12,.d (.int .i64))],[(7,true,.cells 191 [.v (.sl (.st 4)),.v (.int .i64),.v .str,.v (.int .i64),.own 256,.own 257]),(256,true,.row 3 (.int .i64) []),(257,true,.row 196 (.st 8) [])],[1,3,4,10],[0],[],258⟩ false (.s .p (.s .p (.s (.dr [0,0,0,0,0,0,0] [] false []) .p))) (.s .p (.s (.dr [0,0,0,0,0,0,0,0,0,0,0,0] [] false []) (.s .p (.s .p (.lp ⟨[(90,.d (.int .i64))],[(7,true,.cells 191 [.v (.sl (.st 4)),.v (.int .i64),.v .str,.v (.int .i64),.own 7511,.own 7512]),(7511,false,.row 3 (.int .i64) []),(7512,false,.row 196 (.st 8) []),(257,true,.row 196 (.st 8) [])],[1,3,4,10,11,12,15,88,89],[0],[],7513⟩ ⟨[],[(7,true,.cells 191 [.v (.sl (.st 4)),.v (.int .i64),.v .str,.v (.int .i64),.own 7511,.own 7512]),(7511,false,.row 3 (.int .i64) []),(7512,false,.row 196 (.st 8) [])],[1,3,4,10,11,12],[0],[],7513⟩ false (.s .p (.s .p (.j ⟨[],[(7,true,.cells 191 [.v (.sl (.st 4)),.v (.int .i64),.v .str,.v (.int .i64),.own 7514,.own 7515]),(7514,false,.row 3 (.int .i64) []),(7515,false,.row 196 (.st 8) []),(257,true,.row 196 (.st 8) [])],[1,3,4,10,11,12,15,88,89,90],[0],[],7516⟩ false .p .p)))))))))))))))) a:=by kernel_rfl
def c_127:Con te:=ae_ te [.d (.st 5),.d .str,.d (.int .i64),.d .bool] [(.sl (.int .i64),[]),(.int .i64,[])] true λa=>gs_ a.1 a.2.1 a.2.2.1 a.2.2.2.1
theorem ok_127:OKF 127 c_127:=⟨ab_ ad_ (bZ_ ⟨dE_ ad_ ac_ Tryz.func167,by kernel_rfl⟩ (bZ_ ⟨dE_ ad_ ac_ Tryz.func164,by kernel_rfl⟩ (aa_ ok_168 (aa_ ok_165 (aa_ ok_166 ac_))))) Tryz.func127 (by kernel_rfl) e_127,by kernel_rfl⟩
def c_89:Con te:=ae_ te [.d (.st 5),.d .str] [(.sl (.int .i64),[some 3]),(.bool,[])] false λa=>cO_ a.1 a.2.1
theorem ok_89:OKF 89 c_89:=⟨ab_ ad_ (aa_ ok_128 (aa_ ok_127 ac_)) Tryz.func89 (by kernel_rfl) (pl := .p) λ_=>by kernel_rfl,by kernel_rfl⟩
theorem e_47(a:PA te [.bm 71 (.st 7) [] false,.d (.st 2)]):cW_ a.1 a.2.1=e0_ Tryz.prog te eqL (ti 87 (inlF Tryz.prog te eqL c7_ Tryz.f87 (.p:Pl)) (tb 89 c_89 (tb 88 c_88 (tb 86 c_86 (tb 85 c_85 c7_))))) Tryz.f47 [.bm 71 (.st 7) [] false,.d (.st 2)] [(.bool,[])] (.s .p (.s .p (.s .p (.s .p (.s (.dr [0,0,0,0,0,2,4] [] false []) (.s .p (.s .p (.s .p (.s (.dr [0,0,0,0,1,4,4,4,4,4] [] false []) (.j ⟨[],[(0,true,.cells 71 [.v .str,.v .str,.v .str,.v .str,.v (.sl (.st 0)),.v .str,.v .str,.v (.sl (.int .i64)),.v .str])],[11],[],[],4276⟩ false .p .p)))))))))) a:=by kernel_rfl
def c_47:Con te:=ae_ te [.bm 71 (.st 7) [] false,.d (.st 2)] [(.bool,[])] true λa=>cW_ a.1 a.2.1
theorem ok_47:OKF 47 c_47:=⟨ab_ ad_ (bZ_ ⟨dE_ ad_ ac_ Tryz.func87,by kernel_rfl⟩ (aa_ ok_89 (aa_ ok_88 (aa_ ok_86 (aa_ ok_85 ac_))))) Tryz.func47 (by kernel_rfl) e_47,by kernel_rfl⟩
def c_19:Con te:=ae_ te [.d (.st 3),.d (.st 1)] [(.st 1,[]),(.str,[]),(.bool,[])] true λa=>gg_ a.1 a.2.1
theorem ok_19:OKF 19 c_19:=⟨ab_ ad_ (aa_ ok_47 (aa_ ok_46 (aa_ ok_15 (aa_ ok_45 ac_)))) Tryz.func19 (by kernel_rfl) (pl := .s .p (.s .p (.s .p (.s .p (.s (.s .p (.lp ⟨[(32,.d (.int .i64))],[(4014,true,.cells 71 [.v .str,.v .str,.v .str,.v .str,.v (.sl (.st 0)),.v .str,.v .str,.v (.sl (.int .i64)),.v .str])],[4,7,30,31],[4],[],4031⟩ ⟨[],[(4014,true,.box 71 (.st 7))],[4,7],[4],[],4031⟩ true .p)) (.s .p (.s (.dr [0,0,0,0,0,0,0,0,1,4,4] [] true [4]) .p))))))) λ_=>by kernel_rfl,by kernel_rfl⟩
theorem okS_10(f11:Xw->Option (Str×Int))(f13:Str->Option (Xw×Int))(f24:Str->Option ((List Xx)×Int×Int))(f19:Xx->Xw->Option (Xw×Str×Bool))(h11:OKF 11 (ae_ te [.d (.st 1)] [(.str,[]),(.int .i64,[])] false λa=>f11 a.1))(h13:OKF 13 (ae_ te [.d .str] [(.st 1,[none,none,none,none,some 50]),(.int .i64,[])] false λa=>f13 a.1))(h24:OKF 24 (ae_ te [.d .str] [(.sl (.st 3),[some 41]),(.int .i64,[]),(.int .i64,[])] true λa=>f24 a.1))(h19:OKF 19 (ae_ te [.d (.st 3),.d (.st 1)] [(.st 1,[]),(.str,[]),(.bool,[])] true λa=>f19 a.1 a.2.1)):OKF 10 (ae_ te [] [(.bool,[])] false λ_=>gD_ f11 f13 f24 f19):=⟨ab_ ad_ (aa_ h19 (aa_ h24 (aa_ h13 (aa_ h11 ac_)))) Tryz.func10 (by kernel_rfl) (pl := .p) λ_=>by kernel_rfl,by kernel_rfl⟩
def c_10:Con te:=ae_ te [] [(.bool,[])] false λ_=>bJ_
theorem ok_10:OKF 10 c_10:=okS_10 _ _ _ _ ok_11 ok_13 ok_24 ok_19
def c_42:Con te:=ae_ te [.d .str] [(.int .i64,[])] false λa=>g1_ a.1
theorem ok_42:OKF 42 c_42:=⟨ab_ ad_ ac_ Tryz.func42 (by kernel_rfl) (pl := .s .p (.s .p (.s (.s .p (.lp ⟨[(3,.d (.int .i64))],[],[0],[],[],5⟩ ⟨[],[],[],[],[],5⟩ true .p)) .p))) λ_=>by kernel_rfl,by kernel_rfl⟩
def c_23:Con te:=ae_ te [.d (.sl (.st 3))] [(.bool,[])] false λa=>gt_ a.1
theorem ok_23:OKF 23 c_23:=⟨ab_ ad_ ac_ Tryz.func23 (by kernel_rfl) (pl := .s .p (.s .p (.s .p (.s (.s .p (.lp ⟨[(3,.d (.int .i64)),(12,.d (.int .i64))],[],[0,11],[],[],8⟩ ⟨[],[],[],[],[],8⟩ true (.s .p (.s .p (.s (.s .p (.s .p (.s .p (.s .p (.lp ⟨[(32,.d (.int .i64))],[],[0,3,4,11,12,31],[],[],30⟩ ⟨[],[],[0,3,11,12],[],[],30⟩ true .p))))) .p))))) .p)))) λ_=>by kernel_rfl,by kernel_rfl⟩
def c_103:Con te:=ae_ te [.d .str] [(.bool,[])] false λa=>eP_ a.1
theorem ok_103:OKF 103 c_103:=⟨ab_ ad_ ac_ Tryz.func103 (by kernel_rfl) (pl := .p) λ_=>by kernel_rfl,by kernel_rfl⟩
def c_95:Con te:=ae_ te [.g (.st 10) [some 126],.d (.st 4)] [(.st 10,[some 126])] false λa=>aF_ a.1 a.2.1
theorem ok_95:OKF 95 c_95:=⟨ab_ ad_ ac_ Tryz.func95 (by kernel_rfl) (pl := .p) λ_=>by kernel_rfl,by kernel_rfl⟩
def c_131:Con te:=ae_ te [.d .str,.l (.st 10) [some 126],.d (.int .u8)] [(.bool,[])] false λa=>bk_ a.1 a.2.1 a.2.2.1
theorem ok_131:OKF 131 c_131:=⟨ab_ ad_ ac_ Tryz.func131 (by kernel_rfl) (pl := .p) λ_=>by kernel_rfl,by kernel_rfl⟩
theorem e_193(a:PA te [.d .str,.g (.st 10) [some 126]]):eQ_ a.1 a.2.1=e0_ Tryz.prog te eqL (ti 195 (inlF Tryz.prog te eqL c7_ Tryz.f195 (.p:Pl)) (tb 95 c_95 (tb 131 c_131 c7_))) Tryz.f193 [.d .str,.g (.st 10) [some 126]] [(.st 10,[some 126])] (.s .p (.s .p (.s .p (.j ⟨[],[(1,true,.cells 122 [.own 0,.v (.int .i64),.v (.int .i64),.v .bool]),(0,true,.row 126 (.st 4) []),(12,true,.box 126 (.st 4))],[0,3,4,5],[3],[],16⟩ false .p (.s .p (.s (.lp ⟨[(6,.one (.own 17))],[(1,true,.cells 122 [.own 0,.v (.int .i64),.v (.int .i64),.v .bool]),(0,true,.row 126 (.st 4) []),(17,false,.row 5 (.int .u8) [])],[0,3,4,5],[3,12],[],18⟩ ⟨[(6,.one (.own 17))],[(1,true,.cells 122 [.own 0,.v (.int .i64),.v (.int .i64),.v .bool]),(0,true,.row 126 (.st 4) []),(17,false,.row 5 (.int .u8) [])],[0,3,4,5],[3,12],[],18⟩ true (.s .p (.s .p (.j ⟨[(7,.one (.ptr 17030)),(8,.d (.int .u8))],[(0,true,.row 126 (.st 4) []),(17030,false,.cells 122 [.own 0,.v (.int .i64),.v (.int .i64),.v .bool])],[0,3,4,5,6],[1,3,12,17],[],17031⟩ false .p (.s .p (.j ⟨[(9,.d (.int .u8))],[(0,true,.row 126 (.st 4) []),(17030,true,.cells 122 [.own 0,.v (.int .i64),.v (.int .i64),.v .bool])],[0,3,4,5,6,7,8],[1,3,12,17],[],17033⟩ true (.s .p (.s (.s .p (.s .p (.s .p (.j ⟨[(9,.d (.int .u8))],[(0,true,.row 126 (.st 4) []),(17030,true,.cells 122 [.own 0,.v (.int .i64),.v (.int .i64),.v .bool])],[0,3,4,5,6,7,8,10],[1,3,12,17],[],29054⟩ false .p .p)))) .p)) .p)))))) .p)))))) a:=by kernel_rfl
def c_193:Con te:=ae_ te [.d .str,.g (.st 10) [some 126]] [(.st 10,[some 126])] false λa=>eQ_ a.1 a.2.1
theorem ok_193:OKF 193 c_193:=⟨ab_ ad_ (bZ_ ⟨dE_ ad_ ac_ Tryz.func195,by kernel_rfl⟩ (aa_ ok_95 (aa_ ok_131 ac_))) Tryz.func193 (by kernel_rfl) e_193,by kernel_rfl⟩
def c_194:Con te:=ae_ te [.d (.int .u8)] [(.bool,[])] false λa=>e2_ a.1
theorem ok_194:OKF 194 c_194:=⟨ab_ ad_ ac_ Tryz.func194 (by kernel_rfl) (pl := .s .p (.s .p (.s (.s .p (.lp ⟨[(4,.d (.int .i64))],[],[0,3],[],[],3⟩ ⟨[],[],[],[],[],3⟩ true .p)) .p))) λ_=>by kernel_rfl,by kernel_rfl⟩
def cS_94(rec0:Str->Xq->Option Xq):Con te:=ae_ te [.d .str,.g (.st 10) [some 126]] [(.st 10,[some 126])] false λa=>rec0 a.1 a.2.1
def cS_185(f94:Str->Xq->Option Xq):Con te:=ae_ te [.d .str,.g (.st 10) [some 126]] [(.st 10,[some 126])] false λa=>aV_ f94 a.1 a.2.1
theorem okS_185(f94:Str->Xq->Option Xq)(h94:OKF 94 (cS_94 f94)):OKF 185 (cS_185 f94):=⟨ab_ (tab:=(ti 195 (inlF Tryz.prog te eqL c7_ Tryz.f195 (.p:Pl)) (tb 194 c_194 (tb 193 c_193 (tb 131 c_131 (tb 94 (cS_94 f94) (tb 95 c_95 c7_))))))) ad_ (bZ_ ⟨dE_ ad_ ac_ Tryz.func195,by kernel_rfl⟩ (aa_ ok_194 (aa_ ok_193 (aa_ ok_131 (aa_ h94 (aa_ ok_95 ac_)))))) Tryz.func185 (by kernel_rfl) (pl := .s .p (.s .p (.j ⟨[],[(1,true,.cells 122 [.own 10,.v (.int .i64),.v (.int .i64),.v .bool]),(10,false,.row 126 (.st 4) [])],[3,4],[3],[],11⟩ true (.s .p (.s .p (.s .p (.s .p (.s .p (.s .p (.s .p (.s .p (.s .p (.s .p (.s .p (.s .p (.j ⟨[(7,.one (.ptr 3024)),(8,.d (.int .u8))],[(3024,false,.cells 122 [.own 0,.v (.int .i64),.v (.int .i64),.v .bool]),(0,true,.row 126 (.st 4) [])],[4],[3],[],3025⟩ false .p .p))))))))))))) .p))) λ_=>by kernel_rfl,by kernel_rfl⟩
def c_132:Con te:=ae_ te [.g (.st 10) [some 126],.d (.int .i64),.d (.st 4)] [(.st 10,[some 126])] false λa=>dG_ a.1 a.2.1 a.2.2.1
theorem ok_132:OKF 132 c_132:=⟨ab_ ad_ ac_ Tryz.func132 (by kernel_rfl) (pl := .s .p (.s .p (.s .p (.s .p (.s (.s .p (.lp ⟨[(7,.one (.own 26)),(8,.d (.int .i64))],[(0,true,.row 126 (.st 4) []),(26,false,.row 126 (.st 4) [])],[3,6],[1,5],[],27⟩ ⟨[(7,.one (.own 26))],[(0,true,.row 126 (.st 4) []),(26,false,.row 126 (.st 4) [])],[3,6],[1,5],[],27⟩ false (.s .p (.s (.s .p (.j ⟨[],[(38,true,.box 126 (.st 4))],[3,6,7,8,9],[0,1,5,26],[35],42⟩ false .p (.j ⟨[],[(38,true,.box 126 (.st 4))],[3,6,7,8,9],[0,1,5,26],[35],42⟩ false .p .p))) .p)))) .p))))) λ_=>by kernel_rfl,by kernel_rfl⟩
def cS_169(f94:Str->Xq->Option Xq):Con te:=ae_ te [.d .str,.g (.st 10) [some 126]] [(.st 10,[some 126])] false λa=>cz_ f94 a.1 a.2.1
theorem okS_169(f94:Str->Xq->Option Xq)(h94:OKF 94 (cS_94 f94)):OKF 169 (cS_169 f94):=⟨ab_ ad_ (aa_ ok_95 (aa_ ok_132 (aa_ ok_131 (aa_ (okS_185 f94 h94) ac_)))) Tryz.func169 (by kernel_rfl) (pl := .s .p (.s .p (.s .p (.j ⟨[],[(1,true,.cells 122 [.own 16,.v (.int .i64),.v (.int .i64),.v .bool]),(16,false,.row 126 (.st 4) [])],[3,4],[3],[],17⟩ false .p .p)))) λ_=>by kernel_rfl,by kernel_rfl⟩
def cS_130(f94:Str->Xq->Option Xq):Con te:=ae_ te [.d .str,.g (.st 10) [some 126]] [(.st 10,[some 126])] false λa=>dH_ f94 a.1 a.2.1
theorem okS_130(f94:Str->Xq->Option Xq)(h94:OKF 94 (cS_94 f94)):OKF 130 (cS_130 f94):=⟨ab_ ad_ (aa_ (okS_169 f94 h94) ac_) Tryz.func130 (by kernel_rfl) (pl := .s .p (.s (.lp ⟨[],[(1,true,.cells 122 [.own 5,.v (.int .i64),.v (.int .i64),.v .bool]),(5,false,.row 126 (.st 4) [])],[0,3,4],[3],[],6⟩ ⟨[],[(1,true,.cells 122 [.own 5,.v (.int .i64),.v (.int .i64),.v .bool]),(5,false,.row 126 (.st 4) [])],[3,4],[3],[],6⟩ false .p) .p)) λ_=>by kernel_rfl,by kernel_rfl⟩
theorem okS_94(rec0:Str->Xq->Option Xq)(h:OKF 94 (cS_94 rec0)):OKF 94 (cS_94 (c8_ rec0)):=⟨ab_ ad_ (aa_ ok_95 (aa_ ok_132 (aa_ ok_131 (aa_ (okS_130 rec0 h) (aa_ h ac_))))) Tryz.func94 (by kernel_rfl) (pl := .p) λ_=>by kernel_rfl,by kernel_rfl⟩
theorem okN_94:∀n,OKF 94 (cS_94 (av_ n))
 | 0=>⟨fC_ λ_=>rfl,by kernel_rfl⟩
 | n+1=>okS_94 _ (okN_94 n)
def c_94:Con te:=cS_94 (av_ BIG)
theorem ok_94:OKF 94 c_94:=okN_94 BIG
def c_52:Con te:=ae_ te [.d .str] [(.st 5,[some 126]),(.int .i64,[]),(.int .i64,[])] false λa=>cA_ a.1
theorem ok_52:OKF 52 c_52:=⟨ab_ ad_ (aa_ ok_94 (aa_ ok_95 ac_)) Tryz.func52 (by kernel_rfl) (pl := .s .p (.s .p (.s .p (.s (.s .p (.s (.s (.dr [0,0,0,1,4,4] [] true [0]) .p) .p)) .p)))) λ_=>by kernel_rfl,by kernel_rfl⟩
def c_63:Con te:=ae_ te [.d (.st 2)] [(.bool,[])] false λa=>dZ_ a.1
theorem ok_63:OKF 63 c_63:=⟨ab_ ad_ (aa_ ok_52 (aa_ ok_103 (aa_ ok_42 ac_))) Tryz.func63 (by kernel_rfl) (pl := .s .p (.s .p (.s (.s .p (.j ⟨[(17,.d .bool)],[],[1,16],[0],[],5009⟩ false .p (.s .p (.s .p (.s .p (.s .p (.s .p (.j ⟨[(49,.d .bool)],[],[1,16],[0],[],5013⟩ false .p .p)))))))) .p))) λ_=>by kernel_rfl,by kernel_rfl⟩
def c_48:Con te:=ae_ te [.d (.st 3)] [(.bool,[])] false λa=>gh_ a.1
theorem ok_48:OKF 48 c_48:=⟨ab_ ad_ (aa_ ok_63 ac_) Tryz.func48 (by kernel_rfl) (pl := .s .p (.s .p (.s .p (.s (.s .p (.lp ⟨[(4,.d (.int .i64))],[],[1,3],[0],[],3011⟩ ⟨[],[],[],[],[],3011⟩ true .p)) .p)))) λ_=>by kernel_rfl,by kernel_rfl⟩
def c_60:Con te:=ae_ te [.d .str] [(.sl .str,[some 9])] false λa=>eR_ a.1
theorem ok_60:OKF 60 c_60:=⟨ab_ ad_ ac_ Tryz.func60 (by kernel_rfl) (pl := .s .p (.s .p (.s .p (.s (.s .p (.lp ⟨[(3,.one (.own 4)),(4,.d (.int .i64)),(5,.d (.int .i64))],[(4,false,.row 9 .str [])],[0],[],[],5⟩ ⟨[(3,.one (.own 4)),(4,.d (.int .i64))],[(4,false,.row 9 .str [])],[0],[],[],5⟩ false (.s .p (.j ⟨[(3,.one (.own 9)),(4,.d (.int .i64))],[(9,false,.row 9 .str [])],[0,5],[],[],10⟩ false .p .p)))) (.j ⟨[(3,.one (.own 5))],[(5,false,.row 9 .str [])],[],[],[],6⟩ false .p .p))))) λ_=>by kernel_rfl,by kernel_rfl⟩
def c_61:Con te:=ae_ te [.d (.sl (.st 2))] [(.bool,[])] false λa=>eS_ a.1
theorem ok_61:OKF 61 c_61:=⟨ab_ ad_ ac_ Tryz.func61 (by kernel_rfl) (pl := .p) λ_=>by kernel_rfl,by kernel_rfl⟩
def c_62:Con te:=ae_ te [.d .str] [(.st 2,[])] false λa=>gi_ a.1
theorem ok_62:OKF 62 c_62:=⟨ab_ ad_ ac_ Tryz.func62 (by kernel_rfl) (pl := .s .p (.s .p (.s .p (.s (.lp ⟨[(4,.d (.int .i64))],[],[0,2,3],[0,2],[],5⟩ ⟨[(4,.d (.int .i64))],[],[0,2,3],[0,2],[],5⟩ false .p) (.s .p (.s (.lp ⟨[(5,.d (.int .i64))],[],[0,2,3,4],[0,2],[],8⟩ ⟨[(5,.d (.int .i64))],[],[0,2,3,4],[0,2],[],8⟩ false .p) (.s .p (.s (.dr [0,0,0,0,0,0,0,0,0,0,0,0,0,2] [] false []) .p)))))))) λ_=>by kernel_rfl,by kernel_rfl⟩
def c_25:Con te:=ae_ te [.d .str] [(.sl (.st 3),[some 41]),(.int .i64,[]),(.int .i64,[])] true λa=>gj_ a.1
theorem ok_25:OKF 25 c_25:=⟨ab_ ad_ (aa_ ok_63 (aa_ ok_62 (aa_ ok_61 (aa_ ok_60 ac_)))) Tryz.func25 (by kernel_rfl) (pl := .s .p (.s .p (.s .p (.s .p (.s (.s .p (.lp ⟨[(6,.one (.own 10)),(7,.one (.own 11)),(8,.d (.int .i64))],[(4,true,.row 9 .str []),(10,false,.row 41 (.st 3) []),(11,false,.row 66 (.st 2) [])],[5],[],[],12⟩ ⟨[(6,.one (.own 10))],[(10,false,.row 41 (.st 3) [])],[],[],[],11⟩ true (.s .p (.j ⟨[(6,.one (.own 16)),(7,.one (.own 17))],[(4,true,.row 9 .str []),(16,false,.row 41 (.st 3) []),(17,false,.row 66 (.st 2) [])],[5,8],[],[],18⟩ true (.s (.s (.ot 0 (.free 0 (.free 1 (.alt 2 (.free 3 (.free 4 (.spl 4 (.free 5 (.free 6 (.alt 7 (.alt 8 (.free 9 (.alt 10 .nil .nil)) .nil) .nil))) (.free 5 (.free 6 (.alt 7 (.alt 8 (.free 9 (.alt 10 .nil .nil)) .nil) .nil)))))) .nil)))) (.s (.s .p (.j ⟨[(6,.one (.own 4032))],[(4032,false,.row 41 (.st 3) [])],[5,8,23,24,25,26,27],[4],[23],4033⟩ false .p .p)) .p)) .p) .p)))) .p))))) λ_=>by kernel_rfl,by kernel_rfl⟩
theorem e_26(a:PA te [.d (.sl (.st 3))]):di_ a.1=e0_ Tryz.prog te eqL (ti 64 (inlF Tryz.prog te eqL (ti 104 cB_ c7_) Tryz.f64 (.p:Pl)) (tb 45 c_45 (ti 65 dT_ c7_))) Tryz.f26 [.d (.sl (.st 3))] [(.str,[]),(.int .i64,[])] (.s .p (.s .p (.s .p (.s (.s .p (.lp ⟨[(14,.d (.int .i64))],[(5,true,.cells 94 [.sbp 5,.own 10]),(10,false,.row 5 (.int .u8) [])],[4,12,13],[],[],11⟩ ⟨[],[(5,true,.cells 94 [.sbp 5,.own 10]),(10,false,.row 5 (.int .u8) [])],[4],[],[],11⟩ true (.s .p (.s .p (.s (.s .p (.s .p (.j ⟨[],[(5,true,.cells 94 [.sbp 5,.own 23]),(23,false,.row 5 (.int .u8) [])],[4,6,12,13,14],[15],[],24⟩ false .p (.s .p (.lp ⟨[(28,.d (.int .i64))],[(5,true,.cells 94 [.sbp 5,.own 28]),(28,false,.row 5 (.int .u8) [])],[4,12,13,14,26,27],[],[],29⟩ ⟨[],[(5,true,.cells 94 [.sbp 5,.own 28]),(28,false,.row 5 (.int .u8) [])],[4,12,13,14],[],[],29⟩ false .p))))) .p))))) .p)))) a:=by kernel_rfl
def c_26:Con te:=ae_ te [.d (.sl (.st 3))] [(.str,[]),(.int .i64,[])] false λa=>di_ a.1
theorem ok_26:OKF 26 c_26:=⟨ab_ ad_ (bZ_ ⟨dE_ ad_ (bZ_ c0_ ac_) Tryz.func64,by kernel_rfl⟩ (aa_ ok_45 (bZ_ d2_ ac_))) Tryz.func26 (by kernel_rfl) e_26,by kernel_rfl⟩
def c_27:Con te:=ae_ te [.d (.sl (.st 3))] [(.str,[]),(.int .i64,[])] false λa=>g2_ a.1
theorem ok_27:OKF 27 c_27:=⟨ab_ ad_ (aa_ ok_48 ac_) Tryz.func27 (by kernel_rfl) (pl := .s .p (.s .p (.s .p (.s (.s .p (.lp ⟨[(4,.d .str),(5,.d (.int .i64))],[],[0],[],[],7⟩ ⟨[(4,.d .str)],[],[],[],[],7⟩ true (.s .p (.s (.s .p (.j ⟨[(4,.d .str)],[],[0,5],[],[],17⟩ false .p (.s .p (.lp ⟨[(4,.d .str),(6,.d (.int .i64))],[],[0,5],[],[],18⟩ ⟨[(4,.d .str)],[],[0,5],[],[],18⟩ false .p)))) .p)))) .p)))) λ_=>by kernel_rfl,by kernel_rfl⟩
def c_28:Con te:=ae_ te [.d (.sl (.st 3)),.d (.sl (.st 3))] [(.bool,[])] false λa=>b2_ a.1 a.2.1
theorem ok_28:OKF 28 c_28:=⟨ab_ ad_ ac_ Tryz.func28 (by kernel_rfl) (pl := .s .p (.s .p (.s (.s .p (.lp ⟨[(5,.d (.int .i64))],[],[0,1],[],[],7⟩ ⟨[],[],[],[],[],7⟩ true (.s .p (.s (.s (.s (.dr [0,0,0,0,0,0,0,0,0,0,0,0,0] [] false []) .p) (.s .p (.lp ⟨[(6,.d (.int .i64))],[],[0,1,5],[],[],25⟩ ⟨[],[],[0,1,5],[],[],25⟩ true (.s .p (.s (.s (.dr [0,0,0,0,0,0,0,0,0,0,0,0,0,0,0,0,0] [] false []) .p) .p))))) .p)))) .p))) λ_=>by kernel_rfl,by kernel_rfl⟩
def c_7:Con te:=ae_ te [.d .str,.d (.sl (.st 3))] [(.bool,[])] false λa=>cY_ a.1 a.2.1
theorem ok_7:OKF 7 c_7:=⟨ab_ ad_ (aa_ ok_28 (aa_ ok_27 (aa_ ok_26 (aa_ ok_25 (aa_ ok_24 (aa_ ok_10 (aa_ ok_23 ac_))))))) Tryz.func7 (by kernel_rfl) (pl := .p) λ_=>by kernel_rfl,by kernel_rfl⟩
def c_8:Con te:=ae_ te [.d .str,.d (.sl (.st 3))] [(.bool,[])] false λa=>cZ_ a.1 a.2.1
theorem ok_8:OKF 8 c_8:=⟨ab_ ad_ (aa_ ok_28 (aa_ ok_24 (aa_ ok_26 (aa_ ok_10 (aa_ ok_23 ac_))))) Tryz.func8 (by kernel_rfl) (pl := .s .p (.s .p (.j ⟨[],[],[0],[],[],4005⟩ true .p .p))) λ_=>by kernel_rfl,by kernel_rfl⟩
end
end Go.Proofs.YtbdcelleafhelaaGreatDoor
namespace Go
namespace Rt
theorem bK_{n:Int}(h:I64 n):w64 n=n:=by
 unfold w64;rw[IntKind.wrap_i64];omega
theorem cu_{α β:Type}{x:Option α}{a:α}{f:α->Option β}{r:Option β}(h:x=some a)(hr:f a=r):x.bind f=r:=by subst h;exact hr
theorem cond_t{α:Type}{c:Bool}{A B r:α}(hc:c=true)(h:A=r):(bif c then A else B)=r:=by subst hc;exact h
theorem loopF_run{σ β:Type}{body:σ->Option (Step σ β)}(I:Nat->σ->β->Prop)
  (h0:∀s b,I 0 s b->body s=some (.done b))
  (h:∀k s b,I (k+1) s b->body s=some (.done b)\/∃s',body s=some (.next s')/\I k s' b):∀{k n:Nat} {s:σ} {b:β},I k s b->k<n->ah_ body n s=some b
 | 0,n+1,s,b,hI,_=>by simp only[ah_,h0 s b hI]
 | k+1,n+1,s,b,hI,hk=>by
  simp only[ah_];rcases h k s b hI with hd|⟨s',hn,hI'⟩
  .rw[hd]
  .rw[hn];exact loopF_run I h0 h hI' (by omega)
theorem ht_{σ β:Type}{body:σ->Option (Step σ β)}(n:Nat)(hn:n<BIG)(J:Nat->σ->β->Prop)(h0:∀s b,J n s b->body s=some (.done b))
  (h:∀i s b,i<n->J i s b->body s=some (.done b)\/∃s',body s=some (.next s')/\J (i+1) s' b) {s:σ} {b:β} (hJ:J 0 s b):ah_ body BIG s=some b:=by
 refine loopF_run (λk s b=>k<=n/\J (n-k) s b) (λs b hI=>h0 s b (by simpa using hI.2)) (λk s b hI => ?_) (k:=n) ⟨Nat.le_refl _,by simpa using hJ⟩ hn;obtain⟨hk,hI⟩:=hI;rcases h _ s b (by omega) hI with hd|⟨s',hs,hI'⟩
 .exact .inl hd
 .exact .inr ⟨s',hs,by omega,by rwa [show n-(k+1)+1=n-k by omega]at hI'⟩
theorem hJ_{σ β:Type}{body:σ->Option (Step σ β)}(T:Nat->σ)(n:Nat)(hn:n<BIG){b:β}(hs:∀i,i<n->body (T i)=some (.next (T (i+1))))(hd:body (T n)=some (.done b)):ah_ body BIG (T 0)=some b:=by
 refine ht_ (J:=λi s b'=>s=T i/\b'=b) n hn (λs b' hJ => ?_) (λi s b' hi hJ => ?_) ⟨rfl,rfl⟩
 .obtain⟨rfl,rfl⟩:=hJ;exact hd
 .obtain⟨rfl,rfl⟩:=hJ;exact .inr ⟨_,hs i hi,rfl,rfl⟩
theorem loop_all{α β:Type}{body:Int->Option (Step Int (Out Unit β))}(xs:List α)(p:α->Bool)(r:β)(hn:xs.length<BIG)
  (hb:∀i (h:i<xs.length),body (i:Int)=if p xs[i]then some (.next ((i+1:Nat):Int))else some (.done (.ret r)))
  (he:body (xs.length:Int)=some (.done (.fall ()))):ah_ body BIG 0=some (if xs.all p then .fall ()else .ret r):=by
 refine ht_ (J:=λi s b=>s=(i:Int)/\b=if(xs.drop i).all p then .fall ()else .ret r) xs.length hn (λs b hJ => ?_) (λi s b hi hJ => ?_) (by simp)
 .obtain⟨rfl,rfl⟩:=hJ;rw[he];simp
 .obtain⟨rfl,rfl⟩:=hJ;rw[hb i hi,List.drop_eq_getElem_cons hi,List.all_cons];cases hp:p xs[i]with
  | true=>exact .inr ⟨_,rfl,rfl,by simp⟩
  | false=>exact .inl (by simp)
theorem ff_{α:Type}(xs:List α)(i:Nat):aj_ xs (i:Int)=xs[i]? := by
 unfold aj_;rw[if_pos (by omega)];simp
theorem bH_{α:Type}{xs:List α}{i:Nat}(h:i<xs.length):aj_ xs (i:Int)=some xs[i]:=by
 rw[ff_,List.getElem?_eq_getElem h]
theorem dU_{s:Str}{i:Nat}(h:i<s.length):ay_ s (i:Int)=some (s[i].toNat:Int):=by
 unfold ay_;rw[bH_ h];rfl
theorem byteI_nat(s:Str)(i:Nat):ay_ s (i:Int)=s[i]?.map λb=>(b.toNat:Int):=by
 unfold ay_;rw[ff_]
theorem dJ_{a b:Str}(h:a.length+b.length<=9223372036854775807):cat a b=some (a++b):=by
 unfold cat;rw[if_pos h]
theorem bS_{α:Type}{bytes:Nat}{xs ys:List α}(h1:xs.length+ys.length<=9223372036854775807)(h2:(xs.length+ys.length)*bytes<=140737488355328):room bytes xs ys=some (xs++ys):=by
 unfold room;rw[if_pos ⟨h1,h2⟩]
theorem cv_{α:Type}{xs:List α}{lo hi:Int}(h0:0<=lo)(h1:lo<=hi)(h2:hi<=xs.length):aZ_ xs lo hi=some ((xs.take hi.toNat).drop lo.toNat):=by
 unfold aZ_;rw[if_pos ⟨h0,h1,h2⟩]
theorem makeI_eq{α:Type}{bytes:Nat}{z:α}{n:Int}(h0:0<=n)(h1:n<=9223372036854775807)(h2:bytes*n<=281474976710656):dN_ bytes z n=some (List.replicate n.toNat z):=by
 unfold dN_;rw[if_pos ⟨h0,h1,h2⟩]
theorem set_mid{α:Type}(A:List α)(k:Nat)(z v:α):(A++List.replicate (k+1) z).set A.length v=A++[v]++List.replicate k z:=by
 simp[List.replicate_succ]
theorem str_beq{a b:Str}:(a==b)=decide (a=b):=by
 rw[Bool.eq_iff_iff];simp
end Rt
end Go
namespace Go.Proofs.YtbdcelleafhelaaGreatDoor
open Go.Rt Go.RowKit
theorem aW_{σ β:Type}{body:σ->Option (Step σ β)}{s s':σ}{n:Nat}{r:Option β}(h:body s=some (.next s'))(hr:ah_ body n s'=r):ah_ body (n+1) s=r:=by
 simp only[ah_,h];exact hr
theorem aw_{σ β:Type}{body:σ->Option (Step σ β)}{s:σ}{n:Nat}{b:β}(h:body s=some (.done b)):ah_ body (n+1) s=some b:=by
 simp only[ah_,h]
def dV_{α β:Type}(g:Nat->α->Option β):Nat->List α->Option β
 | _,[]=>none
 | i,x::l=>match g i x with
  | some r=>some r
  | none=>dV_ g (i+1) l
def outO{β:Type}:Option β->Out Unit β|some r => .ret r|none => .fall ()
theorem lt_t{i n:Nat}(h:i<n):decide ((i:Int)<(n:Int))=true:=by simpa using h
theorem lt_f(n:Nat):decide ((n:Int)<(n:Int))=false:=by simp
theorem am_{i:Nat}(h:i<9223372036854775807):w64 ((i:Int)+1)=((i+1:Nat):Int):=by
 rw[bK_ ⟨by omega,by omega⟩];rfl
def stepO{β:Type}(o:Option β)(i:Nat):Step Int (Out Unit β):=match o with|some r => .done (.ret r)|none => .next ((i+1:Nat):Int)
theorem gv_{α β:Type}{body:Int->Option (Step Int (Out Unit β))}(xs:List α)(g:Nat->α->Option β)(hn:xs.length<BIG)
  (hb:∀i (h:i<xs.length),body (i:Int)=some (stepO (g i xs[i]) i))
  (he:body (xs.length:Int)=some (.done (.fall ()))):ah_ body BIG 0=some (outO (dV_ g 0 xs)):=by
 refine ht_ (J:=λi s b=>s=(i:Int)/\b=outO (dV_ g i (xs.drop i))) xs.length hn (λs b hJ => ?_) (λi s b hi hJ => ?_) (by simp)
 .obtain⟨rfl,rfl⟩:=hJ;rw[he];simp[dV_,outO]
 .obtain⟨rfl,rfl⟩:=hJ;rw[hb i hi,List.drop_eq_getElem_cons hi];simp only[dV_];cases hg:g i xs[i]with
  | some r=>exact .inl rfl
  | none=>exact .inr ⟨_,rfl,rfl,rfl⟩
theorem ji_{β:Type}{L:Option (Out Unit β)}{k:Out Unit β->Option β}{o:Option β}{x:β}(h:L=some (outO o))(h1:∀r,k (.ret r)=some r)(h2:k (.fall ())=some x):Option.bind L k=some (o.getD x):=by
 subst h;cases o with
 | some r=>exact h1 r
 | none=>exact h2
theorem scan_find{α β:Type}(p:α->Bool)(f:α->β):∀(k:Nat) (l:List α),dV_ (λ_ x=>if p x then some (f x)else none) k l=(l.find? p).map f
 | _,[]=>rfl
 | k,x::l=>by
  simp only[dV_,List.find?_cons];cases p x with
  | true=>rfl
  | false=>exact scan_find p f (k+1) l
theorem scan_idx{α:Type}(p:α->Bool):∀(k:Nat) (l:List α),dV_ (λi x=>if p x then some ((i:Nat):Int)else none) k l=(l.findIdx? p).map λi=>((k+i:Nat):Int)
 | _,[]=>rfl
 | k,x::l=>by
  simp only[dV_,List.findIdx?_cons];cases p x with
  | true=>rfl
  | false =>
   simp only[Bool.false_eq_true,if_false];rw[scan_idx p (k+1) l];cases l.findIdx? p with
   | none=>rfl
   | some i=>simp only[Option.map_some];congr 2;omega
theorem scan_none{α β:Type}{g:Nat->α->Option β}:∀{k:Nat} {l:List α},dV_ g k l=none↔∀i x,l[i]? = some x->g (k+i) x=none
 | _,[]=>⟨λ_ i x h=>by simp at h,λ_=>rfl⟩
 | k,x::l=>by
  simp only[dV_];constructor
  .intro h;split at h
   .cases h
   .rename_i h0;intro i y hy;cases i with
    | zero=>simp at hy;subst hy;exact h0
    | succ i=>have:=(scan_none (k:=k+1)).1 h i y (by simpa using hy);rwa [show k+1+i=k+(i+1)by omega]at this
  .intro h;have h0:=h 0 x rfl;rw[Nat.add_zero]at h0;rw[h0];exact scan_none.2 λi y hy=>by rw[show k+1+i=k+(i+1)by omega];exact h (i+1) y (by simpa using hy)
theorem scan_some{α β:Type}{g:Nat->α->Option β}{r:β}:∀{k:Nat} {l:List α},dV_ g k l=some r->∃i x,l[i]? = some x/\g (k+i) x=some r/\∀j y,j<i->l[j]? = some y->g (k+j) y=none
 | _,[],h=>by cases h
 | k,x::l,h=>by
  simp only[dV_]at h;split at h
  .rename_i r' h0;obtain rfl:=qSj h;exact⟨0,x,rfl,h0,λj y hj=>by omega⟩
  .rename_i h0;obtain⟨i,y,h1,h2,h3⟩:=scan_some h;refine⟨i+1,y,by simpa using h1,by rw[show k+(i+1)=k+1+i by omega];exact h2,λj q hj hq => ?_⟩;cases j with
   | zero=>simp at hq;subst hq;exact h0
   | succ j=>rw[show k+(j+1)=k+1+j by omega];exact h3 j q (by omega) (by simpa using hq)
def at_{α:Type}(p:α->Bool)(l:List α):Int:=match l.findIdx? p with|some i=>(i:Int)|none => -1
theorem at_getD{α:Type}(p:α->Bool)(l:List α):(dV_ (λi x=>if p x then some ((i:Nat):Int)else none) 0 l).getD (-1)=at_ p l:=by
 rw[scan_idx];unfold at_;cases l.findIdx? p<;>simp
theorem at_find{α:Type}(p:α->Bool)(l:List α):(l.find? p=none/\at_ p l = -1)\/∃(i:Nat) (x:α),l.find? p=some x/\at_ p l=(i:Int)/\l[i]? = some x/\p x=true/\∀j y,j<i->l[j]? = some y->p y=false:=by
 unfold at_;cases h:l.findIdx? p with
 | none =>
  refine .inl ⟨?_,rfl⟩;rw[List.find?_eq_none];intro x hx;rw[List.findIdx?_eq_none_iff]at h;simpa using h x hx
 | some i =>
  obtain⟨hlt,hp,hall⟩:=List.findIdx?_eq_some_iff_getElem.1 h;refine .inr ⟨i,l[i],?_,rfl,List.getElem?_eq_getElem hlt,hp,λj y hj hy => ?_⟩
  .rw[List.find?_eq_some_iff_getElem];exact⟨hp,i,hlt,rfl,λj hj=>by simpa using hall j hj⟩
  .have:=hall j hj;rw[List.getElem?_eq_getElem (by omega)]at hy;obtain rfl:=qSj hy;simpa using this
theorem at_neg{α:Type}(p:α->Bool)(l:List α):decide (at_ p l<0)=(l.find? p).isNone:=by
 rcases at_find p l with⟨h1,h2⟩|⟨i,x,h1,h2,_⟩
 .rw[h1,h2];rfl
 .rw[h1,h2];simp
theorem cp_{n:Nat}(h:n<=9223372036854775807):n<BIG:=by unfold BIG;omega
theorem hasPre(s p:Str):bb_ s p=some (s.take p.length==p):=by
 unfold bb_;by_cases h:p.length<=s.length
 .rw[show decide ((s.length:Int)>=(p.length:Int))=true by simpa using h];simp only[cond_true];rw[cv_ (Int.le_refl 0) (by omega) (by omega)];simp
 .rw[show decide ((s.length:Int)>=(p.length:Int))=false by simpa using h];simp only[cond_false,qBs];have:(s.take p.length==p)=false:=by
   rw[str_beq];refine decide_eq_false λe => ?_
   have:=congrArg List.length e;rw[List.length_take]at this;omega
  rw[this]
theorem idxB_range(s:Str)(c:UInt8):cS_ s c = -1\/(0<=cS_ s c/\cS_ s c<s.length):=by
 induction s with
 | nil=>exact .inl rfl
 | cons b l ih =>
  simp only[cS_];split
  .exact .inr ⟨Int.le_refl 0,by simp only[qLc];omega⟩
  .split
   .exact .inl rfl
   .rename_i h1 h2;rcases ih with ih|ih
    .exact absurd (by rw[ih];rfl) h2
    .exact .inr ⟨by omega,by simp only[qLc];omega⟩
theorem idxB_iff(s:Str)(c:UInt8):0<=cS_ s c↔s.contains c=true:=by
 induction s with
 | nil=>exact⟨λh=>absurd (show(0:Int) <= -1 from h) (by decide),λh=>by cases h⟩
 | cons b l ih =>
  have e:cS_ (b::l) c=if b==c then 0 else if cS_ l c == -1 then -1 else cS_ l c+1:=rfl
  rw[e,List.contains_cons];by_cases hb:b=c
  .subst hb;simp
  .have h1:(b==c)=false:=beq_eq_false_iff_ne.2 hb;have h2:(c==b)=false:=beq_eq_false_iff_ne.2 λe=>hb e.symm
   rw[h1,h2,Bool.false_or,←ih];rcases idxB_range l c with h|⟨h,_⟩
   .rw[h];simp
   .have h3:(cS_ l c == -1)=false:=beq_eq_false_iff_ne.2 (by omega);rw[h3];simp only[Bool.false_eq_true,if_false];omega
theorem idxB_ge(s:Str)(c:UInt8):decide (cS_ s c>=0)=s.contains c:=by
 cases h:s.contains c with
 | true=>exact decide_eq_true ((idxB_iff s c).2 h)
 | false=>exact decide_eq_false λh2=>by rw[(idxB_iff s c).1 h2]at h;cases h
theorem contains_eq(s:Str)(c:UInt8):strings_Contains s [c]=some (s.contains c):=by
 unfold strings_Contains strings_Index stringslite_Index;simp only[qBs];rw[idxB_ge]
def af_(p:Str)(s:Str):Nat:=(s.takeWhile λb => !(p.contains b)).length
theorem untilN_le(p s:Str):af_ p s<=s.length:=by
 unfold af_;exact List.Sublist.length_le (List.takeWhile_sublist _)
theorem at_any{α:Type}(p:α->Bool)(l:List α):decide (at_ p l>=0)=l.any p:=by
 have:=at_neg p l;have h2:decide (at_ p l>=0) = !(decide (at_ p l<0)):=by
  by_cases h:at_ p l<0
  .rw[decide_eq_true h,decide_eq_false (by omega)];rfl
  .rw[decide_eq_false h,decide_eq_true (by omega)];rfl
 rw[h2,this];cases hf:l.find? p with
 | none =>
  rw[List.find?_eq_none]at hf
  symm;simp only[Option.isNone_none,Bool.not_true,List.any_eq_false];exact hf
 | some x =>
  symm;simp only[Option.isNone_some,Bool.not_false,List.any_eq_true];exact⟨x,List.mem_of_find?_eq_some hf,List.find?_some hf⟩
def textE(s:Str):Int:=if s.length>1024 then 4 else if s.contains 10 then 2 else 0
theorem refText_eq(s:Str):g1_ s=some (textE s):=by
 unfold g1_ textE;by_cases h:s.length>1024
 .rw[decide_eq_true (show(s.length:Int)>1024 by omega),if_pos h];rfl
 .rw[decide_eq_false (show ¬(s.length:Int)>1024 by omega),if_neg h,cond_false];have hl:=loop_all (body:=e1_ s) s (λb => !(b==10)) (2:Int) (cp_ (by omega)) (λi hi=>by
   unfold e1_;rw[lt_t hi,cond_true,dU_ hi];simp only[qBs];have hc:((s[i].toNat:Int)==10)=(s[i]==10):=by
    rw[Bool.eq_iff_iff,beq_iff_eq,beq_iff_eq];exact⟨λe=>UInt8.toNat_inj.1 (show s[i].toNat=10 by omega),λe=>by rw[e];rfl⟩
   rw[hc];cases s[i]==10 with
   | true=>rfl
   | false =>
    simp only[cond_false,Bool.not_false,if_true];rw[am_ (by omega)]) (by
   unfold e1_;rw[lt_f];rfl)
  refine cu_ hl ?_;have:s.contains 10 = !(s.all λb => !(b==10)):=by
   rw[List.contains_eq_any_beq,List.all_eq_not_any_not];simp only[Bool.not_not]
   congr 1
   funext b
   rw[Bool.eq_iff_iff,beq_iff_eq,beq_iff_eq];exact eq_comm
  rw[this];cases s.all λb => !(b==10)<;>rfl
theorem ci_{c:UInt8}{s:Str}(h:s.contains c=true):s=s.take (af_ [c] s)++c::s.drop (af_ [c] s+1)/\(s.take (af_ [c] s)).contains c=false/\cS_ s c=((af_ [c] s:Nat):Int)/\af_ [c] s<s.length:=by
 induction s with
 | nil=>cases h
 | cons b t ih =>
  by_cases hb:b=c
  .subst hb;have hu:af_ [b] (b::t)=0:=by
    unfold af_;rw[List.takeWhile_cons];simp
   rw[hu];refine⟨rfl,rfl,?_,by simp⟩;simp[cS_]
  .have h1:(b==c)=false:=beq_eq_false_iff_ne.2 hb;have h2:(c==b)=false:=beq_eq_false_iff_ne.2 λe=>hb e.symm
   rw[List.contains_cons,h2,Bool.false_or]at h;obtain⟨i1,i2,i3,i4⟩:=ih h;have hu:af_ [c] (b::t)=af_ [c] t+1:=by
    unfold af_;rw[List.takeWhile_cons];simp[hb]
   rw[hu];refine⟨?_,?_,?_,by simp only[qLc];omega⟩
   .rw[List.take_succ_cons,List.drop_succ_cons,List.cons_append,←i1]
   .rw[List.take_succ_cons,List.contains_cons,h2,i2];rfl
   .have e:cS_ (b::t) c=if b==c then 0 else if cS_ t c == -1 then -1 else cS_ t c+1:=rfl
    rw[e,h1,i3,show(((af_ [c] t:Nat):Int) == -1)=false from beq_eq_false_iff_ne.2 (by omega)];simp only[Bool.false_eq_true,if_false];omega
theorem count_pos{c:UInt8}{s:Str}(h:0<s.count c):s.contains c=true:=by
 rw[List.contains_iff_mem];exact List.count_pos_iff.1 h
theorem mt_{c:UInt8}{s:Str}(h:s.contains c=false):s.count c=0:=by
 rcases Nat.eq_zero_or_pos (s.count c)with h0|h0
 .exact h0
 .rw[count_pos h0]at h;cases h
theorem h4_(s:Str):bytesS (aG_ s)=s:=by
 unfold bytesS aG_;rw[List.map_map]
 conv=>rhs;rw[←List.map_id s]
 apply List.map_congr_left;intro b _;simp
theorem strI_app(a b:Str):aG_ (a++b)=aG_ a++aG_ b:=List.map_append
theorem c1_(s:Str):(aG_ s).length=s.length:=List.length_map _
theorem bw_(b k:UInt8):((b.toNat:Int)==(k.toNat:Int))=(b==k):=by
 rw[Bool.eq_iff_iff,beq_iff_eq,beq_iff_eq];exact⟨λe=>UInt8.toNat_inj.1 (by omega),λe=>by rw[e]⟩
theorem hL_{α:Type}{l:List α}{i:Nat}(h:i<l.length):l.take (i+1)=l.take i++[l[i]]:=by
 rw[List.take_succ_eq_append_getElem h]
def g4_(sep:Str):List Str->Str | []=>[] | [x]=>x|x::y::l=>x++(sep++g4_ sep (y::l))
theorem join_snoc(sep x:Str):∀(l:List Str),l≠[]->g4_ sep (l++[x])=g4_ sep l++(sep++x)
 | [],h=>absurd rfl h
 | [y],_=>rfl
 | y::z::l,_=>by
  have ih:=join_snoc sep x (z::l) (by simp);simp only[List.cons_append,g4_]at ih ⊢;rw[ih];simp[List.append_assoc]
theorem join_len(sep:Str):∀(l:List Str),(g4_ sep l).length=l.flatten.length+sep.length*(l.length-1)
 | []=>rfl
 | [x]=>by simp[g4_]
 | x::y::l=>by
  have ih:=join_len sep (y::l);simp only[g4_,qLa,List.flatten_cons,qLc]at ih ⊢;rw[ih];have:sep.length*(l.length+1+1-1)=sep.length+sep.length*(l.length+1-1):=by
   rw[show l.length+1+1-1=(l.length+1-1)+1 by omega,Nat.mul_succ];omega
  rw[this];omega
def splitK:Nat->Str->List Str | 0,s=>[s]|k+1,s=>if s.contains 10 then s.take (af_ [10] s)::splitK k (s.drop (af_ [10] s+1))else[s]
theorem kY_{k:Nat}{s:Str}(h:s.contains 10=false):splitK k s=[s]:=by
 cases k with
 | zero=>rfl
 | succ k=>unfold splitK;rw[h];rfl
theorem mu_{k:Nat}{s:Str}(h:s.contains 10=true):splitK (k+1) s=s.take (af_ [10] s)::splitK k (s.drop (af_ [10] s+1)):=by
 conv=>lhs;unfold splitK
 rw[if_pos h]
theorem set_rep{α:Type}(A:List α)(k:Nat)(z v:α):(A++List.replicate (k+1) z).set A.length v=A++[v]++List.replicate k z:=set_mid A k z v
theorem h5_{c:UInt8}:∀{t:Str} {n:Nat},(t.take n).contains c=false->t[n]? = some c->af_ [c] t=n/\t.contains c=true
 | [],n,_,h=>by simp at h
 | b::t,0,_,h=>by
  have hb:b=c:=by simpa using h
  subst hb;constructor
  .unfold af_;rw[List.takeWhile_cons];simp
  .rw[List.contains_cons];simp
 | b::t,n+1,h1,h2=>by
  rw[List.take_succ_cons,List.contains_cons,Bool.or_eq_false_iff]at h1;obtain⟨h3,h4⟩:=h5_ (t:=t) (n:=n) h1.2 (by simpa using h2);have hbc:b≠c:=λe=>by
   have:=h1.1;rw[e]at this;simp at this
  constructor
  .unfold af_ at h3 ⊢;rw[List.takeWhile_cons];have:([c]:Str).contains b=false:=by
    rw[List.contains_cons,List.contains_nil,Bool.or_false];exact beq_eq_false_iff_ne.2 hbc
   rw[this];simp only[Bool.not_false,if_true,qLc,h3]
  .rw[List.contains_cons,h4,Bool.or_true]
theorem until_app{p a t:Str}{c:UInt8}(h:∀b∈a,p.contains b=false)(hc:p.contains c=true):af_ p (a++c::t)=a.length:=by
 unfold af_
 induction a with
 | nil=>rw[List.nil_append,List.takeWhile_cons,hc];rfl
 | cons b a ih =>
  rw[List.cons_append,List.takeWhile_cons,h b (by simp)];simp only[Bool.not_false,if_true,qLc];rw[ih λx hx=>h x (List.mem_cons_of_mem _ hx)]
theorem until_app0{p a:Str}(h:∀b∈a,p.contains b=false):af_ p a=a.length:=by
 unfold af_
 induction a with
 | nil=>rfl
 | cons b a ih =>
  rw[List.takeWhile_cons,h b (by simp)];simp only[Bool.not_false,if_true,qLc];rw[ih λx hx=>h x (List.mem_cons_of_mem _ hx)]
theorem splitK_app{k:Nat}{x t:Str}(hx:x.contains 10=false):splitK (k+1) (x++10::t)=x::splitK k t:=by
 obtain⟨h1,h2⟩:=h5_ (c:=10) (t:=x++10::t) (n:=x.length) (by rwa [List.take_left]) (by rw[List.getElem?_append_right (Nat.le_refl _),Nat.sub_self];rfl);rw[mu_ h2,h1,List.take_left,show x++10::t=(x++[10])++t by simp,List.drop_left' (by simp)]
theorem no_ten{s:Str}(h:∀b∈s,b≠10):s.contains 10=false:=by
 apply Bool.eq_false_iff.2;intro e;exact h 10 (by simpa using e) rfl
inductive CR|err (p:Nat)|ok (b:UInt8) (q:Nat)
inductive PR2|err (p:Nat)|ok (a b:UInt8) (q:Nat)
inductive SR|err (p:Nat)|ok (set:Str) (q:Nat)
def escB(d:UInt8):UInt8:=if d=110 then 10 else if d=116 then 9 else d
def escS(s:Str)(i:Nat):CR:=match s[i+1]? with|none => .err (i+1)|some d => .ok (escB d) (i+2)
def chS(s:Str)(i:Nat):CR:=match s[i]? with|none => .err i|some c=>if c=93\/c=45 then .err i else if c=92 then escS s i else .ok c (i+1)
def dW_(s:Str)(i:Nat):PR2:=match chS s i with
 | .err e => .err e
 | .ok a p=>if s[p]? = some 45 then(match chS s (p+1)with
   | .err e => .err e
   | .ok b q=>if b.toNat<a.toNat then .err (q-1)else .ok a b q)
  else .ok a a p
inductive Cx(s:Str):Nat->Str->SR->Prop
 | done {i set} (h0:set≠[]) (h:s[i]? = some 93):Cx s i set (.ok set (i+1))
 | err {i set e} (h0:¬(set≠[]/\s[i]? = some 93)) (h:dW_ s i = .err e):Cx s i set (.err e)
 | next {i set a b q r} (h0:¬(set≠[]/\s[i]? = some 93)) (h:dW_ s i = .ok a b q) (t:Cx s q (set++[a,b]) r):Cx s i set r
theorem as_{s:Str}{i:Nat}{c:UInt8}(h:s[i]? = some c):i<s.length:=by
 rcases Nat.lt_or_ge i s.length with h1|h1
 .exact h1
 .rw[List.getElem?_eq_none h1]at h;cases h
theorem escS_len{s:Str}{i:Nat}{b:UInt8}{q:Nat}(h:escS s i = .ok b q):i<q/\q<=s.length:=by
 unfold escS at h;split at h
 .cases h
 .rename_i d hd;have:=as_ hd;injection h with _ h;omega
theorem escS_err{s:Str}{i e:Nat}(hi:i<s.length)(h:escS s i = .err e):e<=s.length:=by
 unfold escS at h;split at h
 .injection h;omega
 .cases h
theorem fs_{s:Str}{i:Nat}{b:UInt8}{q:Nat}(h:chS s i = .ok b q):i<q/\q<=s.length:=by
 unfold chS at h;split at h
 .cases h
 .rename_i c hc;have:=as_ hc;split at h
  .cases h
  .split at h
   .exact escS_len h
   .injection h with _ h;omega
theorem chS_err{s:Str}{i e:Nat}(hi:i<=s.length)(h:chS s i = .err e):e<=s.length:=by
 unfold chS at h;split at h
 .injection h;omega
 .rename_i c hc;have:=as_ hc;split at h
  .injection h;omega
  .split at h
   .exact escS_err (by omega) h
   .cases h
theorem hM_{s:Str}{i:Nat}{a b:UInt8}{q:Nat}(h:dW_ s i = .ok a b q):i<q/\q<=s.length:=by
 unfold dW_ at h;split at h
 .cases h
 .rename_i a p h1;have:=fs_ h1;split at h
  .split at h
   .cases h
   .rename_i b q h2;have:=fs_ h2;split at h
    .cases h
    .injection h with _ _ h;omega
  .injection h with _ _ h;omega
theorem pairS_err{s:Str}{i e:Nat}(hi:i<=s.length)(h:dW_ s i = .err e):e<=s.length:=by
 unfold dW_ at h;split at h
 .rename_i h1;injection h with h;have:=chS_err hi h1;omega
 .rename_i a p h1;have:=fs_ h1;split at h
  .rename_i h45;have:=as_ h45;split at h
   .rename_i h2;injection h with h;have:=chS_err (by omega) h2;omega
   .rename_i b q h2;have:=fs_ h2;split at h
    .injection h;omega
    .cases h
  .cases h
theorem Cx.ex{s:Str}:∀(k i:Nat) (set:Str),s.length-i<=k->i<=s.length->∃r,Cx s i set r:=by
 intro k
 induction k with
 | zero =>
  intro i set hk hi;have hn:s[i]? = none:=List.getElem?_eq_none (by omega);refine⟨_,.err (e:=i) (λh=>by rw[hn]at h;cases h.2) ?_⟩;unfold dW_ chS;rw[hn]
 | succ k ih =>
  intro i set hk hi;by_cases h0:set≠[]/\s[i]? = some 93
  .exact⟨_,.done h0.1 h0.2⟩
  .cases hp:dW_ s i with
   | err e=>exact⟨_,.err h0 hp⟩
   | ok a b q =>
    have:=hM_ hp;obtain⟨r,hr⟩:=ih q (set++[a,b]) (by omega) (by omega);exact⟨r,.next h0 hp hr⟩
theorem Cx.len{s:Str}{i:Nat}{set:Str}{r:SR}(h:Cx s i set r):(∀e,r = .err e->i<=s.length->e<=s.length)/\∀x q,r = .ok x q->i<q/\q<=s.length/\x.length+2*(s.length-q)<=set.length+2*(s.length-i):=by
 induction h with
 | done h0 h =>
  refine⟨λe he=>(by cases he),λx q he => ?_⟩;injection he with h1 h2;subst h1;subst h2;have:=as_ h;omega
 | err h0 h =>
  refine⟨λe' he hi => ?_,λx q he=>(by cases he)⟩;injection he with he;have:=pairS_err hi h;omega
 | next h0 h t ih =>
  have hq:=hM_ h;refine⟨λe he hi=>ih.1 e he (by omega),λx q' he => ?_⟩;obtain⟨k1,k2,k5⟩:=ih.2 x q' he;simp only[qLa,qLc,List.length_nil]at k5;omega
def ps(s:Str)(i g:Nat)(C:List Xz)(bad:Int):regex_parser:=regex_parser.mk s (i:Int) (g:Int) C bad
theorem bq_{s:Str}{i g:Nat}{C:List Xz}{bad:Int}{c:UInt8}(h:s[i]? = some c):ba_ (ps s i g C bad)=some ((c.toNat:Int),true,ps s i g C bad):=by
 have hi:=as_ h;unfold ba_ ps;simp only[];rw[decide_eq_false (by omega),cond_false,dU_ hi];simp only[qBs];rw[List.getElem?_eq_getElem hi]at h;rw[qSj h]
theorem hN_{s:Str}{i g:Nat}{C:List Xz}{bad:Int}(h:s[i]? = none):ba_ (ps s i g C bad)=some (0,false,ps s i g C bad):=by
 unfold ba_ ps;simp only[];rw[decide_eq_true (by have:=List.getElem?_eq_none_iff.1 h;omega)];rfl
theorem f4_{s:Str}{i g:Nat}{C:List Xz}{bad:Int}(hs:s.length<=1000){c:UInt8}{k:Int}(hk:k=(c.toNat:Int)):aA_ (ps s i g C bad) k=some (if s[i]? = some c then(true,ps s (i+1) g C bad)else(false,ps s i g C bad)):=by
 subst hk;unfold aA_;cases h:s[i]? with
 | none =>
  rw[hN_ h];simp
 | some d =>
  have hi:=as_ h;rw[bq_ h];simp only[qBs,Bool.not_true,Bool.false_or];by_cases hd:d=c
  .subst hd;rw[bne_self_eq_false,cond_false,if_pos rfl];unfold ps;simp only[];rw[am_ (by omega)]
  .rw[show((d.toNat:Int) != (c.toNat:Int))=true from bne_iff_ne.2 λe=>hd (UInt8.toNat_inj.1 (by omega)),cond_true,if_neg λe=>hd (qSj e)]
theorem mv_{s:Str}{i g:Nat}{C:List Xz}{bad:Int}(hs:s.length<=1000)(hi:i<s.length):b1_ (ps s i g C bad)=some (match escS s i with
  | .err e=>(0,false,ps s e g C (e:Int))
  | .ok b q=>((b.toNat:Int),true,ps s q g C bad)):=by
 unfold b1_ escS;have e1:regex_parser.mk (ps s i g C bad).s_ (w64 ((ps s i g C bad).at_+1)) (ps s i g C bad).groups_ (ps s i g C bad).code_ (ps s i g C bad).bad_=ps s (i+1) g C bad:=by
  unfold ps;simp only[];rw[am_ (by omega)]
 rw[e1];cases h:s[i+1]? with
 | none =>
  rw[hN_ h];rfl
 | some d =>
  have hlt:=as_ h;rw[bq_ h];simp only[qBs,Bool.not_true,cond_false];have k1:((d.toNat:Int)==110)=(d==110):=bw_ d 110;have k2:((d.toNat:Int)==116)=(d==116):=bw_ d 116;have e2:regex_parser.mk (ps s (i+1) g C bad).s_ (w64 ((ps s (i+1) g C bad).at_+1)) (ps s (i+1) g C bad).groups_ (ps s (i+1) g C bad).code_ (ps s (i+1) g C bad).bad_=ps s (i+2) g C bad:=by
   unfold ps;simp only[];rw[am_ (by omega)]
  rw[k1,k2,e2];unfold escB;by_cases h1:d=110
  .subst h1;rfl
  .rw[beq_eq_false_iff_ne.2 h1,if_neg h1,cond_false];by_cases h2:d=116
   .subst h2;rfl
   .rw[beq_eq_false_iff_ne.2 h2,if_neg h2,cond_false]
theorem kO_{s:Str}{i g:Nat}{C:List Xz}{bad:Int}(hs:s.length<=1000):bF_ (ps s i g C bad)=some (match chS s i with
  | .err e=>(0,false,ps s e g C (e:Int))
  | .ok b q=>((b.toNat:Int),true,ps s q g C bad)):=by
 unfold bF_ chS;cases h:s[i]? with
 | none =>
  rw[hN_ h];rfl
 | some d =>
  have hlt:=as_ h;rw[bq_ h];simp only[qBs,Bool.not_true,Bool.false_or];have k1:((d.toNat:Int)==93)=(d==93):=bw_ d 93;have k2:((d.toNat:Int)==45)=(d==45):=bw_ d 45;have k3:((d.toNat:Int)==92)=(d==92):=bw_ d 92;rw[k1,k2,k3];by_cases h1:d=93\/d=45
  .rw[if_pos h1,show((d==93)||(d==45))=true by rcases h1 with rfl|rfl<;>rfl];rfl
  .rw[if_neg h1,show((d==93)||(d==45))=false by
    rw[Bool.or_eq_false_iff,beq_eq_false_iff_ne,beq_eq_false_iff_ne];exact⟨λe=>h1 (.inl e),λe=>h1 (.inr e)⟩,cond_false]
   by_cases h2:d=92
   .subst h2;rw[if_pos rfl,beq_self_eq_true,cond_true,mv_ hs hlt];cases escS s i<;>rfl
   .rw[if_neg h2,beq_eq_false_iff_ne.2 h2,cond_false];unfold ps;simp only[];rw[am_ (by omega)]
def setI(set:Str)(n:Bool):Xz:=Xz.mk 3 0 set n 0 0
theorem mw_{s:Str}{i g:Nat}{C:List Xz}{bad:Int}(hs:s.length<=1000){set:Str}{n fst:Bool}(hset:set.length<=100000)(hf:fst=true\/s[i]? ≠ some 93):bP_ (fst,s,(i:Int),(g:Int),bad,C,setI set n)=some (match dW_ s i with
  | .err e => .done (.ret (false,ps s e g C (e:Int)))
  | .ok a b q => .next (false,s,(q:Int),(g:Int),bad,C,setI (set++[a,b]) n)):=by
 have e0:regex_parser.mk s (i:Int) (g:Int) C bad=ps s i g C bad:=rfl;have key:∀(a b:UInt8),(cat set (bytesS [(a.toNat:Int),(b.toNat:Int)]))=some (set++[a,b]):=λa b=>by
  have:bytesS [(a.toNat:Int),(b.toNat:Int)]=[a,b]:=h4_ [a,b];rw[this,dJ_ (by simp only[qLc,List.length_nil];omega)]
 unfold bP_;simp only[];rw[e0];unfold dW_;cases fst with
 | true =>
  rw[cond_true,kO_ hs];simp only[qBs];cases h1:chS s i with
  | err e=>rfl
  | ok a p =>
   simp only[Bool.not_true,cond_false];rw[f4_ hs (c:=45) (k:=45) rfl];by_cases h2:s[p]? = some 45
   .rw[if_pos h2,if_pos h2];simp only[qBs,cond_true];rw[kO_ hs];simp only[qBs];cases h3:chS s (p+1)with
    | err e=>rfl
    | ok b q =>
     have hq:=fs_ h3;simp only[Bool.not_true,cond_false];by_cases h4:b.toNat<a.toNat
     .rw[if_pos h4,decide_eq_true (by omega),cond_true];unfold aL_ ps;simp only[qBs];rw[bK_ ⟨by omega,by omega⟩,show(q:Int)-1=((q-1:Nat):Int)by omega]
     .rw[if_neg h4,decide_eq_false (by omega),cond_false];simp only[qBs];unfold setI ps;simp only[];rw[key];rfl
   .rw[if_neg h2,if_neg h2];simp only[qBs,cond_false];unfold setI ps;simp only[];rw[key];rfl
 | false =>
  have h93:s[i]? ≠ some 93:=hf.resolve_left (by decide);rw[cond_false,f4_ hs (c:=93) (k:=93) rfl,if_neg h93];simp only[qBs,Bool.not_false,cond_true];rw[kO_ hs];simp only[qBs];cases h1:chS s i with
  | err e=>rfl
  | ok a p =>
   simp only[Bool.not_true,cond_false];rw[f4_ hs (c:=45) (k:=45) rfl];by_cases h2:s[p]? = some 45
   .rw[if_pos h2,if_pos h2];simp only[qBs,cond_true];rw[kO_ hs];simp only[qBs];cases h3:chS s (p+1)with
    | err e=>rfl
    | ok b q =>
     have hq:=fs_ h3;simp only[Bool.not_true,cond_false];by_cases h4:b.toNat<a.toNat
     .rw[if_pos h4,decide_eq_true (by omega),cond_true];unfold aL_ ps;simp only[qBs];rw[bK_ ⟨by omega,by omega⟩,show(q:Int)-1=((q-1:Nat):Int)by omega]
     .rw[if_neg h4,decide_eq_false (by omega),cond_false];simp only[qBs];unfold setI ps;simp only[];rw[key];rfl
   .rw[if_neg h2,if_neg h2];simp only[qBs,cond_false];unfold setI ps;simp only[];rw[key];rfl
def clsO(s:Str)(g:Nat)(C:List Xz)(bad:Int)(n:Bool):SR->Out (Str×Int×Int×Int×(List Xz)×Xz) (Bool×regex_parser) | .err e => .ret (false,ps s e g C (e:Int)) | .ok x q => .fall (s,(q:Int),(g:Int),bad,C,setI x n)
def clsP(s:Str)(g:Nat)(C:List Xz)(bad:Int)(n:Bool):SR->Bool×regex_parser | .err e=>(false,ps s e g C (e:Int)) | .ok x q=>(true,ps s q g (C++[setI x n]) bad)
theorem class_go{s:Str}(hs:s.length<=1000){g:Nat}{C:List Xz}{bad:Int}{n:Bool}{i:Nat}{set:Str}{r:SR}(h:Cx s i set r):∀(f:Nat),s.length-i<f->set.length+2*(s.length-i)<=5000 ->
  ah_ bP_ f (decide (set=[]),s,(i:Int),(g:Int),bad,C,setI set n)=some (clsO s g C bad n r):=by
 induction h with
 | @done i set h0 h =>
  intro f hf hl;obtain⟨f,rfl⟩:∃k,f=k+1:=⟨f-1,by omega⟩;refine aw_ ?_;unfold bP_;have e0:regex_parser.mk s (i:Int) (g:Int) C bad=ps s i g C bad:=rfl;simp only[];rw[decide_eq_false h0,cond_false,e0,f4_ hs (c:=93) (k:=93) rfl,if_pos h];rfl
 | @err i set e h0 h =>
  intro f hf hl;obtain⟨f,rfl⟩:∃k,f=k+1:=⟨f-1,by omega⟩;refine aw_ ?_;rw[mw_ hs (by omega) (by
   by_cases hz:set=[]
   .left;exact decide_eq_true hz
   .right;exact λe=>h0 ⟨hz,e⟩),h]
  rfl
 | @next i set a b q r h0 h t ih =>
  intro f hf hl;obtain⟨f,rfl⟩:∃k,f=k+1:=⟨f-1,by omega⟩;have hq:=hM_ h;have hst:=mw_ (s:=s) (i:=i) (g:=g) (C:=C) (bad:=bad) hs (set:=set) (n:=n) (fst:=decide (set=[])) (by omega) (by
   by_cases hz:set=[]
   .left;exact decide_eq_true hz
   .right;exact λe=>h0 ⟨hz,e⟩)
  rw[h]at hst;have:=ih f (by omega) (by simp only[qLa,qLc,List.length_nil];omega);rw[decide_eq_false (by simp)]at this;exact aW_ hst this
def clsI(s:Str)(i:Nat):Nat:=if s[i]? = some 94 then i+1 else i
def clsN(s:Str)(i:Nat):Bool:=decide (s[i]? = some 94)
theorem class_eq{s:Str}(hs:s.length<=1000){g:Nat}{C:List Xz}{bad:Int}{i:Nat}{r:SR}(hC:C.length<=100000)(h:Cx s (clsI s i) [] r):df_ (ps s i g C bad)=some (clsP s g C bad (clsN s i) r):=by
 have hgo:=class_go hs (g:=g) (C:=C) (bad:=bad) (n:=clsN s i) h BIG (by unfold BIG;omega) (by simp only[List.length_nil];omega);rw[decide_eq_true rfl]at hgo;unfold df_;rw[f4_ hs (c:=94) (k:=94) rfl];have e0:(if s[i]? = some 94 then(true,ps s (i+1) g C bad)else(false,ps s i g C bad))=(clsN s i,ps s (clsI s i) g C bad):=by
  unfold clsN clsI;by_cases h:s[i]? = some 94
  .rw[if_pos h,if_pos h,decide_eq_true h]
  .rw[if_neg h,if_neg h,decide_eq_false h]
 rw[e0];simp only[qBs];refine cu_ hgo ?_;cases r with
 | err e=>rfl
 | ok x q =>
  unfold clsO;simp only[];unfold ao_;simp only[];rw[bS_ (by simp only[qLc,List.length_nil];omega) (by simp only[qLc,List.length_nil];omega)];rfl
inductive Re where
 | emp|chr (b:UInt8)|any|bol|eol|set (x:Str) (n:Bool)
 | seq (a b:Re)|alt (a b:Re)|grp (k:Nat) (a:Re)|star (a:Re)|plus (a:Re)|opt (a:Re)
def iC(b:UInt8):Xz:=Xz.mk 1 (b.toNat:Int) [] false 0 0
def iOne(k:Int):Xz:=Xz.mk k 0 [] false 0 0
def be_(x y:Nat):Xz:=Xz.mk 6 0 [] false (x:Int) (y:Int)
def cj_(x:Nat):Xz:=Xz.mk 7 0 [] false (x:Int) 0
def aJ_(x:Nat):Xz:=Xz.mk 8 0 [] false (x:Int) 0
def Re.len:Re->Nat | .emp=>0 | .chr _=>1 | .any=>1 | .bol=>1 | .eol=>1 | .set _ _=>1 | .seq a b=>a.len+b.len | .alt a b=>a.len+b.len+2 | .grp _ a=>a.len+2 | .star a=>a.len+2 | .plus a=>a.len+1 | .opt a=>a.len+1
def Re.code:Re->Nat->List Xz | .emp,_=>[] | .chr b,_=>[iC b] | .any,_=>[iOne 2] | .bol,_=>[iOne 4] | .eol,_=>[iOne 5] | .set x n,_=>[setI x n] | .seq a b,n=>a.code n++b.code (n+a.len) | .alt a b,n=>be_ (n+1) (n+a.len+2)::(a.code (n+1)++cj_ (n+a.len+b.len+2)::b.code (n+a.len+2)) | .grp k a,n=>aJ_ (2*k)::(a.code (n+1)++[aJ_ (2*k+1)]) | .star a,n=>be_ (n+1) (n+a.len+2)::(a.code (n+1)++[cj_ n]) | .plus a,n=>a.code n++[be_ n (n+a.len+1)] | .opt a,n=>be_ (n+1) (n+a.len+1)::a.code (n+1)
theorem az_:∀(a:Re) (n:Nat),(a.code n).length=a.len
 | .emp,_=>rfl
 | .chr _,_=>rfl
 | .any,_=>rfl
 | .bol,_=>rfl
 | .eol,_=>rfl
 | .set _ _,_=>rfl
 | .seq a b,n=>by simp only[Re.code,Re.len,qLa,az_ a,az_ b]
 | .alt a b,n=>by simp only[Re.code,Re.len,qLa,qLc,az_ a,az_ b];omega
 | .grp k a,n=>by simp only[Re.code,Re.len,qLa,qLc,List.length_nil,az_ a]
 | .star a,n=>by simp only[Re.code,Re.len,qLa,qLc,List.length_nil,az_ a]
 | .plus a,n=>by simp only[Re.code,Re.len,qLa,qLc,List.length_nil,az_ a]
 | .opt a,n=>by simp only[Re.code,Re.len,qLc,az_ a]
def bump(x:Xz):Xz:=bif x.Op_==6 then Xz.mk x.Op_ x.C_ x.Xt x.Xl (x.X_+1) (x.Y_+1)else bif x.Op_==7 then Xz.mk x.Op_ x.C_ x.Xt x.Xl (x.X_+1) x.Y_ else x
theorem g5_(x y:Nat):bump (be_ x y)=be_ (x+1) (y+1):=rfl
theorem bump_jump(x:Nat):bump (cj_ x)=cj_ (x+1):=rfl
theorem bump_save(x:Nat):bump (aJ_ x)=aJ_ x:=rfl
theorem cP_:∀(a:Re) (n:Nat),(a.code n).map bump=a.code (n+1)
 | .emp,_=>rfl
 | .chr _,_=>rfl
 | .any,_=>rfl
 | .bol,_=>rfl
 | .eol,_=>rfl
 | .set _ _,_=>rfl
 | .seq a b,n=>by
  simp only[Re.code,List.map_append,cP_ a,cP_ b];rw[show n+a.len+1=n+1+a.len by omega]
 | .alt a b,n=>by
  simp only[Re.code,List.map_append,List.map_cons,cP_ a,cP_ b,g5_,bump_jump];rw[show n+a.len+2+1=n+1+a.len+2 by omega,show n+a.len+b.len+2+1=n+1+a.len+b.len+2 by omega]
 | .grp k a,n=>by simp only[Re.code,List.map_append,List.map_cons,List.map_nil,cP_ a,bump_save]
 | .star a,n=>by
  simp only[Re.code,List.map_append,List.map_cons,List.map_nil,cP_ a,g5_,bump_jump];rw[show n+a.len+2+1=n+1+a.len+2 by omega]
 | .plus a,n=>by
  simp only[Re.code,List.map_append,List.map_cons,List.map_nil,cP_ a,g5_];rw[show n+a.len+1+1=n+1+a.len+1 by omega]
 | .opt a,n=>by
  simp only[Re.code,List.map_cons,cP_ a,g5_];rw[show n+a.len+1+1=n+1+a.len+1 by omega]
def LowI(x:Xz):Prop:=0<=x.X_/\x.X_<=1000000/\0<=x.Y_/\x.Y_<=1000000
def Re.grps(m:Nat):Re->Prop | .seq a b=>a.grps m/\b.grps m | .alt a b=>a.grps m/\b.grps m | .grp k a=>k<=m/\a.grps m | .star a=>a.grps m | .plus a=>a.grps m | .opt a=>a.grps m|_=>True
theorem dx_:∀(a:Re) (n:Nat),n+a.len<=100000->a.grps 100->∀x∈a.code n,LowI x
 | .emp,_,_,_,x,h=>by cases h
 | .chr _,_,_,_,x,h=>by rw[List.mem_singleton.1 h];unfold LowI iC;simp only[];omega
 | .any,_,_,_,x,h=>by rw[List.mem_singleton.1 h];unfold LowI iOne;simp only[];omega
 | .bol,_,_,_,x,h=>by rw[List.mem_singleton.1 h];unfold LowI iOne;simp only[];omega
 | .eol,_,_,_,x,h=>by rw[List.mem_singleton.1 h];unfold LowI iOne;simp only[];omega
 | .set _ _,_,_,_,x,h=>by rw[List.mem_singleton.1 h];unfold LowI setI;simp only[];omega
 | .seq a b,n,hn,hg,x,h=>by
  simp only[Re.len]at hn;rcases List.mem_append.1 h with h|h
  .exact dx_ a n (by omega) hg.1 x h
  .exact dx_ b _ (by omega) hg.2 x h
 | .alt a b,n,hn,hg,x,h=>by
  simp only[Re.len]at hn;rcases List.mem_cons.1 h with rfl|h
  .unfold LowI be_;simp only[];omega
  .rcases List.mem_append.1 h with h|h
   .exact dx_ a _ (by omega) hg.1 x h
   .rcases List.mem_cons.1 h with rfl|h
    .unfold LowI cj_;simp only[];omega
    .exact dx_ b _ (by omega) hg.2 x h
 | .grp k a,n,hn,hg,x,h=>by
  simp only[Re.len]at hn;have hk:=hg.1;rcases List.mem_cons.1 h with rfl|h
  .unfold LowI aJ_;simp only[];omega
  .rcases List.mem_append.1 h with h|h
   .exact dx_ a _ (by omega) hg.2 x h
   .rw[List.mem_singleton.1 h];unfold LowI aJ_;simp only[];omega
 | .star a,n,hn,hg,x,h=>by
  simp only[Re.len]at hn;rcases List.mem_cons.1 h with rfl|h
  .unfold LowI be_;simp only[];omega
  .rcases List.mem_append.1 h with h|h
   .exact dx_ a _ (by omega) hg x h
   .rw[List.mem_singleton.1 h];unfold LowI cj_;simp only[];omega
 | .plus a,n,hn,hg,x,h=>by
  simp only[Re.len]at hn;rcases List.mem_append.1 h with h|h
  .exact dx_ a _ (by omega) hg x h
  .rw[List.mem_singleton.1 h];unfold LowI be_;simp only[];omega
 | .opt a,n,hn,hg,x,h=>by
  simp only[Re.len]at hn;rcases List.mem_cons.1 h with rfl|h
  .unfold LowI be_;simp only[];omega
  .exact dx_ a _ (by omega) hg x h
theorem cd_{α:Type}{A B:List α}{x:α}{k:Int}(h:k=(A.length:Int)):aj_ (A++x::B) k=some x:=by
 subst h;rw[ff_];simp
theorem dK_{α:Type}{A B:List α}{x y:α}{k:Nat}(h:k=A.length):(A++x::B).set k y=A++y::B:=by
 subst h;simp
theorem w64_up{x:Int}(h0:0<=x)(h:x<=1000000):w64 (x+1)=x+1:=bK_ ⟨by omega,by omega⟩
theorem insert_go:∀(D A:List Xz) (f:Nat),D.length<f->A.length+D.length<=100000->(∀x∈D,LowI x)->ah_ bI_ f ((A.length:Int),A++D)=some (A++D.map bump)
 | [],A,f+1,_,_,_=>by
  refine aw_ ?_;unfold bI_;simp only[List.append_nil,List.map_nil];rw[decide_eq_false (by omega),cond_false]
 | x::D,A,f+1,hf,hl,hx=>by
  simp only[qLc]at hf hl;have hlow:=hx x List.mem_cons_self;have hstep:bI_ ((A.length:Int),A++x::D)=some (.next (((A++[bump x]).length:Int),(A++[bump x])++D)):=by
   unfold bI_;simp only[];rw[decide_eq_true (by simp only[qLa,qLc];omega),cond_true,cd_ rfl];simp only[qBs];rw[show(A.length:Int).toNat=A.length from rfl];simp only[dK_ rfl,cd_ rfl,qBs];rw[w64_up hlow.1 hlow.2.1,w64_up hlow.2.2.1 hlow.2.2.2,am_ (by omega)];have e:∀y:Xz,A++y::D=(A++[y])++D:=λy=>by simp
   have e2:(A++[bump x]).length=A.length+1:=by simp
   rw[e2];unfold bump;cases h6:(x.Op_==6)with
   | true=>simp only[cond_true,qBs];rw[e]
   | false =>
    cases h7:(x.Op_==7)with
    | true=>simp only[cond_true,cond_false,qBs];rw[e]
    | false=>simp only[cond_false,qBs];rw[e]
  have:=insert_go D (A++[bump x]) f (by omega) (by simp only[qLa,qLc,List.length_nil];omega) (λy hy=>hx y (List.mem_cons_of_mem _ hy));refine aW_ hstep ?_;rw[this];simp
theorem my_:∀(D A acc:List Xz) (f:Nat),D.length<f->A.length+D.length<=100000->acc.length+D.length<=200000->(∀x∈D,LowI x)->ah_ dh_ f ((A.length:Int),A++D,acc)=some (A++D,acc++D.map bump)
 | [],A,acc,f+1,_,_,_,_=>by
  refine aw_ ?_;unfold dh_;simp only[List.append_nil,List.map_nil];rw[decide_eq_false (by omega),cond_false]
 | x::D,A,acc,f+1,hf,hl,hc,hx=>by
  simp only[qLc]at hf hl hc;have hlow:=hx x List.mem_cons_self;have hstep:dh_ ((A.length:Int),A++x::D,acc)=some (.next (((A++[x]).length:Int),(A++[x])++D,acc++[bump x])):=by
   unfold dh_;simp only[];rw[decide_eq_true (by simp only[qLa,qLc];omega),cond_true,cd_ rfl];simp only[qBs];rw[am_ (by omega),w64_up hlow.1 hlow.2.1];have e:A++x::D=(A++[x])++D:=by simp
   have e2:(A++[x]).length=A.length+1:=by simp
   have er:∀y:Xz,room 56 acc [y]=some (acc++[y]):=λy=>bS_ (by simp only[qLc,List.length_nil];omega) (by simp only[qLc,List.length_nil];omega)
   rw[e2,←e];unfold bump;cases h6:(x.Op_==6)with
   | true=>simp only[Bool.true_or,cond_true,qBs,h6];rw[w64_up hlow.2.2.1 hlow.2.2.2,er];rfl
   | false =>
    cases h7:(x.Op_==7)with
    | true=>simp only[Bool.false_or,cond_true,cond_false,qBs,h6];rw[er];rfl
    | false=>simp only[Bool.false_or,cond_false,qBs,h6];rw[er];rfl
  have:=my_ D (A++[x]) (acc++[bump x]) f (by omega) (by simp only[qLa,qLc,List.length_nil];omega) (by simp only[qLa,qLc,List.length_nil];omega) (λy hy=>hx y (List.mem_cons_of_mem _ hy));refine aW_ hstep ?_;rw[this];simp
theorem ko_{s:Str}{i g:Nat}{C:List Xz}{bad:Int}{a:Re}{x:Xz}{k:Int}(hk:k=(C.length:Int))(hl:C.length+a.len<=50000)(hg:a.grps 100):bG_ (ps s i g (C++a.code C.length) bad) k x=some (ps s i g (C++x::a.code (C.length+1)) bad):=by
 subst hk;have hlow:=dx_ a C.length (by omega) hg;have h:=insert_go (a.code C.length) C BIG (by rw[az_];unfold BIG;omega) (by rw[az_];omega) hlow;unfold bG_;refine cu_ h ?_;rw[cP_];have e:(insN (α:=Xz) 56) (C++a.code (C.length+1)) (C.length:Int) [x]=some (C++x::a.code (C.length+1)):=by
  unfold insN;simp only[List.length_nil];rw[if_pos ⟨by omega,by rw[qLa];omega,by rw[qLa,az_];omega⟩];simp
 rw[e];rfl
theorem jj_{i g:Int}{C:List Xz}{bad:Bool}{a:Re}{x:Xz}{k:Int}(hk:k=(C.length:Int))(hl:C.length+a.len<=50000)(hg:a.grps 100):dG_ (Xq.mk (C++a.code C.length) i g bad) k x=some (Xq.mk (C++x::a.code (C.length+1)) i g bad):=by
 subst hk;have hlow:=dx_ a C.length (by omega) hg;have h:=my_ (a.code C.length) C (C++[x]) BIG (by rw[az_];unfold BIG;omega) (by rw[az_];omega) (by rw[az_];simp only[qLa,qLc,List.length_nil];omega) hlow;unfold dG_;simp only[];rw[cv_ (by omega) (by omega) (by rw[qLa];omega)];simp only[qBs];have e1:(C++a.code C.length).take (C.length:Int).toNat=C:=by simp
 rw[e1,bS_ (by simp only[List.length_nil];omega) (by simp only[List.length_nil];omega)];simp only[qBs,List.nil_append];rw[bS_ (by simp only[qLc,List.length_nil];omega) (by simp only[qLc,List.length_nil];omega)];simp only[qBs];rw[h,cP_];simp
inductive PX where
 | err (e:Nat)|ok (a:Re) (q g:Nat)
inductive PK where
 | rx|br|pc|at
def PX.pre(a:Re):PX->PX | .err e => .err e | .ok b q g => .ok (.seq a b) q g
def post(s:Str)(a:Re)(q g:Nat):PX:=if s[q]? = some 42 then .ok (.star a) (q+1) g else if s[q]? = some 43 then .ok (.plus a) (q+1) g else if s[q]? = some 63 then .ok (.opt a) (q+1) g else .ok a q g
def clsR(g:Nat)(n:Bool):SR->PX | .err e => .err e | .ok x q => .ok (.set x n) q g
def escR(g:Nat):CR->PX | .err e => .err e | .ok b q => .ok (.chr b) q g
def spec(c:UInt8):Bool:=c==40||c==41||c==124||c==42||c==43||c==63||c==46||c==94||c==36||c==91||c==92
inductive RP(s:Str):PK->Nat->Nat->Nat->PX->Prop
 | stop {d i g} (h:s[i]? = none\/s[i]? = some 124\/(s[i]? = some 41/\0<d)):RP s .br d i g (.ok .emp i g)
 | par {i g} (h:s[i]? = some 41):RP s .br 0 i g (.err i)
 | bad {d i g c e} (h:s[i]? = some c) (h1:c≠124) (h2:c≠41) (hp:RP s .pc d i g (.err e)):RP s .br d i g (.err e)
 | next {d i g c a q g1 r} (h:s[i]? = some c) (h1:c≠124) (h2:c≠41) (hp:RP s .pc d i g (.ok a q g1)) (ht:RP s .br d q g1 r):RP s .br d i g (r.pre a)
 | pcbad {d i g e} (h:RP s .at d i g (.err e)):RP s .pc d i g (.err e)
 | pcok {d i g a q g1} (h:RP s .at d i g (.ok a q g1)):RP s .pc d i g (post s a q g1)
 | many {d i g} (h:s[i]? = some 40) (hg:9<=g):RP s .at d i g (.err i)
 | inner {d i g e} (h:s[i]? = some 40) (hg:g<9) (hr:RP s .rx (d+1) (i+1) (g+1) (.err e)):RP s .at d i g (.err e)
 | unc {d i g a q g1} (h:s[i]? = some 40) (hg:g<9) (hr:RP s .rx (d+1) (i+1) (g+1) (.ok a q g1)) (hc:s[q]? ≠ some 41):RP s .at d i g (.err q)
 | grp {d i g a q g1} (h:s[i]? = some 40) (hg:g<9) (hr:RP s .rx (d+1) (i+1) (g+1) (.ok a q g1)) (hc:s[q]? = some 41):RP s .at d i g (.ok (.grp (g+1) a) (q+1) g1)
 | sym {d i g c} (h:s[i]? = some c) (hc:c=42\/c=43\/c=63):RP s .at d i g (.err i)
 | any {d i g} (h:s[i]? = some 46):RP s .at d i g (.ok .any (i+1) g)
 | bol {d i g} (h:s[i]? = some 94):RP s .at d i g (.ok .bol (i+1) g)
 | eol {d i g} (h:s[i]? = some 36):RP s .at d i g (.ok .eol (i+1) g)
 | cls {d i g r} (h:s[i]? = some 91) (hc:Cx s (clsI s (i+1)) [] r):RP s .at d i g (clsR g (clsN s (i+1)) r)
 | esc {d i g} (h:s[i]? = some 92):RP s .at d i g (escR g (escS s i))
 | chr {d i g c} (h:s[i]? = some c) (hc:spec c=false):RP s .at d i g (.ok (.chr c) (i+1) g)
 | rxbad {d i g e} (h:RP s .br d i g (.err e)):RP s .rx d i g (.err e)
 | rxone {d i g a q g1} (h:RP s .br d i g (.ok a q g1)) (hq:s[q]? ≠ some 124):RP s .rx d i g (.ok a q g1)
 | rxerr {d i g a q g1 e} (h:RP s .br d i g (.ok a q g1)) (hq:s[q]? = some 124) (ht:RP s .rx d (q+1) g1 (.err e)):RP s .rx d i g (.err e)
 | rxalt {d i g a q g1 b q2 g2} (h:RP s .br d i g (.ok a q g1)) (hq:s[q]? = some 124) (ht:RP s .rx d (q+1) g1 (.ok b q2 g2)):RP s .rx d i g (.ok (.alt a b) q2 g2)
def PK.inc:PK->Nat | .rx=>0 | .br=>0 | .pc=>1 | .at=>1
def GoodP(s:Str)(k:PK)(i g:Nat):PX->Prop | .err _=>True | .ok a q g1=>i<=s.length->g<=9->i+k.inc<=q/\q<=s.length/\a.len<=2*(q-i)/\g<=g1/\g1<=9/\a.grps 100
theorem clsI_le(s:Str)(i:Nat)(h:i<=s.length):i<=clsI s i/\clsI s i<=s.length:=by
 unfold clsI;split
 .rename_i h1;have:=as_ h1;omega
 .omega
theorem RP.good{s:Str}{k:PK}{d i g:Nat}{r:PX}(h:RP s k d i g r):GoodP s k i g r:=by
 induction h with
 | stop h=>exact λh1 h2=>⟨by simp only[PK.inc];omega,h1,by simp only[Re.len];omega,Nat.le_refl _,h2,trivial⟩
 | par h=>trivial
 | bad h h1 h2 hp ih=>trivial
 | @next d i g c a q g1 r h h1 h2 hp ht ih1 ih2 =>
  cases r with
  | err e=>trivial
  | ok b q2 g2 =>
   intro a1 a2;obtain⟨b1,b2,b3,b4,b5,b6⟩:=ih1 a1 a2;obtain⟨c1,c2,c3,c4,c5,c6⟩:=ih2 b2 b5;simp only[PK.inc]at b1 c1;exact⟨by simp only[PK.inc];omega,c2,by simp only[Re.len];omega,by omega,c5,b6,c6⟩
 | pcbad h ih=>trivial
 | @pcok d i g a q g1 h ih =>
  unfold post;split
  .rename_i hq;have:=as_ hq;intro a1 a2;obtain⟨b1,b2,b3,b4,b5,b6⟩:=ih a1 a2;simp only[PK.inc]at b1;exact⟨by simp only[PK.inc];omega,by omega,by simp only[Re.len];omega,b4,b5,b6⟩
  .split
   .rename_i hq;have:=as_ hq;intro a1 a2;obtain⟨b1,b2,b3,b4,b5,b6⟩:=ih a1 a2;simp only[PK.inc]at b1;exact⟨by simp only[PK.inc];omega,by omega,by simp only[Re.len];omega,b4,b5,b6⟩
   .split
    .rename_i hq;have:=as_ hq;intro a1 a2;obtain⟨b1,b2,b3,b4,b5,b6⟩:=ih a1 a2;simp only[PK.inc]at b1;exact⟨by simp only[PK.inc];omega,by omega,by simp only[Re.len];omega,b4,b5,b6⟩
    .exact ih
 | many h hg=>trivial
 | inner h hg hr ih=>trivial
 | unc h hg hr hc ih=>trivial
 | @grp d i g a q g1 h hg hr hc ih =>
  intro a1 a2;have h1:=as_ h;have h2:=as_ hc;obtain⟨b1,b2,b3,b4,b5,b6⟩:=ih (by omega) (by omega);simp only[PK.inc]at b1;exact⟨by simp only[PK.inc];omega,by omega,by simp only[Re.len];omega,by omega,b5,by omega,b6⟩
 | sym h hc=>trivial
 | any h=>have:=as_ h;exact λh1 h2=>⟨by simp only[PK.inc];omega,by omega,by simp only[Re.len];omega,Nat.le_refl _,h2,trivial⟩
 | bol h=>have:=as_ h;exact λh1 h2=>⟨by simp only[PK.inc];omega,by omega,by simp only[Re.len];omega,Nat.le_refl _,h2,trivial⟩
 | eol h=>have:=as_ h;exact λh1 h2=>⟨by simp only[PK.inc];omega,by omega,by simp only[Re.len];omega,Nat.le_refl _,h2,trivial⟩
 | @cls d i g r h hc =>
  have h0:=as_ h;cases r with
  | err e=>trivial
  | ok x q =>
   intro h1 h2;have:=hc.len.2 x q rfl;have:=clsI_le s (i+1) (by omega);exact⟨by simp only[PK.inc];omega,by omega,by simp only[Re.len];omega,Nat.le_refl _,h2,trivial⟩
 | @esc d i g h =>
  cases he:escS s i with
  | err e=>trivial
  | ok b q =>
   intro h1 h2;have:=escS_len he;exact⟨by simp only[PK.inc];omega,by omega,by simp only[Re.len];omega,Nat.le_refl _,h2,trivial⟩
 | chr h hc=>have:=as_ h;exact λh1 h2=>⟨by simp only[PK.inc];omega,by omega,by simp only[Re.len];omega,Nat.le_refl _,h2,trivial⟩
 | rxbad h ih=>trivial
 | rxone h hq ih=>exact ih
 | rxerr h hq ht ih1 ih2=>trivial
 | @rxalt d i g a q g1 b q2 g2 h hq ht ih1 ih2 =>
  intro a1 a2;have h1:=as_ hq;obtain⟨b1,b2,b3,b4,b5,b6⟩:=ih1 a1 a2;obtain⟨c1,c2,c3,c4,c5,c6⟩:=ih2 (by omega) b5;simp only[PK.inc]at b1 c1;exact⟨by simp only[PK.inc];omega,c2,by simp only[Re.len];omega,by omega,c5,b6,c6⟩
theorem RP.ex_at {s:Str} {i:Nat} (ih:∀j,i<j->j<=s.length->∀d g,g<=9->∃r,RP s .rx d j g r) (d g:Nat) {c:UInt8} (h:s[i]? = some c) (h1:c≠124) (h2:c≠41):∃r,RP s .at d i g r:=by
 have hlt:=as_ h;by_cases a1:c=40
 .subst a1;by_cases hg:9<=g
  .exact⟨_,.many h hg⟩
  .obtain⟨r,hr⟩:=ih (i+1) (by omega) (by omega) (d+1) (g+1) (by omega);cases r with
   | err e=>exact⟨_,.inner h (by omega) hr⟩
   | ok a q g1 =>
    by_cases hc:s[q]? = some 41
    .exact⟨_,.grp h (by omega) hr hc⟩
    .exact⟨_,.unc h (by omega) hr hc⟩
 .by_cases a2:c=42\/c=43\/c=63
  .exact⟨_,.sym h a2⟩
  .by_cases a3:c=46
   .subst a3;exact⟨_,.any h⟩
   .by_cases a4:c=94
    .subst a4;exact⟨_,.bol h⟩
    .by_cases a5:c=36
     .subst a5;exact⟨_,.eol h⟩
     .by_cases a6:c=91
      .subst a6;obtain⟨r,hr⟩:=Cx.ex _ (clsI s (i+1)) [] (Nat.le_refl _) (clsI_le s (i+1) (by omega)).2;exact⟨_,.cls h hr⟩
      .by_cases a7:c=92
       .subst a7;exact⟨_,.esc h⟩
       .refine⟨_,.chr h ?_⟩;simp only[not_or]at a2;unfold spec;simp only[Bool.or_eq_false_iff,beq_eq_false_iff_ne];exact⟨⟨⟨⟨⟨⟨⟨⟨⟨⟨a1,h2⟩,h1⟩,a2.1⟩,a2.2.1⟩,a2.2.2⟩,a3⟩,a4⟩,a5⟩,a6⟩,a7⟩
theorem RP.ex{s:Str}:∀(k i:Nat),s.length-i<k->i<=s.length->(∀d g,g<=9->∃r,RP s .br d i g r)/\∀d g,g<=9->∃r,RP s .rx d i g r:=by
 intro k
 induction k with
 | zero=>exact λi h=>absurd h (Nat.not_lt_zero _)
 | succ k ih =>
  intro i hk hi
  have hbr:∀d g,g<=9->∃r,RP s .br d i g r:=by
   intro d g hg;cases h:s[i]? with
   | none=>exact⟨_,.stop (.inl h)⟩
   | some c =>
    have hlt:=as_ h;by_cases h1:c=124
    .subst h1;exact⟨_,.stop (.inr (.inl h))⟩
    .by_cases h2:c=41
     .subst h2;rcases Nat.eq_zero_or_pos d with rfl|hd
      .exact⟨_,.par h⟩
      .exact⟨_,.stop (.inr (.inr ⟨h,hd⟩))⟩
     .obtain⟨r,hr⟩:=RP.ex_at (λj hj hjl=>(ih j (by omega) hjl).2) d g h h1 h2;have hpc:∃r,RP s .pc d i g r:=by
       cases r with
       | err e=>exact⟨_,.pcbad hr⟩
       | ok a q g1=>exact⟨_,.pcok hr⟩
      obtain⟨r,hr⟩:=hpc;cases r with
      | err e=>exact⟨_,.bad h h1 h2 hr⟩
      | ok a q g1 =>
       have:=hr.good hi hg;simp only[PK.inc]at this;obtain⟨r2,hr2⟩:=(ih q (by omega) (by omega)).1 d g1 (by omega);exact⟨_,.next h h1 h2 hr hr2⟩
  refine⟨hbr,λd g hg => ?_⟩;obtain⟨r,hr⟩:=hbr d g hg;cases r with
  | err e=>exact⟨_,.rxbad hr⟩
  | ok a q g1 =>
   by_cases hq:s[q]? = some 124
   .have h1:=hr.good hi hg;have h2:=as_ hq;simp only[PK.inc]at h1;obtain⟨r2,hr2⟩:=(ih (q+1) (by omega) (by omega)).2 d g1 (by omega);cases r2 with
    | err e=>exact⟨_,.rxerr hr hq hr2⟩
    | ok b q2 g2=>exact⟨_,.rxalt hr hq hr2⟩
   .exact⟨_,.rxone hr hq⟩
theorem RP.ends{s:Str}{k:PK}{d i g:Nat}{r:PX}(h:RP s k d i g r):d=0->∀a q g1,r = .ok a q g1->(k = .rx->s[q]? = none)/\(k = .br->s[q]? = none\/s[q]? = some 124):=by
 induction h with
 | stop h =>
  intro hd a q g1 e;injection e with _ e _;subst e;refine⟨λe=>(by cases e),λ_ => ?_⟩;rcases h with h|h|h
  .exact .inl h
  .exact .inr h
  .omega
 | @next d i g c a q g1 r h h1 h2 hp ht ih1 ih2 =>
  intro hd a' q' g' e;cases r with
  | err e'=>cases e
  | ok b q2 g2 =>
   injection e with _ e1 e2;subst e1;exact⟨λe=>(by cases e),λe=>(ih2 hd _ _ _ rfl).2 e⟩
 | rxone h hq ih =>
  intro hd a q g1 e;injection e with _ e1 e2;subst e1;exact⟨λ_=>((ih hd _ _ _ rfl).2 rfl).resolve_right hq,λe=>(by cases e)⟩
 | rxalt h hq ht ih1 ih2 =>
  intro hd a q g1 e;injection e with _ e1 e2;subst e1;exact⟨λe=>(ih2 hd _ _ _ rfl).1 e,λe=>(by cases e)⟩
 | _=>intro hd a q g1 e;first|(cases e;done)|exact⟨λe=>(by cases e),λe=>(by cases e)⟩
theorem cR_{s:Str}{i g:Nat}{C:List Xz}{bad:Int}{x:Xz}(h:C.length<=100000):ao_ (ps s i g C bad) x=some ((C.length:Int),ps s i g (C++[x]) bad):=by
 unfold ao_ ps;simp only[];rw[bS_ (by simp only[qLc,List.length_nil];omega) (by simp only[qLc,List.length_nil];omega)];simp only[qBs];rw[bK_ ⟨by simp only[qLa,qLc,List.length_nil];omega,by simp only[qLa,qLc,List.length_nil];omega⟩,show((C++[x]).length:Int)-1=(C.length:Int)by simp only[qLa,qLc,List.length_nil];omega]
def ResP(s:Str)(C:List Xz)(bad:Int)(o:Option (Bool×regex_parser)):PX->Prop | .err e=>∃p,o=some (false,p)/\p.bad_=(e:Int) | .ok a q g=>o=some (true,ps s q g (C++a.code C.length) bad)
def ResO(s:Str)(C:List Xz)(bad:Int)(o:Option (Out Unit (Bool×regex_parser))):PX->Prop | .err e=>∃p,o=some (.ret (false,p))/\p.bad_=(e:Int) | .ok a q g=>o=some (.ret (true,ps s q g (C++a.code C.length) bad))
def GoP(s:Str)(k:PK)(d i g:Nat)(r:PX):Prop:=s.length<=1000->i<=s.length->g<=9->d<=i->∀(C:List Xz) (bad:Int) (n:Nat),C.length+2*(s.length-i)<=5000->match k with | .rx=>s.length-i<n->ResP s C bad (ag_ n (ps s i g C bad) (d:Int)) r | .br=>s.length-i<=n->∀f,s.length-i<f->ResO s C bad (ah_ (aT_ (d:Int) (ag_ n)) f (s,(i:Int),(g:Int),bad,C)) r | .pc=>s.length-i<=n->(∃c,s[i]? = some c)->ResP s C bad (aS_ (ag_ n) (ps s i g C bad) (d:Int)) r | .at=>s.length-i<=n->(∃c,s[i]? = some c)->ResP s C bad (ap_ (ag_ n) (ps s i g C bad) (d:Int)) r
theorem peek_loop{s:Str}{i g:Nat}{C:List Xz}{bad:Int}:regex_parser.mk (s,(i:Int),(g:Int),bad,C).1 (s,(i:Int),(g:Int),bad,C).2.1 (s,(i:Int),(g:Int),bad,C).2.2.1 (s,(i:Int),(g:Int),bad,C).2.2.2.2 (s,(i:Int),(g:Int),bad,C).2.2.2.1=ps s i g C bad:=rfl
theorem decide_dp{d:Nat}:decide ((d:Int)>0)=decide (0<d):=by
 by_cases h:0<d
 .rw[decide_eq_true h,decide_eq_true (by omega)]
 .rw[decide_eq_false h,decide_eq_false (by omega)]
theorem br_more{s:Str}{d i g n:Nat}{C:List Xz}{bad:Int}{c:UInt8}(h:s[i]? = some c)(h1:c≠124)(h2:c≠41\/d=0):aT_ (d:Int) (ag_ n) (s,(i:Int),(g:Int),bad,C)=(aS_ (ag_ n) (ps s i g C bad) (d:Int)).bind λy4=>(bif(!y4.1)then some (.done (.ret ((false,y4.2))))else some (.next (y4.2.s_,y4.2.at_,y4.2.groups_,y4.2.bad_,y4.2.code_))):=by
 unfold aT_;rw[peek_loop,bq_ h];simp only[qBs,Bool.not_true,Bool.false_or];have k1:((c.toNat:Int)==124)=(c==124):=bw_ c 124;have k2:((c.toNat:Int)==41)=(c==41):=bw_ c 41;rw[k1,k2,beq_eq_false_iff_ne.2 h1,decide_dp];have:(c==41&&decide (0<d))=false:=by
  rcases h2 with h2|h2
  .rw[beq_eq_false_iff_ne.2 h2];rfl
  .subst h2;simp
 rw[this];rfl
theorem go_stop{s:Str}{d i g:Nat}(h:s[i]? = none\/s[i]? = some 124\/(s[i]? = some 41/\0<d)):GoP s .br d i g (.ok .emp i g):=by
 intro hs hi hg hd C bad n hC hn f hf;obtain⟨f,rfl⟩:∃k,f=k+1:=⟨f-1,by omega⟩;show _=_;rw[show C++Re.emp.code C.length=C from List.append_nil C];refine aw_ ?_;unfold aT_;rw[peek_loop];rcases h with h|h|⟨h,hd⟩
 .rw[hN_ h];rfl
 .rw[bq_ h];rfl
 .rw[bq_ h];simp only[qBs];rw[decide_dp,decide_eq_true hd];rfl
theorem go_bad{s:Str}{d i g e:Nat}{c:UInt8}(h:s[i]? = some c)(h1:c≠124)(h2:c≠41)(ih:GoP s .pc d i g (.err e)):GoP s .br d i g (.err e):=by
 intro hs hi hg hd C bad n hC hn f hf;obtain⟨f,rfl⟩:∃k,f=k+1:=⟨f-1,by omega⟩;obtain⟨p,hp,hb⟩:=ih hs hi hg hd C bad n hC hn ⟨c,h⟩;refine⟨p,aw_ ?_,hb⟩;rw[br_more h h1 (.inl h2),hp];rfl
theorem go_next{s:Str}{d i g q g1:Nat}{c:UInt8}{a:Re}{r:PX}(h:s[i]? = some c)(h1:c≠124)(h2:c≠41)(hq:RP s .pc d i g (.ok a q g1))(ih:GoP s .pc d i g (.ok a q g1))(ih2:GoP s .br d q g1 r):GoP s .br d i g (r.pre a):=by
 intro hs hi hg hd C bad n hC hn f hf;obtain⟨f,rfl⟩:∃k,f=k+1:=⟨f-1,by omega⟩;have hgood:=hq.good hi hg;simp only[PK.inc]at hgood;have hlen:(C++a.code C.length).length=C.length+a.len:=by rw[qLa,az_]
 have hp:_=_:=ih hs hi hg hd C bad n hC hn ⟨c,h⟩;have ht:=ih2 hs (by omega) (by omega) (by omega) (C++a.code C.length) bad n (by rw[hlen];omega) (by omega) f (by omega);have hst:aT_ (d:Int) (ag_ n) (s,(i:Int),(g:Int),bad,C)=some (.next (s,(q:Int),(g1:Int),bad,C++a.code C.length)):=by
  rw[br_more h h1 (.inl h2),hp];rfl
 cases r with
 | err e =>
  obtain⟨p,hp,hb⟩:=ht;exact⟨p,aW_ hst hp,hb⟩
 | ok b q2 g2 =>
  have ht:_=_:=ht;show _=_;refine aW_ hst ?_;rw[ht];simp only[Re.code];rw[hlen,List.append_assoc]
theorem go_par{s:Str}{i g:Nat}(h:s[i]? = some 41):GoP s .br 0 i g (.err i):=by
 intro hs hi hg hd C bad n hC hn f hf;obtain⟨f,rfl⟩:∃k,f=k+1:=⟨f-1,by omega⟩;refine⟨ps s i g C (i:Int),aw_ ?_,rfl⟩;rw[br_more h (by decide) (.inr rfl)];have:aS_ (ag_ n) (ps s i g C bad) ((0:Nat):Int)=some (false,ps s i g C (i:Int)):=by
  unfold aS_ ap_;rw[bq_ h];rfl
 rw[this];rfl
theorem go_pcbad{s:Str}{d i g e:Nat}(ih:GoP s .at d i g (.err e)):GoP s .pc d i g (.err e):=by
 intro hs hi hg hd C bad n hC hn hc;obtain⟨p,hp,hb⟩:=ih hs hi hg hd C bad n hC hn hc;refine⟨p,?_,hb⟩;unfold aS_;rw[hp];rfl
theorem next_t{s:Str}{i g:Nat}{C:List Xz}{bad:Int}(hs:s.length<=1000){c:UInt8}{k:Int}(hk:k=(c.toNat:Int))(h:s[i]? = some c):aA_ (ps s i g C bad) k=some (true,ps s (i+1) g C bad):=by
 rw[f4_ hs hk,if_pos h]
theorem next_f{s:Str}{i g:Nat}{C:List Xz}{bad:Int}(hs:s.length<=1000){c:UInt8}{k:Int}(hk:k=(c.toNat:Int))(h:s[i]? ≠ some c):aA_ (ps s i g C bad) k=some (false,ps s i g C bad):=by
 rw[f4_ hs hk,if_neg h]
theorem ft_(s:Str)(i g:Nat)(C:List Xz)(bad:Int):(ps s i g C bad).code_=C:=rfl
theorem kr_(s:Str)(i g:Nat)(C:List Xz)(bad:Int):(ps s i g C bad).groups_=(g:Int):=rfl
theorem es_(n:Nat):((n:Nat):Int).toNat=n:=rfl
theorem go_pcok{s:Str}{d i g q g1:Nat}{a:Re}(hq:RP s .at d i g (.ok a q g1))(ih:GoP s .at d i g (.ok a q g1)):GoP s .pc d i g (post s a q g1):=by
 intro hs hi hg hd C bad n hC hn hc;have hgood:=hq.good hi hg;simp only[PK.inc]at hgood;have hp:_=_:=ih hs hi hg hd C bad n hC hn hc;have hlen:(a.code C.length).length=a.len:=az_ a _;have hlen1:(a.code (C.length+1)).length=a.len:=az_ a _;have hw:w64 ((C.length:Int)+1)=((C.length+1:Nat):Int):=am_ (by omega);show ResP s C bad (aS_ (ag_ n) (ps s i g C bad) (d:Int)) (post s a q g1);unfold aS_;rw[hp];simp only[qBs,Bool.not_true,cond_false,ft_];unfold post;by_cases h42:s[q]? = some 42
 .rw[if_pos h42,next_t hs (c:=42) (k:=42) rfl h42];simp only[qBs,cond_true];rw[ko_ rfl (by omega) hgood.2.2.2.2.2];simp only[qBs];rw[cR_ (by simp only[qLa,qLc];omega)];simp only[qBs,ft_];rw[List.append_assoc,List.cons_append,cd_ rfl];simp only[qBs];rw[dK_ (es_ _)];show _=_;simp only[Re.code];have e1:(((C++Xz.mk 6 0 [] false (w64 ((C.length:Int)+1)) 0::(a.code (C.length+1)++[Xz.mk 7 0 [] false (C.length:Int) 0])).length:Nat):Int)=((C.length+a.len+2:Nat):Int):=by
   simp only[qLa,qLc,List.length_nil,hlen1];omega
  rw[e1,hw];rfl
 .rw [if_neg h42,next_f hs (c:=42) (k:=42) rfl h42];simp only[qBs,cond_false];by_cases h43:s[q]? = some 43
  .rw[if_pos h43,next_t hs (c:=43) (k:=43) rfl h43];simp only[qBs,cond_true];rw[cR_ (by simp only[qLa];omega)];simp only[qBs,ft_];rw[cd_ rfl];simp only[qBs];rw[dK_ (es_ _)];show _=_;simp only[Re.code];have e1:w64 (((C++a.code C.length).length:Int)+1)=((C.length+a.len+1:Nat):Int):=by
    rw[bK_ ⟨by omega,by simp only[qLa];omega⟩];simp only[qLa];omega
   rw[e1,←List.append_assoc];rfl
  .rw[if_neg h43,next_f hs (c:=43) (k:=43) rfl h43];simp only[qBs,cond_false];by_cases h63:s[q]? = some 63
   .rw[if_pos h63,next_t hs (c:=63) (k:=63) rfl h63];simp only[qBs,cond_true];rw[ko_ rfl (by omega) hgood.2.2.2.2.2];simp only[qBs,ft_];rw[cd_ rfl];simp only[qBs];rw[dK_ (es_ _)];show _=_;simp only[Re.code];have e1:(((C++Xz.mk 6 0 [] false (w64 ((C.length:Int)+1)) 0::a.code (C.length+1)).length:Nat):Int)=((C.length+a.len+1:Nat):Int):=by
     simp only[qLa,qLc,hlen1];omega
    rw[e1,hw];rfl
   .rw[if_neg h63,next_f hs (c:=63) (k:=63) rfl h63];rfl
theorem go_many{s:Str}{d i g:Nat}(h:s[i]? = some 40)(hg9:9<=g):GoP s .at d i g (.err i):=by
 intro hs hi hg hd C bad n hC hn hc;refine⟨ps s i g C (i:Int),?_,rfl⟩;unfold ap_;rw[bq_ h];simp only[qBs,Bool.not_true,cond_false];rw[show((((40:UInt8).toNat:Int)==40))=true from rfl,cond_true];unfold bj_;rw[kr_,decide_eq_true (by omega),cond_true];rfl
theorem jk_{s:Str}{d i g n:Nat}{C:List Xz}{bad:Int}(hlt:i<s.length)(hs:s.length<=1000)(hg:g<9)(hd:d<=i)(hC:C.length<=5000) :
  bj_ (ag_ n) (ps s i g C bad) (d:Int)=(ag_ n (ps s (i+1) (g+1) (C++[aJ_ (2*(g+1))]) bad) ((d+1:Nat):Int)).bind λy3 =>
  (bif(!y3.1)then
   some ((false,y3.2))
  else
   (aA_ y3.2 41).bind λy4 =>
   (bif(!y4.1)then
    (aL_ y4.2).bind λy5 =>
    some ((y5.1,y5.2))
   else
    Option.bind (ao_ y4.2 (aJ_ (2*(g+1)+1))) λ(y6:Int×regex_parser) =>
    some ((true,y6.2)))):=by
 unfold bj_;rw[kr_,decide_eq_false (by omega),cond_false];have e1:regex_parser.mk (ps s i g C bad).s_ (w64 ((ps s i g C bad).at_+1)) (w64 ((g:Int)+1)) (ps s i g C bad).code_ (ps s i g C bad).bad_=ps s (i+1) (g+1) C bad:=by
  unfold ps;simp only[];rw[am_ (by omega),am_ (by omega)]
 have e2:w64 (2*(w64 ((g:Int)+1)))=((2*(g+1):Nat):Int):=by
  rw[am_ (by omega),bK_ ⟨by omega,by omega⟩];omega
 have e3:w64 (((2*(g+1):Nat):Int)+1)=((2*(g+1)+1:Nat):Int):=am_ (by omega);rw[e1,e2,e3,cR_ (by omega)];simp only[qBs];rw[am_ (by omega)];rfl
theorem ks_{s:Str}{d i g n:Nat}{C:List Xz}{bad:Int}(h:s[i]? = some 40):ap_ (ag_ n) (ps s i g C bad) (d:Int)=(bj_ (ag_ n) (ps s i g C bad) (d:Int)).bind λy=>some (y.1,y.2):=by
 unfold ap_;rw[bq_ h];simp only[qBs,Bool.not_true,cond_false];rw[show((((40:UInt8).toNat:Int)==40))=true from rfl,cond_true];cases bj_ (ag_ n) (ps s i g C bad) (d:Int)<;>rfl
theorem go_inner{s:Str}{d i g e:Nat}(h:s[i]? = some 40)(hg9:g<9)(ih:GoP s .rx (d+1) (i+1) (g+1) (.err e)):GoP s .at d i g (.err e):=by
 intro hs hi hg hd C bad n hC hn hc;have hlt:=as_ h;obtain⟨p,hp,hb⟩:=ih hs (by omega) (by omega) (by omega) (C++[aJ_ (2*(g+1))]) bad n (by simp only[qLa,qLc,List.length_nil];omega) (by omega);refine⟨p,?_,hb⟩;rw[ks_ h,jk_ hlt hs hg9 hd (by omega),hp];rfl
theorem go_unc{s:Str}{d i g q g1:Nat}{a:Re}(h:s[i]? = some 40)(hg9:g<9)(ih:GoP s .rx (d+1) (i+1) (g+1) (.ok a q g1))(hc:s[q]? ≠ some 41):GoP s .at d i g (.err q):=by
 intro hs hi hg hd C bad n hC hn _;have hlt:=as_ h;have hp:_=_:=ih hs (by omega) (by omega) (by omega) (C++[aJ_ (2*(g+1))]) bad n (by simp only[qLa,qLc,List.length_nil];omega) (by omega);refine⟨ps s q g1 ((C++[aJ_ (2*(g+1))])++a.code (C++[aJ_ (2*(g+1))]).length) (q:Int),?_,rfl⟩;rw[ks_ h,jk_ hlt hs hg9 hd (by omega),hp];simp only[qBs,Bool.not_true,cond_false];rw[next_f hs (c:=41) (k:=41) rfl hc];rfl
theorem go_grp{s:Str}{d i g q g1:Nat}{a:Re}(h:s[i]? = some 40)(hg9:g<9)(hr:RP s .rx (d+1) (i+1) (g+1) (.ok a q g1))(ih:GoP s .rx (d+1) (i+1) (g+1) (.ok a q g1))(hc:s[q]? = some 41):GoP s .at d i g (.ok (.grp (g+1) a) (q+1) g1):=by
 intro hs hi hg hd C bad n hC hn _;have hlt:=as_ h;have hgood:=hr.good (by omega) (by omega);simp only[PK.inc]at hgood;have hp:_=_:=ih hs (by omega) (by omega) (by omega) (C++[aJ_ (2*(g+1))]) bad n (by simp only[qLa,qLc,List.length_nil];omega) (by omega);show _=_;rw[ks_ h,jk_ hlt hs hg9 hd (by omega),hp];simp only[qBs,Bool.not_true,cond_false];rw[next_t hs (c:=41) (k:=41) rfl hc];simp only[qBs,Bool.not_true,cond_false];rw[cR_ (by simp only[qLa,qLc,List.length_nil,az_];omega)];simp only[qBs,Re.code];rw[show(C++[aJ_ (2*(g+1))]).length=C.length+1 from by simp,List.append_assoc,List.append_assoc,List.singleton_append]
theorem go_sym{s:Str}{d i g:Nat}{c:UInt8}(h:s[i]? = some c)(hc:c=42\/c=43\/c=63):GoP s .at d i g (.err i):=by
 intro hs hi hg hd C bad n hC hn _;refine⟨ps s i g C (i:Int),?_,rfl⟩;unfold ap_;rw[bq_ h];rcases hc with rfl|rfl|rfl<;>rfl
theorem jl_{s:Str}{i g:Nat}{C:List Xz}{bad:Int}(hlt:i<9000000):some (true,regex_parser.mk s (w64 ((i:Int)+1)) (g:Int) C bad)=some (true,ps s (i+1) g C bad):=by
 rw[am_ (by omega)];rfl
theorem go_any{s:Str}{d i g:Nat}(h:s[i]? = some 46):GoP s .at d i g (.ok .any (i+1) g):=by
 intro hs hi hg hd C bad n hC hn _;show _=_;unfold ap_;rw[bq_ h];simp only[qBs,Bool.not_true,cond_false];rw[cR_ (x:=Xz.mk 2 0 [] false 0 0) (by omega)];exact jl_ (by omega)
theorem go_bol{s:Str}{d i g:Nat}(h:s[i]? = some 94):GoP s .at d i g (.ok .bol (i+1) g):=by
 intro hs hi hg hd C bad n hC hn _;show _=_;unfold ap_;rw[bq_ h];simp only[qBs,Bool.not_true,cond_false];rw[cR_ (x:=Xz.mk 4 0 [] false 0 0) (by omega)];exact jl_ (by omega)
theorem go_eol{s:Str}{d i g:Nat}(h:s[i]? = some 36):GoP s .at d i g (.ok .eol (i+1) g):=by
 intro hs hi hg hd C bad n hC hn _;show _=_;unfold ap_;rw[bq_ h];simp only[qBs,Bool.not_true,cond_false];rw[cR_ (x:=Xz.mk 5 0 [] false 0 0) (by omega)];exact jl_ (by omega)
theorem go_cls{s:Str}{d i g:Nat}{r:SR}(h:s[i]? = some 91)(hc:Cx s (clsI s (i+1)) [] r):GoP s .at d i g (clsR g (clsN s (i+1)) r):=by
 intro hs hi hg hd C bad n hC hn _;have e1:regex_parser.mk (ps s i g C bad).s_ (w64 ((ps s i g C bad).at_+1)) (ps s i g C bad).groups_ (ps s i g C bad).code_ (ps s i g C bad).bad_=ps s (i+1) g C bad:=by
  unfold ps;simp only[];rw[am_ (by omega)]
 have e2:ap_ (ag_ n) (ps s i g C bad) (d:Int)=some (clsP s g C bad (clsN s (i+1)) r):=by
  unfold ap_;rw[bq_ h];simp only[qBs,Bool.not_true,cond_false];rw[e1,class_eq hs (by omega) hc];rfl
 show ResP s C bad (ap_ (ag_ n) (ps s i g C bad) (d:Int)) _;rw[e2];cases r with
 | err e=>exact⟨_,rfl,rfl⟩
 | ok x q=>rfl
theorem go_esc{s:Str}{d i g:Nat}(h:s[i]? = some 92):GoP s .at d i g (escR g (escS s i)):=by
 intro hs hi hg hd C bad n hC hn _;have hlt:=as_ h;show ResP s C bad (ap_ (ag_ n) (ps s i g C bad) (d:Int)) _;unfold ap_;rw[bq_ h];simp only[qBs,Bool.not_true,cond_false];rw[mv_ hs hlt];cases escS s i with
 | err e=>exact⟨_,rfl,rfl⟩
 | ok b q =>
  simp only[qBs,Bool.not_true,cond_false];rw[cR_ (i:=q) (x:=Xz.mk 1 (b.toNat:Int) [] false 0 0) (by omega)];rfl
theorem go_chr{s:Str}{d i g:Nat}{c:UInt8}(h:s[i]? = some c)(hc:spec c=false):GoP s .at d i g (.ok (.chr c) (i+1) g):=by
 intro hs hi hg hd C bad n hC hn _;show _=_;unfold spec at hc;simp only[Bool.or_eq_false_iff]at hc;obtain⟨⟨⟨⟨⟨⟨⟨⟨⟨⟨a1,a2⟩,a3⟩,a4⟩,a5⟩,a6⟩,a7⟩,a8⟩,a9⟩,a10⟩,a11⟩:=hc;have k (m:UInt8) (z:Int) (hz:z=(m.toNat:Int)) (hm:(c==m)=false):((c.toNat:Int)==z)=false:=by
  subst hz;rw[←hm];exact bw_ c m
 unfold ap_;rw[bq_ h];simp only[qBs,Bool.not_true,cond_false];rw[k 40 40 rfl a1,k 41 41 rfl a2,k 42 42 rfl a4,k 43 43 rfl a5,k 63 63 rfl a6,k 46 46 rfl a7,k 94 94 rfl a8,k 36 36 rfl a9,k 91 91 rfl a10,k 92 92 rfl a11];simp only[cond_false,qBs];rw[cR_ (by omega)];exact jl_ (by omega)
theorem jm_{s:Str}{d i g n:Nat}{C:List Xz}{bad:Int}{r:PX}(h:ResO s C bad (ah_ (aT_ (d:Int) (ag_ n)) BIG (s,(i:Int),(g:Int),bad,C)) r):ResP s C bad (bQ_ (ag_ n) (ps s i g C bad) (d:Int)) r:=by
 have e:bQ_ (ag_ n) (ps s i g C bad) (d:Int)=(ah_ (aT_ (d:Int) (ag_ n)) BIG (s,(i:Int),(g:Int),bad,C)).bind λwo1=>match wo1 with
  | .ret r1=>some r1
  | .fall _=>none:=rfl
 rw[e];cases r with
 | err e =>
  obtain⟨p,hp,hb⟩:=h;rw[hp];exact⟨p,rfl,hb⟩
 | ok a q g1 =>
  have h:_=_:=h;rw[h];rfl
theorem regex_S{n:Nat}{p:regex_parser}{d:Int}:ag_ (n+1) p d=bB_ (ag_ n) p d:=rfl
theorem go_rxbad{s:Str}{d i g e:Nat}(ih:GoP s .br d i g (.err e)):GoP s .rx d i g (.err e):=by
 intro hs hi hg hd C bad n hC hn;obtain⟨n,rfl⟩:∃k,n=k+1:=⟨n-1,by omega⟩;obtain⟨p,hp,hb⟩:=jm_ (ih hs hi hg hd C bad n hC (by omega) BIG (by unfold BIG;omega));refine⟨p,?_,hb⟩;rw[regex_S];unfold bB_;rw[hp];rfl
theorem go_rxone{s:Str}{d i g q g1:Nat}{a:Re}(ih:GoP s .br d i g (.ok a q g1))(hq:s[q]? ≠ some 124):GoP s .rx d i g (.ok a q g1):=by
 intro hs hi hg hd C bad n hC hn;obtain⟨n,rfl⟩:∃k,n=k+1:=⟨n-1,by omega⟩;have hp:_=_:=jm_ (ih hs hi hg hd C bad n hC (by omega) BIG (by unfold BIG;omega));show _=_;rw[regex_S];unfold bB_;rw[hp];simp only[qBs,Bool.not_true,cond_false];rw[next_f hs (c:=124) (k:=124) rfl hq];rfl
theorem rx_step{s:Str}{d i g q g1 n:Nat}{a:Re}{C:List Xz}{bad:Int}(hs:s.length<=1000)(hl:C.length+a.len<=20000)(hgr:a.grps 100)
  (hp:bQ_ (ag_ n) (ps s i g C bad) (d:Int)=some (true,ps s q g1 (C++a.code C.length) bad)) (hq:s[q]? = some 124) :
  ag_ (n+1) (ps s i g C bad) (d:Int)=(ag_ n (ps s (q+1) g1 (C++(be_ (C.length+1) (C.length+a.len+2)::(a.code (C.length+1)++[cj_ 0]))) bad) (d:Int)).bind λy6 =>
   (bif(!y6.1)then
    some ((false,y6.2))
   else
    (aj_ y6.2.code_ ((C.length+a.len+1:Nat):Int)).bind λy7 =>
    some ((true,(regex_parser.mk y6.2.s_ y6.2.at_ y6.2.groups_ (y6.2.code_.set (C.length+a.len+1) (Xz.mk y7.Op_ y7.C_ y7.Xt y7.Xl (y6.2.code_.length:Int) y7.Y_)) y6.2.bad_)))):=by
 have hlen1:(a.code (C.length+1)).length=a.len:=az_ a _;rw[regex_S];unfold bB_;rw[hp];simp only[qBs,Bool.not_true,cond_false,ft_];rw[next_t hs (c:=124) (k:=124) rfl hq];simp only[qBs,Bool.not_true,cond_false];rw[ko_ rfl (by omega) hgr];simp only[qBs];rw[cR_ (by simp only[qLa,qLc];omega)];simp only[qBs,ft_];have hk:(C++Xz.mk 6 0 [] false (w64 ((C.length:Int)+1)) 0::a.code (C.length+1)).length=C.length+a.len+1:=by
  simp only[qLa,qLc,hlen1];omega
 rw[hk,List.append_assoc,List.cons_append,cd_ rfl];simp only[qBs];rw[dK_ (es_ _),am_ (i:=C.length) (by omega),am_ (by omega)];rfl
theorem go_rxerr{s:Str}{d i g q g1 e:Nat}{a:Re}(h:RP s .br d i g (.ok a q g1))(hq:s[q]? = some 124)(ih:GoP s .br d i g (.ok a q g1))(ih2:GoP s .rx d (q+1) g1 (.err e)):GoP s .rx d i g (.err e):=by
 intro hs hi hg hd C bad n hC hn;obtain⟨n,rfl⟩:∃k,n=k+1:=⟨n-1,by omega⟩;have hgood:=h.good hi hg;simp only[PK.inc]at hgood;have hlt:=as_ hq;have hp:_=_:=jm_ (ih hs hi hg hd C bad n hC (by omega) BIG (by unfold BIG;omega));obtain⟨p,hp2,hb⟩:=ih2 hs (by omega) (by omega) (by omega) (C++(be_ (C.length+1) (C.length+a.len+2)::(a.code (C.length+1)++[cj_ 0]))) bad n (by simp only[qLa,qLc,List.length_nil,az_];omega) (by omega);refine⟨p,?_,hb⟩;rw[rx_step hs (by omega) hgood.2.2.2.2.2 hp hq,hp2];rfl
theorem go_rxalt{s:Str}{d i g q g1 q2 g2:Nat}{a b:Re}(h:RP s .br d i g (.ok a q g1))(hq:s[q]? = some 124)(ih:GoP s .br d i g (.ok a q g1))(ih2:GoP s .rx d (q+1) g1 (.ok b q2 g2)):GoP s .rx d i g (.ok (.alt a b) q2 g2):=by
 intro hs hi hg hd C bad n hC hn;obtain⟨n,rfl⟩:∃k,n=k+1:=⟨n-1,by omega⟩;have hgood:=h.good hi hg;simp only[PK.inc]at hgood;have hlt:=as_ hq;have hp:_=_:=jm_ (ih hs hi hg hd C bad n hC (by omega) BIG (by unfold BIG;omega));have hp2:_=_:=ih2 hs (by omega) (by omega) (by omega) (C++(be_ (C.length+1) (C.length+a.len+2)::(a.code (C.length+1)++[cj_ 0]))) bad n (by simp only[qLa,qLc,List.length_nil,az_];omega) (by omega);show _=_;rw[rx_step hs (by omega) hgood.2.2.2.2.2 hp hq,hp2];have hlen1:(a.code (C.length+1)).length=a.len:=az_ a _;simp only[qBs,Bool.not_true,cond_false,ft_];have hk:(C++(be_ (C.length+1) (C.length+a.len+2)::(a.code (C.length+1)++[cj_ 0]))).length=C.length+a.len+2:=by
  simp only[qLa,qLc,List.length_nil,hlen1];omega
 have hk2:(C++(be_ (C.length+1) (C.length+a.len+2)::a.code (C.length+1))).length=C.length+a.len+1:=by
  simp only[qLa,qLc,hlen1];omega
 rw[hk];have e1:(C++(be_ (C.length+1) (C.length+a.len+2)::(a.code (C.length+1)++[cj_ 0])))++b.code (C.length+a.len+2)=(C++(be_ (C.length+1) (C.length+a.len+2)::a.code (C.length+1)))++cj_ 0::b.code (C.length+a.len+2):=by simp
 rw[e1,cd_ (by rw[hk2])];simp only[qBs];rw[dK_ hk2.symm];have e2:(((C++(be_ (C.length+1) (C.length+a.len+2)::a.code (C.length+1)))++cj_ 0::b.code (C.length+a.len+2)).length:Int)=((C.length+a.len+b.len+2:Nat):Int):=by
  rw[qLa,hk2];simp only[qLc,az_];omega
 rw[e2];simp only[Re.code,List.append_assoc,List.cons_append];rfl
theorem RP.go{s:Str}{k:PK}{d i g:Nat}{r:PX}(h:RP s k d i g r):GoP s k d i g r:=by
 induction h with
 | stop h=>exact go_stop h
 | par h=>exact go_par h
 | bad h h1 h2 hp ih=>exact go_bad h h1 h2 ih
 | next h h1 h2 hp ht ih1 ih2=>exact go_next h h1 h2 hp ih1 ih2
 | pcbad h ih=>exact go_pcbad ih
 | pcok h ih=>exact go_pcok h ih
 | many h hg=>exact go_many h hg
 | inner h hg hr ih=>exact go_inner h hg ih
 | unc h hg hr hc ih=>exact go_unc h hg ih hc
 | grp h hg hr hc ih=>exact go_grp h hg hr ih hc
 | sym h hc=>exact go_sym h hc
 | any h=>exact go_any h
 | bol h=>exact go_bol h
 | eol h=>exact go_eol h
 | cls h hc=>exact go_cls h hc
 | esc h=>exact go_esc h
 | chr h hc=>exact go_chr h hc
 | rxbad h ih=>exact go_rxbad ih
 | rxone h hq ih=>exact go_rxone ih hq
 | rxerr h hq ht ih1 ih2=>exact go_rxerr h hq ih1 ih2
 | rxalt h hq ht ih1 ih2=>exact go_rxalt h hq ih1 ih2
def rp(C:List Xz)(i g:Nat)(b:Bool):Xq:=Xq.mk C (i:Int) (g:Int) b
theorem rpE(C:List Xz)(i g:Nat)(b:Bool):Xq.mk C (i:Int) (g:Int) b=rp C i g b:=rfl
theorem iC_{s:Str}{p:Xq}(h:p.Xb=true)(k:Int):bk_ s p k=some (false,p):=by
 unfold bk_;rw[h];rfl
theorem is_eq{s:Str}{C:List Xz}{i g:Nat}{c:UInt8}{k:Int}(hk:k=(c.toNat:Int)):bk_ s (rp C i g false) k=some (decide (s[i]? = some c),rp C i g false):=by
 subst hk;unfold bk_ rp;simp only[Bool.not_false,Bool.true_and];by_cases hi:i<s.length
 .rw[decide_eq_true (by omega),cond_true,dU_ hi];simp only[qBs];rw[bw_,List.getElem?_eq_getElem hi];by_cases h:s[i]=c
  .rw[beq_iff_eq.2 h,decide_eq_true (by rw[h])]
  .rw[beq_eq_false_iff_ne.2 h,decide_eq_false (λe=>h (qSj e))]
 .rw[decide_eq_false (by omega),cond_false,List.getElem?_eq_none (by omega)];rfl
theorem is_t{s:Str}{C:List Xz}{i g:Nat}{c:UInt8}{k:Int}(hk:k=(c.toNat:Int))(h:s[i]? = some c):bk_ s (rp C i g false) k=some (true,rp C i g false):=by
 rw[is_eq hk,decide_eq_true h]
theorem is_f{s:Str}{C:List Xz}{i g:Nat}{c:UInt8}{k:Int}(hk:k=(c.toNat:Int))(h:s[i]? ≠ some c):bk_ s (rp C i g false) k=some (false,rp C i g false):=by
 rw[is_eq hk,decide_eq_false h]
theorem cC_{C:List Xz}{i g:Int}{b:Bool}{x:Xz}(h:C.length<=100000):aF_ (Xq.mk C i g b) x=some (Xq.mk (C++[x]) i g b):=by
 unfold aF_;simp only[];rw[bS_ (by simp only[qLc,List.length_nil];omega) (by simp only[qLc,List.length_nil];omega)];rfl
def rchar (s:Str) (L:List Xz) (i g:Int) (b:Bool):Option (Int×(List Xz)×Int×Int×Bool) :=
 (ay_ s i).bind λy22 =>
 (bif(y22 != 92)then
  some (y22,L,(w64 (i+1)),g,b)
 else
  (bif((w64 (i+1))==(s.length:Int))then
   some (0,L,(w64 (i+1)),g,true)
  else
   (ay_ s (w64 (i+1))).bind λy23 =>
   (bif(y23==110)then
    some (10,L,(w64 ((w64 (i+1))+1)),g,b)
   else
    (bif(y23==116)then
     some (9,L,(w64 ((w64 (i+1))+1)),g,b)
    else
     some (y23,L,(w64 ((w64 (i+1))+1)),g,b)))))
def chO(L:List Xz)(g:Int):CR->Int×(List Xz)×Int×Int×Bool | .err e=>(0,L,(e:Int),g,true) | .ok b q=>((b.toNat:Int),L,(q:Int),g,false)
def escC(s:Str)(i:Nat)(c:UInt8):CR:=if c=92 then escS s i else .ok c (i+1)
theorem bi_{s:Str}{i:Nat}{c:UInt8}(h:s[i]? = some c):ay_ s (i:Int)=some (c.toNat:Int):=by
 rw[byteI_nat,h];rfl
theorem rchar_eq{s:Str}{L:List Xz}{i:Nat}{g:Int}{c:UInt8}(hs:s.length<=1000)(h:s[i]? = some c):rchar s L (i:Int) g false=some (chO L g (escC s i c)):=by
 have hlt:=as_ h;unfold rchar escC;rw[bi_ h];simp only[qBs];have k1:((c.toNat:Int) != 92)=(c != 92):=by
  have:((c.toNat:Int)==92)=(c==92):=bw_ c 92;unfold bne;rw[this]
 rw[k1,am_ (by omega)];by_cases h92:c=92
 .subst h92;rw[if_pos rfl];simp only[bne_self_eq_false,cond_false];unfold escS;cases h1:s[i+1]? with
  | none =>
   have:=List.getElem?_eq_none_iff.1 h1;rw[beq_iff_eq.2 (by omega:((i+1:Nat):Int)=(s.length:Int))];rfl
  | some d =>
   have hlt1:=as_ h1;rw[beq_eq_false_iff_ne.2 (by omega:((i+1:Nat):Int)≠(s.length:Int)),cond_false,bi_ h1];simp only[qBs];rw[am_ (by omega)];have k2:((d.toNat:Int)==110)=(d==110):=bw_ d 110;have k3:((d.toNat:Int)==116)=(d==116):=bw_ d 116;rw[k2,k3];unfold escB;by_cases h2:d=110
   .subst h2;rfl
   .rw[beq_eq_false_iff_ne.2 h2,if_neg h2,cond_false];by_cases h3:d=116
    .subst h3;rfl
    .rw[beq_eq_false_iff_ne.2 h3,if_neg h3,cond_false];rfl
 .rw[if_neg h92,bne_iff_ne.2 h92,cond_true];rfl
theorem h6_(x0:Str)(s2:Int×Int×Bool×(List Xz)×(List Int)):eE_ x0 s2 =
 Option.bind (bif(decide (s2.1<(x0.length:Int)))then 
  (ay_ x0 s2.1).bind λy17 =>
  some ((y17 != 93)||((s2.2.2.2.2.length:Int)==0))
   else some false) λ(y18:Bool) =>
 (bif y18 then
  (ay_ x0 s2.1).bind λy19 =>
  Option.bind (bif(y19==93)then some true else 
   (ay_ x0 s2.1).bind λy20 =>
   some (y20==45)
   ) λ(y21:Bool) =>
  (bif y21 then
   some (.done (.ret ((Xq.mk s2.2.2.2.1 s2.1 s2.2.1 true))))
  else
   Option.bind (rchar x0 s2.2.2.2.1 s2.1 s2.2.1 s2.2.2.1) λ(o5:Int×(List Xz)×Int×Int×Bool) =>
   Option.bind (
    (bk_ x0 (Xq.mk o5.2.1 o5.2.2.1 o5.2.2.2.1 o5.2.2.2.2) 45).bind λy24 =>
    (bif y24.1 then
     Option.bind (bif((w64 (o5.2.2.1+1))==(x0.length:Int))then some true else 
      (ay_ x0 (w64 (o5.2.2.1+1))).bind λy25 =>
      some (y25==93)
      ) λ(y26:Bool) =>
     Option.bind (bif y26 then some true else 
      (ay_ x0 (w64 (o5.2.2.1+1))).bind λy27 =>
      some (y27==45)
      ) λ(y28:Bool) =>
     (bif y28 then
      some (.ret ((Xq.mk y24.2.L_ (w64 (o5.2.2.1+1)) o5.2.2.2.1 true)))
     else
      Option.bind (rchar x0 y24.2.L_ (w64 (o5.2.2.1+1)) o5.2.2.2.1 o5.2.2.2.2) λ(o6:Int×(List Xz)×Int×Int×Bool) =>
      (bif((!o6.2.2.2.2)&&(decide (o6.1<o5.1)))then
       some (.fall (o6.1,o6.2.1,(maxI (w64 (o5.2.2.1+1)) (w64 (o6.2.2.1-1))),o6.2.2.2.1,true))
      else
       some (.fall (o6.1,o6.2.1,o6.2.2.1,o6.2.2.2.1,o6.2.2.2.2))))
    else
     some (.fall (o5.1,y24.2.L_,o5.2.2.1,o5.2.2.2.1,o5.2.2.2.2)))
    ) λ(wo7:Out (Int×(List Xz)×Int×Int×Bool) Xq)=>match wo7 with
   | .ret r7=>some (.done (.ret r7))
   | .fall o7 =>
    (bif o7.2.2.2.2 then
     some (.done (.ret ((Xq.mk o7.2.1 o7.2.2.1 o7.2.2.2.1 o7.2.2.2.2))))
    else
     (room 1 s2.2.2.2.2 [o5.1,o7.1]).bind λy31 =>
     some (.next (o7.2.2.1,o7.2.2.2.1,o7.2.2.2.2,o7.2.1,y31))))
 else
  some (.done (.fall (s2.1,s2.2.1,s2.2.2.1,s2.2.2.2.1,s2.2.2.2.2)))):=rfl
theorem u8_ne(c k:UInt8):((c.toNat:Int) != (k.toNat:Int))=(c != k):=by
 unfold bne;rw[bw_]
theorem jn_{s:Str}{i:Nat}{set:Str}:(bif(decide ((i:Int)<(s.length:Int)))then 
  (ay_ s (i:Int)).bind λy17 =>
  some ((y17 != 93)||(((aG_ set).length:Int)==0))
   else some false)=some (decide (i<s.length)&&decide (¬(set≠[]/\s[i]? = some 93))):=by
 by_cases hi:i<s.length
 .rw[decide_eq_true (by omega),cond_true,dU_ hi,decide_eq_true hi,Bool.true_and];simp only[qBs];have k1:((s[i].toNat:Int) != 93)=(s[i] != 93):=u8_ne _ 93;rw[k1,List.getElem?_eq_getElem hi,c1_]
  congr 1
  cases set with
  | nil=>simp
  | cons b l => 
   simp only[qLc];rw[show(((l.length+1:Nat):Int)==0)=false from beq_eq_false_iff_ne.2 (by omega),Bool.or_false];by_cases h:s[i]=93
   .rw[h];simp
   .rw[bne_iff_ne.2 h,decide_eq_true];exact λe=>h (qSj e.2)
 .rw[decide_eq_false (by omega),cond_false,decide_eq_false hi,Bool.false_and]
def PairO(L:List Xz)(g:Nat)(set:Str):PR2->Step (Int×Int×Bool×(List Xz)×(List Int)) (Out (Int×Int×Bool×(List Xz)×(List Int)) Xq) | .err e => .done (.ret (rp L e g true)) | .ok a b q => .next ((q:Int),(g:Int),false,L,aG_ (set++[a,b]))
theorem rcls_step {s:Str} (hs:s.length<=1000) {i g:Nat} {L:List Xz} {set:Str} (hset:set.length<=100000) (hi:i<s.length) (h0:¬(set≠[]/\s[i]? = some 93)):eE_ s ((i:Int),(g:Int),false,L,aG_ set)=some (PairO L g set (dW_ s i)):=by
 rw[h6_];simp only[];rw[jn_,decide_eq_true hi,decide_eq_true h0];obtain⟨c,hc⟩:∃c,s[i]? = some c:=⟨s[i],List.getElem?_eq_getElem hi⟩;simp only[qBs,Bool.and_self,cond_true];rw[bi_ hc];simp only[qBs];have k1:((c.toNat:Int)==93)=(c==93):=bw_ c 93;have k2:((c.toNat:Int)==45)=(c==45):=bw_ c 45;rw[k1,k2];by_cases h1:c=93
 .subst h1;unfold dW_ chS;rw[hc];rfl
 .rw [beq_eq_false_iff_ne.2 h1,cond_false];simp only[qBs];by_cases h2:c=45
  .subst h2;unfold dW_ chS;rw[hc];rfl
  .rw [beq_eq_false_iff_ne.2 h2,cond_false,rchar_eq hs hc];have ech:chS s i=escC s i c:=by
    unfold chS escC;rw[hc];simp only[];rw[if_neg (by rintro(h|h)<;>contradiction)]
   unfold dW_;rw[ech];have hlen:=λb q (e:chS s i = .ok b q)=>fs_ e
   rw[ech]at hlen;cases he:escC s i c with
   | err e => 
    simp only[qBs,chO];rw[iC_ rfl];rfl
   | ok a p =>
    have hp:=hlen a p he;simp only[qBs,chO];rw[rpE,is_eq (c:=45) (k:=45) rfl];simp only[qBs];have hroom:∀x:Int,room 1 (aG_ set) [(a.toNat:Int),x]=some (aG_ set++[(a.toNat:Int),x]):=λx=>bS_ (by rw[c1_];simp only[qLc,List.length_nil];omega) (by rw[c1_];simp only[qLc,List.length_nil];omega)
    have hcat:∀b:UInt8,aG_ set++[(a.toNat:Int),(b.toNat:Int)]=aG_ (set++[a,b]):=λb=>by unfold aG_;rw[List.map_append];rfl
    by_cases h3:s[p]? = some 45
    .have hp3:=as_ h3;rw[decide_eq_true h3,if_pos h3];simp only[cond_true];rw[am_ (by omega)];cases h4:s[p+1]? with
     | none =>
      have:=List.getElem?_eq_none_iff.1 h4;rw[beq_iff_eq.2 (by omega:((p+1:Nat):Int)=(s.length:Int))];unfold chS;rw[h4];rfl
     | some d =>
      have hp4:=as_ h4;rw[beq_eq_false_iff_ne.2 (by omega:((p+1:Nat):Int)≠(s.length:Int)),cond_false,bi_ h4];simp only[qBs];have k3:((d.toNat:Int)==93)=(d==93):=bw_ d 93;have k4:((d.toNat:Int)==45)=(d==45):=bw_ d 45;rw[k3,k4];by_cases h5:d=93
      .subst h5;unfold chS;rw[h4];rfl
      .rw [beq_eq_false_iff_ne.2 h5,cond_false];simp only[qBs];by_cases h6:d=45
       .subst h6;unfold chS;rw[h4];rfl
       .rw [beq_eq_false_iff_ne.2 h6,cond_false,rchar_eq hs h4];have ech2:chS s (p+1)=escC s (p+1) d:=by
         unfold chS escC;rw[h4];simp only[];rw[if_neg (by rintro(h|h)<;>contradiction)]
        rw[ech2];have hlen2:=λb q (e:chS s (p+1) = .ok b q)=>fs_ e
        rw[ech2]at hlen2;cases he2:escC s (p+1) d with
        | err e=>rfl
        | ok b q =>
         have hq:=hlen2 b q he2;simp only[qBs,chO,Bool.not_false,Bool.true_and];by_cases h7:b.toNat<a.toNat
         .rw[if_pos h7,decide_eq_true (by omega),cond_true,bK_ (n:=(q:Int)-1) ⟨by omega,by omega⟩];have:maxI ((p+1:Nat):Int) ((q:Int)-1)=((q-1:Nat):Int):=by
           unfold maxI;split<;>omega
          rw[this];rfl
         .rw[if_neg h7,decide_eq_false (by omega),cond_false];simp only[qBs,cond_false];rw[hroom,hcat];rfl
    .rw[decide_eq_false h3,if_neg h3];simp only[cond_false,qBs];rw[hroom,hcat];rfl
def rclsO(s:Str)(L:List Xz)(g:Nat):SR->Out (Int×Int×Bool×(List Xz)×(List Int)) Xq->Prop | .err e,o=>o = .ret (rp L e g true)\/(e=s.length/\∃set,o = .fall ((e:Int),(g:Int),false,L,aG_ set)) | .ok x q,o=>o = .fall (((q-1:Nat):Int),(g:Int),false,L,aG_ x)/\0<q/\q<=s.length
theorem rcls_go{s:Str}(hs:s.length<=1000){g:Nat}{L:List Xz}{i:Nat}{set:Str}{r:SR}(h:Cx s i set r):i<=s.length->∀(f:Nat),s.length-i<f->set.length+2*(s.length-i)<=5000 ->
  ∃o,ah_ (eE_ s) f ((i:Int),(g:Int),false,L,aG_ set)=some o/\rclsO s L g r o:=by
 induction h with
 | @done i set h0 h =>
  intro hi f hf hl;obtain⟨f,rfl⟩:∃k,f=k+1:=⟨f-1,by omega⟩;have hlt:=as_ h;refine⟨_,aw_ (b := .fall ((i:Int),(g:Int),false,L,aG_ set)) ?_,?_,by omega,by omega⟩
  .rw[h6_];simp only[];rw[jn_,show decide (¬(set≠[]/\s[i]? = some 93))=false from decide_eq_false (λe=>e ⟨h0,h⟩),Bool.and_false];rfl
  .rfl
 | @err i set e h0 h =>
  intro hi f hf hl;obtain⟨f,rfl⟩:∃k,f=k+1:=⟨f-1,by omega⟩;rcases Nat.lt_or_ge i s.length with hlt|hge
  .refine⟨_,aw_ (b := .ret (rp L e g true)) ?_,.inl rfl⟩;rw[rcls_step hs (by omega) hlt h0,h];rfl
  .have hn:s[i]? = none:=List.getElem?_eq_none hge;have he:e=i:=by
    unfold dW_ chS at h;rw[hn]at h;injection h with h;exact h.symm
   subst he;refine⟨_,aw_ (b := .fall ((e:Int),(g:Int),false,L,aG_ set)) ?_,.inr ⟨by omega,set,rfl⟩⟩;rw[h6_];simp only[];rw[jn_,decide_eq_false (by omega:¬e<s.length),Bool.false_and];rfl
 | @next i set a b q r h0 h t ih =>
  intro hi f hf hl;obtain⟨f,rfl⟩:∃k,f=k+1:=⟨f-1,by omega⟩;have hq:=hM_ h;have hst:=rcls_step hs (i:=i) (g:=g) (L:=L) (set:=set) (by omega) (by omega) h0;rw[h]at hst;obtain⟨o,ho,hr⟩:=ih (by omega) f (by omega) (by simp only[qLa,qLc,List.length_nil];omega);exact⟨o,aW_ hst ho,hr⟩
def rclsP(C:List Xz)(g:Nat)(n:Bool):SR->Xq | .err e=>rp C e g true | .ok x q=>rp (C++[setI x n]) q g false
theorem rclass_eq{s:Str}(hs:s.length<=1000){g:Nat}{C:List Xz}{i:Nat}{r:SR}(hi:i<s.length)(hC:C.length<=100000)(h:Cx s (clsI s (i+1)) [] r):eQ_ s (rp C i g false)=some (rclsP C g (clsN s (i+1)) r):=by
 have hci:=clsI_le s (i+1) (by omega);obtain⟨o,ho,hr⟩:=rcls_go hs (g:=g) (L:=C) h hci.2 BIG (by unfold BIG;omega) (by simp only[List.length_nil];omega);unfold eQ_;have e1:Xq.mk (rp C i g false).L_ (w64 ((rp C i g false).At_+1)) (rp C i g false).N_ (rp C i g false).Xb=rp C (i+1) g false:=by
  unfold rp;simp only[];rw[am_ (by omega)]
 rw[e1,is_eq (c:=94) (k:=94) rfl];have e2:(rp C i g false).At_=(i:Int):=rfl;simp only[qBs,e2];rw[am_ (i:=i) (by omega),am_ (by omega)];have e3:(bif decide (s[i+1]? = some 94)then some (((i+1+1:Nat):Int),(rp C i g false).N_,(rp C i g false).Xb,(rp C (i+1) g false).L_,(Xz.mk 3 0 [] true 0 0))else some (((i+1:Nat):Int),(rp C i g false).N_,(rp C i g false).Xb,(rp C (i+1) g false).L_,(Xz.mk 3 0 [] false 0 0)))=some ((clsI s (i+1):Int),(g:Int),false,C,Xz.mk 3 0 [] (clsN s (i+1)) 0 0):=by
  unfold clsI clsN;by_cases h:s[i+1]? = some 94
  .rw[if_pos h,decide_eq_true h];rfl
  .rw[if_neg h,decide_eq_false h];rfl
 refine cu_ e3 ?_;refine cu_ ho ?_;cases r with
 | err e =>
  rcases hr with rfl|⟨he,set,rfl⟩
  .rfl
  .simp only[];rw[beq_iff_eq.2 (by omega:(e:Int)=(s.length:Int))];rfl
 | ok x q =>
  obtain⟨rfl,h1,h2⟩:=hr;simp only[];rw[beq_eq_false_iff_ne.2 (by omega:((q-1:Nat):Int)≠(s.length:Int)),cond_false,cC_ (by omega),h4_,am_ (by omega),show q-1+1=q by omega];rfl
def ResR(s:Str)(z:Bool)(C:List Xz)(o:Option Xq):PX->Prop | .err e=>∃p,o=some p/\p.At_=(e:Int)/\(p.Xb=true\/(z=true/\p.Xb=false/\s[e]? = some 41))/\C.length<=p.L_.length | .ok a q g=>o=some (rp (C++a.code C.length) q g false)
def ResL(s:Str)(z:Bool)(C:List Xz)(o:Option (Int×Int×Bool×(List Xz))):PX->Prop | .err e=>∃(n:Int) (b:Bool) (L:List Xz),o=some ((e:Int),n,b,L)/\(b=true\/(z=true/\b=false/\s[e]? = some 41))/\C.length<=L.length | .ok a q g=>o=some ((q:Int),(g:Int),false,C++a.code C.length)
def GoR(s:Str)(k:PK)(d i g:Nat)(r:PX):Prop:=s.length<=1000->i<=s.length->g<=9->∀(C:List Xz) (n:Nat),C.length+2*(s.length-i)<=5000->match k with | .rx=>s.length-i<n->ResR s (decide (d=0)) C (av_ n s (rp C i g false)) r | .br=>s.length-i<=n->∀f,s.length-i+1<f->ResL s (decide (d=0)) C (ah_ (bh_ s (av_ n)) f ((i:Int),(g:Int),false,C)) r | .pc=>s.length-i<=n->(∃c,s[i]? = some c/\c≠41)->ResR s false C (cz_ (av_ n) s (rp C i g false)) r | .at=>s.length-i<=n->(∃c,s[i]? = some c/\c≠41)->ResR s false C (aV_ (av_ n) s (rp C i g false)) r
theorem rbr_end{s:Str}{f:Str->Xq->Option Xq}{i g:Int}{C:List Xz}:bh_ s f (i,g,true,C)=some (.done (i,g,true,C)):=rfl
theorem rbr_stop{s:Str}{f:Str->Xq->Option Xq}{i:Nat}{g:Int}{C:List Xz}(h:s[i]? = none\/s[i]? = some 124\/s[i]? = some 41):bh_ s f ((i:Int),g,false,C)=some (.done ((i:Int),g,false,C)):=by
 unfold bh_;simp only[Bool.not_false,Bool.true_and];rcases h with h|h|h
 .have:=List.getElem?_eq_none_iff.1 h;rw[decide_eq_false (by omega)];rfl
 .have:=as_ h;rw[decide_eq_true (by omega),bi_ h];rfl
 .have:=as_ h;rw[decide_eq_true (by omega),bi_ h];rfl
theorem rbr_more{s:Str}{f:Str->Xq->Option Xq}{i g:Nat}{C:List Xz}{c:UInt8}(h:s[i]? = some c)(h1:c≠124)(h2:c≠41):bh_ s f ((i:Int),(g:Int),false,C)=(cz_ f s (rp C i g false)).bind λy10=>some (.next (y10.At_,y10.N_,y10.Xb,y10.L_)):=by
 have hlt:=as_ h;unfold bh_;simp only[Bool.not_false,Bool.true_and];rw[decide_eq_true (by omega),cond_true,bi_ h];simp only[qBs];have k1:((c.toNat:Int) != 124)=(c != 124):=u8_ne c 124;have k2:((c.toNat:Int) != 41)=(c != 41):=u8_ne c 41;rw[k1,k2,bne_iff_ne.2 h1,bne_iff_ne.2 h2];rfl
theorem gr_stop{s:Str}{d i g:Nat}(h:s[i]? = none\/s[i]? = some 124\/(s[i]? = some 41/\0<d)):GoR s .br d i g (.ok .emp i g):=by
 intro hs hi hg C n hC hn f hf;obtain⟨f,rfl⟩:∃k,f=k+1:=⟨f-1,by omega⟩;show _=_;rw[show C++Re.emp.code C.length=C from List.append_nil C];refine aw_ (rbr_stop ?_);rcases h with h|h|h
 .exact .inl h
 .exact .inr (.inl h)
 .exact .inr (.inr h.1)
theorem gr_par{s:Str}{i g:Nat}(h:s[i]? = some 41):GoR s .br 0 i g (.err i):=by
 intro hs hi hg C n hC hn f hf;obtain⟨f,rfl⟩:∃k,f=k+1:=⟨f-1,by omega⟩;exact⟨_,false,C,aw_ (rbr_stop (.inr (.inr h))),.inr ⟨rfl,rfl,h⟩,Nat.le_refl _⟩
theorem gr_bad{s:Str}{d i g e:Nat}{c:UInt8}(h:s[i]? = some c)(h1:c≠124)(h2:c≠41)(ih:GoR s .pc d i g (.err e)):GoR s .br d i g (.err e):=by
 intro hs hi hg C n hC hn f hf;have hlt:=as_ h;obtain⟨f,rfl⟩:∃k,f=k+1+1:=⟨f-2,by omega⟩;obtain⟨p,hp,ha,hb,hl⟩:=ih hs hi hg C n hC hn ⟨c,h,h2⟩;have hb:p.Xb=true:=by
  rcases hb with hb|hb
  .exact hb
  .exact absurd hb.1 (by decide)
 refine⟨p.N_,true,p.L_,aW_ (s':=(p.At_,p.N_,p.Xb,p.L_)) ?_ ?_,.inl rfl,hl⟩
 .rw[rbr_more h h1 h2,hp];rfl
 .rw[hb,ha];exact aw_ rbr_end
theorem gr_next{s:Str}{d i g q g1:Nat}{c:UInt8}{a:Re}{r:PX}(h:s[i]? = some c)(h1:c≠124)(h2:c≠41)(hq:RP s .pc d i g (.ok a q g1))(ih:GoR s .pc d i g (.ok a q g1))(ih2:GoR s .br d q g1 r):GoR s .br d i g (r.pre a):=by
 intro hs hi hg C n hC hn f hf;obtain⟨f,rfl⟩:∃k,f=k+1:=⟨f-1,by omega⟩;have hgood:=hq.good hi hg;simp only[PK.inc]at hgood;have hlen:(C++a.code C.length).length=C.length+a.len:=by rw[qLa,az_]
 have hp:_=_:=ih hs hi hg C n hC hn ⟨c,h,h2⟩;have ht:=ih2 hs (by omega) (by omega) (C++a.code C.length) n (by rw[hlen];omega) (by omega) f (by omega);have hst:bh_ s (av_ n) ((i:Int),(g:Int),false,C)=some (.next ((q:Int),(g1:Int),false,C++a.code C.length)):=by
  rw[rbr_more h h1 h2,hp];rfl
 cases r with
 | err e =>
  obtain⟨m,b,L,hp,hb,hl⟩:=ht;exact⟨m,b,L,aW_ hst hp,hb,by rw[hlen]at hl;omega⟩
 | ok b q2 g2 =>
  have ht:_=_:=ht;show _=_;refine aW_ hst ?_;rw[ht];simp only[Re.code];rw[hlen,List.append_assoc]
theorem gr_pcbad{s:Str}{d i g e:Nat}(ih:GoR s .at d i g (.err e)):GoR s .pc d i g (.err e):=by
 intro hs hi hg C n hC hn hc;obtain⟨p,hp,ha,hb,hl⟩:=ih hs hi hg C n hC hn hc;have hb:p.Xb=true:=by
  rcases hb with hb|hb
  .exact hb
  .exact absurd hb.1 (by decide)
 refine⟨p,?_,ha,.inl hb,hl⟩;unfold cz_;rw[hp];have e1:Xq.mk p.L_ p.At_ p.N_ p.Xb=p:=rfl;simp only[qBs];rw[iC_ hb];simp only[qBs,cond_false,e1];rw[iC_ hb];simp only[qBs,cond_false,e1];rw[iC_ hb];rfl
theorem rp_L(C:List Xz)(i g:Nat)(b:Bool):(rp C i g b).L_=C:=rfl
theorem ei_(C:List Xz)(i g:Nat)(b:Bool):(rp C i g b).At_=(i:Int):=rfl
theorem rp_N(C:List Xz)(i g:Nat)(b:Bool):(rp C i g b).N_=(g:Int):=rfl
theorem et_(C:List Xz)(i g:Nat)(b:Bool):(rp C i g b).Xb=b:=rfl
theorem gr_pcok{s:Str}{d i g q g1:Nat}{a:Re}(hq:RP s .at d i g (.ok a q g1))(ih:GoR s .at d i g (.ok a q g1)):GoR s .pc d i g (post s a q g1):=by
 intro hs hi hg C n hC hn hc;have hgood:=hq.good hi hg;simp only[PK.inc]at hgood;have hp:_=_:=ih hs hi hg C n hC hn hc;have hlen:(a.code C.length).length=a.len:=az_ a _;have hlen1:(a.code (C.length+1)).length=a.len:=az_ a _;have hw:w64 ((C.length:Int)+1)=((C.length+1:Nat):Int):=am_ (by omega);have hw2:w64 ((q:Int)+1)=((q+1:Nat):Int):=am_ (by omega);show ResR s false C (cz_ (av_ n) s (rp C i g false)) (post s a q g1);unfold cz_;rw[hp];simp only[qBs,rp_L,ei_,rp_N,et_];unfold post;by_cases h42:s[q]? = some 42
 .rw[if_pos h42,is_t (c:=42) (k:=42) rfl h42];simp only[qBs,cond_true,rp_L];rw[hw2,jj_ rfl (by omega) hgood.2.2.2.2.2];simp only[qBs];rw[cC_ (by simp only[qLa,qLc];omega)];simp only[qBs];rw[List.append_assoc,List.cons_append,cd_ rfl];simp only[qBs];rw[dK_ (es_ _)];show _=_;simp only[Re.code];have e1:(((C++Xz.mk 6 0 [] false (w64 ((C.length:Int)+1)) 0::(a.code (C.length+1)++[Xz.mk 7 0 [] false (C.length:Int) 0])).length:Nat):Int)=((C.length+a.len+2:Nat):Int):=by
   simp only[qLa,qLc,List.length_nil,hlen1];omega
  rw[e1,hw];rfl
 .rw [if_neg h42,is_f (c:=42) (k:=42) rfl h42];simp only[qBs,cond_false,rp_L];rw[rpE];by_cases h43:s[q]? = some 43
  .rw[if_pos h43,is_t (c:=43) (k:=43) rfl h43];simp only[qBs,cond_true,rp_L];rw[hw2,cC_ (by simp only[qLa];omega)];show _=_;simp only[Re.code,qBs];have e1:w64 (((C++a.code C.length).length:Int)+1)=((C.length+a.len+1:Nat):Int):=by
    rw[bK_ ⟨by omega,by simp only[qLa];omega⟩];simp only[qLa];omega
   rw[e1,←List.append_assoc];rfl
  .rw[if_neg h43,is_f (c:=43) (k:=43) rfl h43];simp only[qBs,cond_false,rp_L];rw[rpE];by_cases h63:s[q]? = some 63
   .rw[if_pos h63,is_t (c:=63) (k:=63) rfl h63];simp only[qBs,cond_true,rp_L];rw[hw2,jj_ rfl (by omega) hgood.2.2.2.2.2];simp only[qBs];rw[cd_ rfl];simp only[qBs];rw[dK_ (es_ _)];show _=_;simp only[Re.code];have e1:(((C++Xz.mk 6 0 [] false (w64 ((C.length:Int)+1)) 0::a.code (C.length+1)).length:Nat):Int)=((C.length+a.len+1:Nat):Int):=by
     simp only[qLa,qLc,hlen1];omega
    rw[e1,hw];rfl
   .rw[if_neg h63,is_f (c:=63) (k:=63) rfl h63];rfl
theorem rat_many{s:Str}{d i g:Nat}(h:s[i]? = some 40)(hg9:9<=g):GoR s .at d i g (.err i):=by
 intro hs hi hg C n hC hn hc;refine⟨rp C i g true,?_,rfl,.inl rfl,Nat.le_refl _⟩;unfold aV_;rw[ei_,rp_N,bi_ h];simp only[qBs];rw[show((((40:UInt8).toNat:Int)==40))=true from rfl,cond_true,show decide ((g:Int)>=9)=true from decide_eq_true (by omega)];rfl
theorem h7_{s:Str}{i g n:Nat}{C:List Xz}(h:s[i]? = some 40)(hs:s.length<=1000)(hg:g<9)(hC:C.length<=5000) :
  aV_ (av_ n) s (rp C i g false)=(av_ n s (rp (C++[aJ_ (2*(g+1))]) (i+1) (g+1) false)).bind λy3 =>
    (bk_ s y3 41).bind λy4 =>
    (bif(!y4.1)then
     some (Xq.mk y4.2.L_ y3.At_ y3.N_ true)
    else
     Option.bind (aF_ (Xq.mk y4.2.L_ y3.At_ y3.N_ y3.Xb) (aJ_ (2*(g+1)+1))) λ(y5:Xq) =>
     some (Xq.mk y5.L_ (w64 (y5.At_+1)) y5.N_ y5.Xb)):=by
 have hlt:=as_ h;unfold aV_;rw[ei_,rp_N,rp_L,et_,bi_ h];simp only[qBs];have e2:w64 (2*(((g+1:Nat):Int)))=((2*(g+1):Nat):Int):=by
  rw[bK_ ⟨by omega,by omega⟩];omega
 have e3:w64 (((2*(g+1):Nat):Int)+1)=((2*(g+1)+1:Nat):Int):=am_ (by omega);rw[show((((40:UInt8).toNat:Int)==40))=true from rfl,cond_true,show decide ((g:Int)>=9)=false from decide_eq_false (by omega),cond_false,am_ (i:=g) (by omega),e2,e3,am_ (i:=i) (by omega),cC_ (by omega)];simp only[qBs];show Option.bind ((av_ n s (rp (C++[aJ_ (2*(g+1))]) (i+1) (g+1) false)).bind _) _=_;cases av_ n s (rp (C++[aJ_ (2*(g+1))]) (i+1) (g+1) false)with
 | none=>rfl
 | some y3 =>
  simp only[qBs];cases bk_ s y3 41 with
  | none=>rfl
  | some y4 =>
   simp only[qBs];cases y4.1 with
   | false=>rfl
   | true =>
    simp only[Bool.not_true,cond_false];show Option.bind (Option.bind (aF_ _ (aJ_ (2*(g+1)+1))) _) _=_;cases aF_ (Xq.mk y4.2.L_ y3.At_ y3.N_ y3.Xb) (aJ_ (2*(g+1)+1))<;>rfl
theorem rat_inner{s:Str}{d i g e:Nat}(h:s[i]? = some 40)(hg9:g<9)(ih:GoR s .rx (d+1) (i+1) (g+1) (.err e)):GoR s .at d i g (.err e):=by
 intro hs hi hg C n hC hn hc;have hlt:=as_ h;obtain⟨p,hp,ha,hb,hl⟩:=ih hs (by omega) (by omega) (C++[aJ_ (2*(g+1))]) n (by simp only[qLa,qLc,List.length_nil];omega) (by omega);have hb:p.Xb=true:=by
  rcases hb with hb|hb
  .exact hb
  .exact absurd hb.1 (by simp)
 refine⟨Xq.mk p.L_ p.At_ p.N_ true,?_,ha,.inl rfl,by simp only[qLa]at hl;show C.length<=p.L_.length;omega⟩;rw[h7_ h hs hg9 (by omega),hp];simp only[qBs];rw[iC_ hb];rfl
theorem rat_unc{s:Str}{d i g q g1:Nat}{a:Re}(h:s[i]? = some 40)(hg9:g<9)(ih:GoR s .rx (d+1) (i+1) (g+1) (.ok a q g1))(hc:s[q]? ≠ some 41):GoR s .at d i g (.err q):=by
 intro hs hi hg C n hC hn _;have hlt:=as_ h;have hp:_=_:=ih hs (by omega) (by omega) (C++[aJ_ (2*(g+1))]) n (by simp only[qLa,qLc,List.length_nil];omega) (by omega);refine⟨rp ((C++[aJ_ (2*(g+1))])++a.code (C++[aJ_ (2*(g+1))]).length) q g1 true,?_,rfl,.inl rfl,by rw[rp_L];simp only[qLa];omega⟩;rw[h7_ h hs hg9 (by omega),hp];simp only[qBs];rw[is_f (c:=41) (k:=41) rfl hc];rfl
theorem rat_grp{s:Str}{d i g q g1:Nat}{a:Re}(h:s[i]? = some 40)(hg9:g<9)(hr:RP s .rx (d+1) (i+1) (g+1) (.ok a q g1))(ih:GoR s .rx (d+1) (i+1) (g+1) (.ok a q g1))(hc:s[q]? = some 41):GoR s .at d i g (.ok (.grp (g+1) a) (q+1) g1):=by
 intro hs hi hg C n hC hn _;have hlt:=as_ h;have hlt2:=as_ hc;have hgood:=hr.good (by omega) (by omega);simp only[PK.inc]at hgood;have hp:_=_:=ih hs (by omega) (by omega) (C++[aJ_ (2*(g+1))]) n (by simp only[qLa,qLc,List.length_nil];omega) (by omega);show _=_;rw[h7_ h hs hg9 (by omega),hp];simp only[qBs];rw[is_t (c:=41) (k:=41) rfl hc];simp only[qBs,Bool.not_true,cond_false,rp_L,ei_,rp_N,et_];rw[cC_ (by simp only[qLa,qLc,List.length_nil,az_];omega)];simp only[qBs,Re.code];rw[show(C++[aJ_ (2*(g+1))]).length=C.length+1 from by simp,List.append_assoc,List.append_assoc,List.singleton_append,am_ (by omega)]
 rfl
theorem find_any{α:Type}(p:α->Bool):∀l:List α,((l.find? p).map λ_=>true).getD false=l.any p
 | []=>rfl
 | x::l=>by
  rw[List.find?_cons,List.any_cons];cases p x with
  | true=>rfl
  | false=>exact find_any p l
theorem jo_(c:UInt8):e2_ (c.toNat:Int)=some (spec c):=by
 unfold e2_;have hL:=gv_ (body:=fe_ (c.toNat:Int)) ([40,41,124,42,43,63,46,94,36,91,92]:Str) (λ_ x=>if(x==c)=true then some true else none) (by unfold BIG;simp)
  (λi hi=>by
   have hi11:i<11:=hi;unfold fe_;refine cond_t (decide_eq_true (show(i:Int)<((11:Nat):Int)by omega)) ?_;rw[dU_ hi];simp only[qBs];rw[bw_,am_ (by omega)];cases([40,41,124,42,43,63,46,94,36,91,92]:Str)[i]==c<;>rfl)
  (by rfl)
 refine(ji_ hL (λr=>rfl) rfl).trans ?_;rw[scan_find (λx=>x==c) (λ_=>true),find_any];simp only[List.any_cons,List.any_nil,Bool.or_false];have k:∀x:UInt8,(x==c)=(c==x):=λx=>BEq.comm
 simp only[k];unfold spec;simp only[Bool.or_assoc]
theorem rat_one{s:Str}{i g:Nat}{C:List Xz}{z:Int}(hi:i<900000)(hC:C.length<=5000){f:Str->Xq->Option Xq}{c:UInt8}(h:s[i]? = some c)(hc:(c=46/\z=2)\/(c=94/\z=4)\/(c=36/\z=5)):aV_ f s (rp C i g false)=some (rp (C++[Xz.mk z 0 [] false 0 0]) (i+1) g false):=by
 unfold aV_;rw[ei_,rp_N,rp_L,et_,bi_ h];simp only[qBs];have hem:∀z:Int,aF_ (rp C i g false) (Xz.mk z 0 [] false 0 0)=some (rp (C++[Xz.mk z 0 [] false 0 0]) i g false):=λz=>cC_ (by omega)
 have hw:w64 ((i:Int)+1)=((i+1:Nat):Int):=am_ (by omega);rcases hc with⟨rfl,rfl⟩|⟨rfl,rfl⟩|⟨rfl,rfl⟩
 .rw[hem];simp only[qBs,rp_L,ei_,rp_N,et_];refine Eq.trans (show _=some (Xq.mk (C++[Xz.mk 2 0 [] false 0 0]) (w64 ((i:Int)+1)) (g:Int) false)from rfl) ?_;rw[hw];rfl
 .rw[hem,hem];simp only[qBs,rp_L,ei_,rp_N,et_];refine Eq.trans (show _=some (Xq.mk (C++[Xz.mk 4 0 [] false 0 0]) (w64 ((i:Int)+1)) (g:Int) false)from rfl) ?_;rw[hw];rfl
 .rw[hem,hem,hem];simp only[qBs,rp_L,ei_,rp_N,et_];refine Eq.trans (show _=some (Xq.mk (C++[Xz.mk 5 0 [] false 0 0]) (w64 ((i:Int)+1)) (g:Int) false)from rfl) ?_;rw[hw];rfl
theorem gr_sym{s:Str}{d i g:Nat}{c:UInt8}(h:s[i]? = some c)(hc:c=42\/c=43\/c=63):GoR s .at d i g (.err i):=by
 intro hs hi hg C n hC hn _;refine⟨rp C i g true,?_,rfl,.inl rfl,Nat.le_refl _⟩;unfold aV_;rw[ei_,bi_ h];simp only[qBs];rw[jo_];rcases hc with rfl|rfl|rfl<;>rfl
theorem gr_one{s:Str}{d i g:Nat}{c:UInt8}{z:Int}{a:Re}(ha:∀n,a.code n=[Xz.mk z 0 [] false 0 0])(h:s[i]? = some c)(hc:(c=46/\z=2)\/(c=94/\z=4)\/(c=36/\z=5)):GoR s .at d i g (.ok a (i+1) g):=by
 intro hs hi hg C n hC hn _;show _=_;rw[rat_one (by omega) (by omega) h hc,ha]
theorem gr_cls{s:Str}{d i g:Nat}{r:SR}(h:s[i]? = some 91)(hc:Cx s (clsI s (i+1)) [] r):GoR s .at d i g (clsR g (clsN s (i+1)) r):=by
 intro hs hi hg C n hC hn _;have hlt:=as_ h;have e2:aV_ (av_ n) s (rp C i g false)=some (rclsP C g (clsN s (i+1)) r):=by
  unfold aV_;rw[ei_,bi_ h];simp only[qBs];rw[rclass_eq hs hlt (by omega) hc];rfl
 show ResR s false C (aV_ (av_ n) s (rp C i g false)) _;rw[e2];cases r with
 | err e=>exact⟨_,rfl,rfl,.inl rfl,Nat.le_refl _⟩
 | ok x q=>rfl
theorem gr_esc{s:Str}{d i g:Nat}(h:s[i]? = some 92):GoR s .at d i g (escR g (escS s i)):=by
 intro hs hi hg C n hC hn _;have hlt:=as_ h;show ResR s false C (aV_ (av_ n) s (rp C i g false)) _;unfold aV_;rw[ei_,bi_ h];simp only[qBs,rp_N,rp_L,et_];rw[jo_,am_ (i:=i) (by omega)];unfold escS;cases h1:s[i+1]? with
 | none =>
  have:=List.getElem?_eq_none_iff.1 h1;rw[beq_iff_eq.2 (by omega:((i+1:Nat):Int)=(s.length:Int))];exact⟨rp C (i+1) g true,rfl,rfl,.inl rfl,Nat.le_refl _⟩
 | some d =>
  have hlt1:=as_ h1;rw[beq_eq_false_iff_ne.2 (by omega:((i+1:Nat):Int)≠(s.length:Int)),cond_false,bi_ h1];simp only[qBs];rw[am_ (i:=i+1) (by omega)];have k2:((d.toNat:Int)==110)=(d==110):=bw_ d 110;have k3:((d.toNat:Int)==116)=(d==116):=bw_ d 116;have hem:∀z:Int,aF_ (rp C (i+2) g false) (Xz.mk 1 z [] false 0 0)=some (rp (C++[Xz.mk 1 z [] false 0 0]) (i+2) g false):=λz=>cC_ (by omega)
  rw[k2,k3];unfold escB;by_cases h2:d=110
  .subst h2;exact cu_ (cu_ (hem 10) rfl) rfl
  .rw[beq_eq_false_iff_ne.2 h2,if_neg h2,cond_false];by_cases h3:d=116
   .subst h3;exact cu_ (cu_ (hem 9) rfl) rfl
   .rw[beq_eq_false_iff_ne.2 h3,if_neg h3,cond_false];exact cu_ (cu_ (hem d.toNat) rfl) rfl
theorem gr_chr{s:Str}{d i g:Nat}{c:UInt8}(h:s[i]? = some c)(hc:spec c=false):GoR s .at d i g (.ok (.chr c) (i+1) g):=by
 intro hs hi hg C n hC hn _;show _=_;have hsp:=hc;unfold spec at hc;simp only[Bool.or_eq_false_iff]at hc;obtain⟨⟨⟨⟨⟨⟨⟨⟨⟨⟨a1,a2⟩,a3⟩,a4⟩,a5⟩,a6⟩,a7⟩,a8⟩,a9⟩,a10⟩,a11⟩:=hc;have k (m:UInt8) (z:Int) (hz:z=(m.toNat:Int)) (hm:(c==m)=false):((c.toNat:Int)==z)=false:=by
  subst hz;rw[←hm];exact bw_ c m
 have k92:((c.toNat:Int) != 92)=true:=by
  unfold bne;rw[k 92 92 rfl a11];rfl
 unfold aV_;rw[ei_,bi_ h];simp only[qBs,rp_N,rp_L,et_];rw[k 40 40 rfl a1,k 46 46 rfl a7,k 94 94 rfl a8,k 36 36 rfl a9,k 91 91 rfl a10,jo_,hsp,k92];simp only[cond_false,cond_true,qBs,Bool.false_and];rw[cC_ (by omega),am_ (by omega)];rfl
theorem hO_{s:Str}{z:Bool}{i g n:Nat}{C:List Xz}{r:PX}(h:ResL s z C (ah_ (bh_ s (av_ n)) BIG ((i:Int),(g:Int),false,C)) r):ResR s z C (dH_ (av_ n) s (rp C i g false)) r:=by
 have e:dH_ (av_ n) s (rp C i g false)=(ah_ (bh_ s (av_ n)) BIG ((i:Int),(g:Int),false,C)).bind λo1=>some ((Xq.mk o1.2.2.2 o1.1 o1.2.1 o1.2.2.1)):=rfl
 rw[e];cases r with
 | err e =>
  obtain⟨m,b,L,hp,hb,hl⟩:=h;rw[hp];exact⟨_,rfl,rfl,hb,hl⟩
 | ok a q g1 =>
  have h:_=_:=h;rw[h];rfl
theorem lp_{n:Nat}{s:Str}{p:Xq}:av_ (n+1) s p=c8_ (av_ n) s p:=rfl
theorem gr_rxbad{s:Str}{d i g e:Nat}(ih:GoR s .br d i g (.err e)):GoR s .rx d i g (.err e):=by
 intro hs hi hg C n hC hn;obtain⟨n,rfl⟩:∃k,n=k+1:=⟨n-1,by omega⟩;obtain⟨p,hp,ha,hb,hl⟩:=hO_ (ih hs hi hg C n hC (by omega) BIG (by unfold BIG;omega));have his:bk_ s p 124=some (false,p):=by
  rcases hb with hb|⟨_,hb,h41⟩
  .exact iC_ hb _
  .unfold bk_;have:=as_ h41;rw[hb,ha,decide_eq_true (by omega),bi_ h41];rfl
 refine⟨p,?_,ha,hb,hl⟩;rw[lp_];unfold c8_;rw[hp];simp only[qBs];rw[his];rfl
theorem gr_rxone{s:Str}{d i g q g1:Nat}{a:Re}(ih:GoR s .br d i g (.ok a q g1))(hq:s[q]? ≠ some 124):GoR s .rx d i g (.ok a q g1):=by
 intro hs hi hg C n hC hn;obtain⟨n,rfl⟩:∃k,n=k+1:=⟨n-1,by omega⟩;have hp:_=_:=hO_ (ih hs hi hg C n hC (by omega) BIG (by unfold BIG;omega));show _=_;rw[lp_];unfold c8_;rw[hp];simp only[qBs];rw[is_f (c:=124) (k:=124) rfl hq];rfl
theorem rrx_step{s:Str}{i g q g1 n:Nat}{a:Re}{C:List Xz}(hs:s.length<=1000)(hl:C.length+a.len<=20000)(hgr:a.grps 100)
  (hp:dH_ (av_ n) s (rp C i g false)=some (rp (C++a.code C.length) q g1 false)) (hq:s[q]? = some 124) :
  av_ (n+1) s (rp C i g false)=(av_ n s (rp (C++(be_ (C.length+1) (C.length+a.len+2)::(a.code (C.length+1)++[cj_ 0]))) (q+1) g1 false)).bind λy6 =>
   (aj_ y6.L_ ((C.length+a.len+1:Nat):Int)).bind λy7 =>
   some ((Xq.mk (y6.L_.set (C.length+a.len+1) (Xz.mk y7.Op_ y7.C_ y7.Xt y7.Xl (y6.L_.length:Int) y7.Y_)) y6.At_ y6.N_ y6.Xb)):=by
 have hlen1:(a.code (C.length+1)).length=a.len:=az_ a _;have hlt:=as_ hq;rw[lp_];unfold c8_;rw[hp];simp only[qBs];rw[is_t (c:=124) (k:=124) rfl hq];simp only[qBs,Bool.not_true,cond_false,rp_L,ei_,rp_N,et_];rw[am_ (i:=q) (by omega),jj_ rfl (by omega) hgr];simp only[qBs];rw[cC_ (by simp only[qLa,qLc];omega)];simp only[qBs];have hk:(C++Xz.mk 6 0 [] false (w64 ((C.length:Int)+1)) 0::a.code (C.length+1)).length=C.length+a.len+1:=by
  simp only[qLa,qLc,hlen1];omega
 rw[hk,List.append_assoc,List.cons_append,cd_ rfl];simp only[qBs];have hk2:(((C++Xz.mk 6 0 [] false (w64 ((C.length:Int)+1)) 0::(a.code (C.length+1)++[Xz.mk 7 0 [] false 0 0])).length:Nat):Int)=((C.length+a.len+2:Nat):Int):=by
  simp only[qLa,qLc,List.length_nil,hlen1];omega
 rw[dK_ (es_ _),hk2,am_ (i:=C.length) (by omega)];rfl
theorem gr_rxerr{s:Str}{d i g q g1 e:Nat}{a:Re}(h:RP s .br d i g (.ok a q g1))(hq:s[q]? = some 124)(ih:GoR s .br d i g (.ok a q g1))(ih2:GoR s .rx d (q+1) g1 (.err e)):GoR s .rx d i g (.err e):=by
 intro hs hi hg C n hC hn;obtain⟨n,rfl⟩:∃k,n=k+1:=⟨n-1,by omega⟩;have hgood:=h.good hi hg;simp only[PK.inc]at hgood;have hlt:=as_ hq;have hp:_=_:=hO_ (ih hs hi hg C n hC (by omega) BIG (by unfold BIG;omega));obtain⟨p,hp2,ha,hb,hl⟩:=ih2 hs (by omega) (by omega) (C++(be_ (C.length+1) (C.length+a.len+2)::(a.code (C.length+1)++[cj_ 0]))) n (by simp only[qLa,qLc,List.length_nil,az_];omega) (by omega);have hk:(C++(be_ (C.length+1) (C.length+a.len+2)::(a.code (C.length+1)++[cj_ 0]))).length=C.length+a.len+2:=by
  simp only[qLa,qLc,List.length_nil,az_];omega
 rw[hk]at hl;refine⟨Xq.mk (p.L_.set (C.length+a.len+1) (Xz.mk (p.L_[C.length+a.len+1]'(by omega)).Op_ (p.L_[C.length+a.len+1]'(by omega)).C_ (p.L_[C.length+a.len+1]'(by omega)).Xt (p.L_[C.length+a.len+1]'(by omega)).Xl (p.L_.length:Int) (p.L_[C.length+a.len+1]'(by omega)).Y_)) p.At_ p.N_ p.Xb,?_,ha,hb,by rw[List.length_set];omega⟩;rw[rrx_step hs (by omega) hgood.2.2.2.2.2 hp hq,hp2];simp only[qBs];rw[bH_ (by omega)];rfl
theorem gr_rxalt{s:Str}{d i g q g1 q2 g2:Nat}{a b:Re}(h:RP s .br d i g (.ok a q g1))(hq:s[q]? = some 124)(ih:GoR s .br d i g (.ok a q g1))(ih2:GoR s .rx d (q+1) g1 (.ok b q2 g2)):GoR s .rx d i g (.ok (.alt a b) q2 g2):=by
 intro hs hi hg C n hC hn;obtain⟨n,rfl⟩:∃k,n=k+1:=⟨n-1,by omega⟩;have hgood:=h.good hi hg;simp only[PK.inc]at hgood;have hlt:=as_ hq;have hp:_=_:=hO_ (ih hs hi hg C n hC (by omega) BIG (by unfold BIG;omega));have hp2:_=_:=ih2 hs (by omega) (by omega) (C++(be_ (C.length+1) (C.length+a.len+2)::(a.code (C.length+1)++[cj_ 0]))) n (by simp only[qLa,qLc,List.length_nil,az_];omega) (by omega);show _=_;rw[rrx_step hs (by omega) hgood.2.2.2.2.2 hp hq,hp2];have hlen1:(a.code (C.length+1)).length=a.len:=az_ a _;simp only[qBs,rp_L];have hk:(C++(be_ (C.length+1) (C.length+a.len+2)::(a.code (C.length+1)++[cj_ 0]))).length=C.length+a.len+2:=by
  simp only[qLa,qLc,List.length_nil,hlen1];omega
 have hk2:(C++(be_ (C.length+1) (C.length+a.len+2)::a.code (C.length+1))).length=C.length+a.len+1:=by
  simp only[qLa,qLc,hlen1];omega
 rw[hk];have e1:(C++(be_ (C.length+1) (C.length+a.len+2)::(a.code (C.length+1)++[cj_ 0])))++b.code (C.length+a.len+2)=(C++(be_ (C.length+1) (C.length+a.len+2)::a.code (C.length+1)))++cj_ 0::b.code (C.length+a.len+2):=by simp
 rw[e1,cd_ (by rw[hk2])];simp only[qBs];rw[dK_ hk2.symm];have e2:(((C++(be_ (C.length+1) (C.length+a.len+2)::a.code (C.length+1)))++cj_ 0::b.code (C.length+a.len+2)).length:Int)=((C.length+a.len+b.len+2:Nat):Int):=by
  rw[qLa,hk2];simp only[qLc,az_];omega
 rw[e2];simp only[Re.code,List.append_assoc,List.cons_append];rfl
theorem RP.goR{s:Str}{k:PK}{d i g:Nat}{r:PX}(h:RP s k d i g r):GoR s k d i g r:=by
 induction h with
 | stop h=>exact gr_stop h
 | par h=>exact gr_par h
 | bad h h1 h2 hp ih=>exact gr_bad h h1 h2 ih
 | next h h1 h2 hp ht ih1 ih2=>exact gr_next h h1 h2 hp ih1 ih2
 | pcbad h ih=>exact gr_pcbad ih
 | pcok h ih=>exact gr_pcok h ih
 | many h hg=>exact rat_many h hg
 | inner h hg hr ih=>exact rat_inner h hg ih
 | unc h hg hr hc ih=>exact rat_unc h hg ih hc
 | grp h hg hr hc ih=>exact rat_grp h hg hr ih hc
 | sym h hc=>exact gr_sym h hc
 | any h=>exact gr_one (λ_=>rfl) h (.inl ⟨rfl,rfl⟩)
 | bol h=>exact gr_one (λ_=>rfl) h (.inr (.inl ⟨rfl,rfl⟩))
 | eol h=>exact gr_one (λ_=>rfl) h (.inr (.inr ⟨rfl,rfl⟩))
 | cls h hc=>exact gr_cls h hc
 | esc h=>exact gr_esc h
 | chr h hc=>exact gr_chr h hc
 | rxbad h ih=>exact gr_rxbad ih
 | rxone h hq ih=>exact gr_rxone ih hq
 | rxerr h hq ht ih1 ih2=>exact gr_rxerr h hq ih1 ih2
 | rxalt h hq ht ih1 ih2=>exact gr_rxalt h hq ih1 ih2
def prog(a:Re)(g:Nat):Xp:=Xp.mk (aJ_ 0::(a.code 1++[aJ_ 1,iOne 9])) ((g+1:Nat):Int)
def compV:PX->Xp×Int×Int | .err e=>(Xp.mk [] 0,(e:Int),49) | .ok a _ g=>(prog a g,0,0)
theorem compile_both(s:Str):(256<s.length/\aC_ s=some (Xp.mk [] 0,0,4)/\cA_ s=some (Xp.mk [] 0,0,4)) \/
  (s.length<=256/\∃r,RP s .rx 0 0 0 r/\aC_ s=some (compV r)/\cA_ s=some (compV r)):=by
 rcases Nat.lt_or_ge 256 s.length with hl|hl
 .refine .inl ⟨hl,?_,?_⟩
  .unfold aC_;rw[decide_eq_true (by omega)];rfl
  .unfold cA_;rw[decide_eq_true (by omega)];rfl
 .obtain⟨r,hr⟩:=(RP.ex (s:=s) _ 0 (Nat.lt_succ_self _) (Nat.zero_le _)).2 0 0 (Nat.zero_le _);refine .inr ⟨hl,r,hr,?_,?_⟩
  .have h:=hr.go (by omega) (Nat.zero_le _) (Nat.zero_le _) (Nat.le_refl _) [aJ_ 0] 0 BIG (by simp only[qLc,List.length_nil];omega) (by unfold BIG;omega);unfold aC_;rw[decide_eq_false (by omega),cond_false];have e1:ao_ (regex_parser.mk s 0 0 [] 0) (Xz.mk 8 0 [] false 0 0)=some (0,ps s 0 0 [aJ_ 0] 0):=cR_ (s:=s) (i:=0) (g:=0) (C:=[]) (bad:=0) (x:=aJ_ 0) (by simp);rw[e1];simp only[qBs];cases r with
   | err e =>
    obtain⟨p,hp,hb⟩:=h;have hp:ag_ BIG (ps s 0 0 [aJ_ 0] 0) 0=some (false,p):=hp;rw[hp];simp only[qBs,Bool.not_false,cond_true];rw[hb];rfl
   | ok a q g =>
    have hgood:=hr.good (Nat.zero_le _) (Nat.zero_le _);have hp:ag_ BIG (ps s 0 0 [aJ_ 0] 0) 0=some (true,ps s q g ([aJ_ 0]++a.code 1) 0):=h;have hlen:=az_ a 1;rw[hp];simp only[qBs,Bool.not_true,cond_false];rw[cR_ (by simp only[qLa,qLc,List.length_nil];omega)];simp only[qBs];rw[cR_ (by simp only[qLa,qLc,List.length_nil];omega)];simp only[qBs,ft_,kr_];rw[am_ (by omega)];simp only[List.append_assoc];rfl
  .have h:=hr.goR (by omega) (Nat.zero_le _) (Nat.zero_le _) [aJ_ 0] BIG (by simp only[qLc,List.length_nil];omega) (by unfold BIG;omega);unfold cA_;rw[decide_eq_false (by omega),cond_false];have e1:aF_ (Xq.mk [] 0 0 false) (Xz.mk 8 0 [] false 0 0)=some (rp [aJ_ 0] 0 0 false):=cC_ (by simp);rw[e1];simp only[qBs];cases r with
   | err e =>
    obtain⟨p,hp,ha,hb,hl⟩:=h;rw[hp];simp only[qBs];have:(p.Xb||decide (p.At_<(s.length:Int)))=true:=by
     rcases hb with hb|⟨_,hb,h41⟩
     .rw[hb];rfl
     .have:=as_ h41;rw[ha,decide_eq_true (by omega),Bool.or_true]
    rw[this,cond_true,ha];rfl
   | ok a q g =>
    have hgood:=hr.good (Nat.zero_le _) (Nat.zero_le _);have hend:=(hr.ends rfl a q g rfl).1 rfl;have hq:=List.getElem?_eq_none_iff.1 hend;have hp:av_ BIG s (rp [aJ_ 0] 0 0 false)=some (rp ([aJ_ 0]++a.code 1) q g false):=h;have hlen:=az_ a 1;rw[hp];simp only[qBs];have:((rp ([aJ_ 0]++a.code 1) q g false).Xb||decide ((rp ([aJ_ 0]++a.code 1) q g false).At_<(s.length:Int)))=false:=by
     rw[et_,ei_,decide_eq_false (by omega)];rfl
    rw[this,cond_false];have e2:aF_ (rp ([aJ_ 0]++a.code 1) q g false) (Xz.mk 8 0 [] false 1 0)=some (rp (([aJ_ 0]++a.code 1)++[aJ_ 1]) q g false):=cC_ (by simp only[qLa,qLc,List.length_nil];omega);have e3:aF_ (rp (([aJ_ 0]++a.code 1)++[aJ_ 1]) q g false) (Xz.mk 9 0 [] false 0 0)=some (rp ((([aJ_ 0]++a.code 1)++[aJ_ 1])++[iOne 9]) q g false):=cC_ (by simp only[qLa,qLc,List.length_nil];omega);rw[e2];simp only[qBs];rw[e3];simp only[qBs,rp_L,rp_N];rw[am_ (by omega)];simp only[List.append_assoc];rfl
def gw_:Nat->Str->List Str | 0,_=>[]|k+1,s=>if s=[]then[]else if s.contains 10 then s.take (af_ [10] s)::gw_ k (s.drop (af_ [10] s+1))else[s]
def bf_(s:Str):List Str:=gw_ (s.length+1) s
theorem kZ_:∀(k m:Nat) (s:Str),s.length<k->s.length<m->gw_ k s=gw_ m s
 | k+1,m+1,s,hk,hm=>by
  unfold gw_;by_cases h:s=[]
  .rw[if_pos h,if_pos h]
  .rw[if_neg h,if_neg h];by_cases hc:s.contains 10=true
   .obtain⟨_,_,_,h4⟩:=ci_ hc;rw[if_pos hc,if_pos hc,kZ_ k m _ (by rw[List.length_drop];omega) (by rw[List.length_drop];omega)]
   .rw[if_neg hc,if_neg hc]
theorem linesS_nil:bf_ []=[]:=rfl
theorem fH_{s:Str}(hc:s.contains 10=true):bf_ s=s.take (af_ [10] s)::bf_ (s.drop (af_ [10] s+1)):=by
 obtain⟨_,_,_,h4⟩:=ci_ hc;have hne:s≠[]:=by rintro rfl;cases hc
 have e:bf_ s=gw_ (s.length+1) s:=rfl;rw[e]
 conv=>lhs;unfold gw_
 rw[if_neg hne,if_pos hc]
 congr 1
 exact kZ_ _ _ _ (by rw[List.length_drop];omega) (by omega)
theorem eT_{s:Str}(hne:s≠[])(hc:s.contains 10=false):bf_ s=[s]:=by
 unfold bf_ gw_;rw[if_neg hne,hc];rfl
theorem mz_{x t:Str}(hx:x.contains 10=false):bf_ (x++10::t)=x::bf_ t:=by
 have h1:(x++10::t).contains 10=true:=by rw[List.contains_iff_mem];simp
 have hu:af_ [10] (x++10::t)=x.length:=until_app (λb hb=>by
  have:b≠10:=λe=>by
   subst e;rw[List.contains_iff_mem.2 hb]at hx;cases hx
  simp[this]) (by decide)
 rw[fH_ h1,hu];simp
theorem g6_:∀(k:Nat) (s:Str),s.length<=k->(bf_ s).length<=s.length
 | k,s,hk=>by
  by_cases hne:s=[]
  .subst hne;exact Nat.le_refl _
  .cases hc:s.contains 10 with
   | true =>
    obtain⟨_,_,_,h4⟩:=ci_ hc;rw[fH_ hc,qLc];cases k with
    | zero=>omega
    | succ k =>
     have:=g6_ k (s.drop (af_ [10] s+1)) (by rw[List.length_drop];omega);rw[List.length_drop]at this;omega
   | false =>
    rw[eT_ hne hc];exact List.length_pos_iff.2 hne
theorem jp_:∀(k:Nat) (s:Str),s.length<=k->∀t∈bf_ s,t.length<=s.length/\t.contains 10=false
 | k, s,hk,t,ht=>by
  by_cases hne:s=[]
  .subst hne;cases ht
  .cases hc:s.contains 10 with
   | true =>
    obtain⟨_,h2,_,h4⟩:=ci_ hc;rw[fH_ hc]at ht;rcases List.mem_cons.1 ht with rfl|ht
    .exact⟨by rw[List.length_take];omega,h2⟩
    .cases k with
     | zero=>omega
     | succ k =>
      have:=jp_ k (s.drop (af_ [10] s+1)) (by rw[List.length_drop];omega) t ht;rw[List.length_drop]at this;exact⟨by omega,this.2⟩
   | false =>
    rw[eT_ hne hc]at ht;rw[List.mem_singleton.1 ht];exact⟨Nat.le_refl _,hc⟩
def ej_(s:Str):Str:=if s.getLast? = some 10 then s.dropLast else s
theorem trim_eq{s:Str}(hs:s.length<=1000000000)(hne:s≠[]):strings_TrimSuffix s [10]=some (ej_ s):=by
 obtain⟨x,b,rfl⟩:∃x b,s=x++[b]:=⟨s.dropLast,s.getLast hne,(List.dropLast_concat_getLast hne).symm⟩;simp only[qLa,qLc,List.length_nil]at hs;have e:ej_ (x++[b])=if b=10 then x else x++[b]:=by
  unfold ej_;simp
 rw[e];unfold strings_TrimSuffix bT_ b0_;have hw:w64 (((x++[b]).length:Int)-(([10]:Str).length:Int))=(x.length:Int):=by
  rw[bK_ ⟨by simp only[qLa,qLc,List.length_nil];omega,by simp only[qLa,qLc,List.length_nil];omega⟩];simp only[qLa,qLc,List.length_nil];omega
 rw[hw,decide_eq_true (by simp only[qLa,qLc,List.length_nil];omega),cond_true,cv_ (by omega) (by simp only[qLa,qLc,List.length_nil];omega) (Int.le_refl _)];simp only[qBs,Int.toNat_natCast,List.take_length];rw[show(x++[b]).drop x.length=[b]by simp];by_cases hb:b=10
 .subst hb;rw[if_pos rfl,show(([10]:Str)==[10])=true from rfl,cond_true,cv_ (Int.le_refl 0) (by omega) (by simp only[qLa,qLc,List.length_nil];omega)];simp
 .rw[if_neg hb,show(([b]:Str)==[10])=false from by simp[hb],cond_false];rfl
theorem mA_:∀(k:Nat) (s:Str),s.length<=k->s≠[]->splitK ((ej_ s).count 10) (ej_ s)=bf_ s
 | k, s,hk,hne=>by
  cases hc:s.contains 10 with
  | false =>
   have h1:ej_ s=s:=by
    unfold ej_;rw[if_neg];intro h;have:=List.mem_of_getLast? h;rw[List.contains_iff_mem.2 this]at hc;cases hc
   rw[h1,kY_ hc,eT_ hne hc]
  | true =>
   obtain⟨h1,h2,h3,h4⟩:=ci_ hc;rw[fH_ hc];generalize s.take (af_ [10] s)=a at *
   obtain⟨r,hr⟩:∃r,s.drop (af_ [10] s+1)=r:=⟨_,rfl⟩;rw[hr]at h1 ⊢;have hrl:r.length<s.length:=by rw[←hr,List.length_drop];omega
   by_cases hn:r=[]
   .subst hn;have e:ej_ s=a:=by
     rw[h1];unfold ej_;simp
    rw[e,kY_ h2];rfl
   .have e:ej_ s=a++10::ej_ r:=by
     rw[h1];unfold ej_;have g1:(a++10::r).getLast? = r.getLast? := by
      rw[List.getLast?_append,List.getLast?_cons];cases hg:r.getLast? with
      | none=>exact absurd (List.getLast?_eq_none_iff.1 hg) hn
      | some x=>simp
     have g2:(a++10::r).dropLast=a++10::r.dropLast:=by
      rw[List.dropLast_append_of_ne_nil (by simp),List.dropLast_cons_of_ne_nil hn]
     rw[g1,g2];split<;>rfl
    rw[e,List.count_append,mt_ h2,Nat.zero_add,List.count_cons_self,splitK_app h2]
    congr 1
    cases k with
    | zero=>omega
    | succ k=>exact mA_ k r (by omega) hn
theorem split_goC{s:Str}(hs:s.length<=1000000000){c:Nat}(hcs:c<=s.length):∀(k:Nat) (t:Str) (i:Nat) (A:List Str) (f:Nat),t.count 10=k->k<f->A.length=i->i+k=c->t.length<=s.length->splitK c s=A++splitK k t ->
  ∃t' A',ah_ (b8_ ((c+1:Nat):Int) s [10] 0) f (t,(i:Int),A++List.replicate (c+1-i) [])=some (t',(c:Int),A'++[[]])/\A'.length=c/\splitK c s=A'++[t']:=by
 have hmi:minI ((c+1:Nat):Int) (w64 ((s.length:Int)+1))=((c+1:Nat):Int):=by
  rw[bK_ ⟨by omega,by omega⟩];unfold minI;split<;>omega
 intro k
 induction k with
 | zero =>
  intro t i A f ht hf hA hi hl hsp;obtain⟨f,rfl⟩:∃g,f=g+1:=⟨f-1,by omega⟩;have hic:i=c:=by omega
  subst hic;refine⟨t,A,aw_ ?_,hA,hsp⟩;unfold b8_;simp only[];rw[hmi,bK_ (n:=((i+1:Nat):Int)-1) ⟨by omega,by omega⟩,decide_eq_false (by omega),show i+1-i=1 by omega];rfl
 | succ k ih =>
  intro t i A f ht hf hA hi hl hsp;obtain⟨f,rfl⟩:∃g,f=g+1:=⟨f-1,by omega⟩;have hc:t.contains 10=true:=count_pos (by omega);obtain⟨k1,k2,k3,k4⟩:=ci_ hc;have hcnt:(t.drop (af_ [10] t+1)).count 10=k:=by
   have:=congrArg (List.count 10) k1;rw[List.count_append,mt_ k2,List.count_cons_self,ht]at this;omega
  obtain⟨t',A',h1,h2⟩:=ih (t.drop (af_ [10] t+1)) (i+1) (A++[t.take (af_ [10] t)]) f hcnt (by omega) (by rw[qLa,hA];rfl) (by omega) (by rw[List.length_drop];omega) (by
   rw[hsp,mu_ hc,List.append_assoc];rfl)
  refine⟨t',A',(aW_ ?_ h1),h2⟩;unfold b8_;simp only[];rw[hmi,bK_ (n:=((c+1:Nat):Int)-1) ⟨by omega,by omega⟩,decide_eq_true (by omega),cond_true];unfold strings_Index stringslite_Index;simp only[qBs];rw[k3,decide_eq_false (by omega),cond_false,Int.add_zero,bK_ (n:=((af_ [10] t:Nat):Int)) ⟨by omega,by omega⟩,cv_ (Int.le_refl 0) (by omega) (by omega)];simp only[qBs,Int.toNat_natCast,Int.toNat_zero,List.drop_zero];have hget:aj_ (A++List.replicate (c+1-i) ([]:Str)) (i:Int)=some []:=by
   rw[ff_,List.getElem?_append_right (by omega),hA,Nat.sub_self,List.getElem?_replicate,if_pos (by omega)]
  rw[hget];simp only[qBs];rw[bK_ (n:=((af_ [10] t:Nat):Int)+(([10]:Str).length:Int)) ⟨by simp only[qLc,List.length_nil];omega,by simp only[qLc,List.length_nil];omega⟩,cv_ (by simp only[qLc,List.length_nil];omega) (by simp only[qLc,List.length_nil];omega) (Int.le_refl _)];simp only[qBs,Int.toNat_natCast,List.take_length];rw[am_ (by omega)];have e1:(((af_ [10] t:Nat):Int)+(([10]:Str).length:Int)).toNat=af_ [10] t+1:=by simp only[qLc,List.length_nil];omega
  rw[e1];have e2:(A++List.replicate (c+1-i) ([]:Str)).set i (t.take (af_ [10] t))=A++[t.take (af_ [10] t)]++List.replicate (c+1-(i+1)) []:=by
   rw[←hA,show c+1-A.length=(c+1-(A.length+1))+1 by omega,set_rep]
  rw[e2]
theorem split_eq10{s:Str}(hs:s.length<=1000000000):strings_Split s [10]=some (splitK (s.count 10) s):=by
 have hcl:s.count 10<=s.length:=List.count_le_length;unfold strings_Split strings_genSplit;rw[show((-1:Int)==0)=false from rfl,cond_false,show(([10]:Str)==[])=false from rfl,cond_false,show decide ((-1:Int)<0)=true from rfl,cond_true];have ec:strings_Count s [10]=some ((s.count 10:Nat):Int):=rfl;rw[ec];simp only[qBs];rw[am_ (by omega)];have hmi:minI ((s.count 10+1:Nat):Int) (w64 ((s.length:Int)+1))=((s.count 10+1:Nat):Int):=by
  rw[bK_ ⟨by omega,by omega⟩];unfold minI;split<;>omega
 rw[hmi,makeI_eq (by omega) (by omega) (by omega)];simp only[qBs,Int.toNat_natCast];obtain⟨t,A,h1,h2,h3⟩:=split_goC hs hcl (s.count 10) s 0 [] BIG rfl (cp_ (by omega)) rfl (by omega) (Nat.le_refl _) rfl;have h1':ah_ (b8_ ((s.count 10+1:Nat):Int) s [10] 0) BIG (s,0,List.replicate (s.count 10+1) [])=some (t,((s.count 10:Nat):Int),A++[[]]):=h1;rw[h1'];simp only[qBs];rw[cd_ (by rw[h2])];simp only[qBs,Int.toNat_natCast];rw[dK_ h2.symm,am_ (by omega),cv_ (Int.le_refl 0) (by omega) (by simp only[qLa,qLc,List.length_nil];omega)];simp only[qBs,Int.toNat_natCast]
 congr 1
 rw[h3,List.take_of_length_le (by simp only[qLa,qLc,List.length_nil];omega)]
theorem lines_eq{s:Str}(hs:s.length<=1000000000):d7_ s=some (bf_ s):=by
 unfold d7_;by_cases hne:s=[]
 .subst hne;rfl
 .have hl:(ej_ s).length<=s.length:=by
   unfold ej_;split
   .rw[List.length_dropLast];omega
   .exact Nat.le_refl _
  rw[show(s==[])=false from by simpa using hne,cond_false,trim_eq hs hne];simp only[qBs];rw[split_eq10 (by omega),mA_ _ s (Nat.le_refl _) hne];rfl
theorem refLines_go{s:Str}(hs:s.length<=1000000000):∀(k fr i:Nat) (l:List Str) (f:Nat),s.length-i<=k->k<f->fr<=i->i<=s.length->l.length<=i->((s.drop fr).take (i-fr)).contains 10=false ->
  ∃(fr':Nat) (l':List Str),ah_ (cQ_ s) f ((fr:Int),(i:Int),l)=some ((fr':Int),l')/\fr'<=s.length/\l'.length<=s.length/\l'++(if fr'<s.length then[s.drop fr']else[])=l++bf_ (s.drop fr):=by
 intro k
 induction k with
 | zero =>
  intro fr i l f hk hf hfr hi hl hno;obtain⟨f,rfl⟩:∃g,f=g+1:=⟨f-1,by omega⟩;have:i=s.length:=by omega
  subst this;refine⟨fr,l,aw_ ?_,hfr,hl,?_⟩
  .unfold cQ_;simp only[];rw[decide_eq_false (by omega)];rfl
  .rw[List.take_of_length_le (by rw[List.length_drop];omega)]at hno
   congr 1
   by_cases h:fr<s.length
   .rw[if_pos h,eT_ (λe=>by have:=congrArg List.length e;rw[List.length_drop]at this;simp at this;omega) hno]
   .rw[if_neg h,List.drop_eq_nil_of_le (by omega)];rfl
 | succ k ih =>
  intro fr i l f hk hf hfr hi hl hno;obtain⟨f,rfl⟩:∃g,f=g+1:=⟨f-1,by omega⟩;by_cases hlt:i<s.length
  .by_cases h10:s[i]=10
   .have hget:(s.drop fr)[i-fr]? = some 10:=by
     rw[List.getElem?_drop,show fr+(i-fr)=i by omega,List.getElem?_eq_getElem hlt,h10]
    obtain⟨hu,hc⟩:=h5_ hno hget;obtain⟨fr',l',h1,h2,h3,h4⟩:=ih (i+1) (i+1) (l++[(s.drop fr).take (i-fr)]) f (by omega) (by omega) (Nat.le_refl _) (by omega) (by simp only[qLa,qLc,List.length_nil];omega) (by rw[Nat.sub_self];rfl);refine⟨fr',l',aW_ ?_ h1,h2,h3,?_⟩
    .unfold cQ_;simp only[];rw[decide_eq_true (by omega),cond_true,dU_ hlt];simp only[qBs];rw[h10,show((((10:UInt8).toNat:Int)==10))=true from rfl,cond_true,cv_ (by omega) (by omega) (by omega)];simp only[qBs,Int.toNat_natCast];have e1:(s.take i).drop fr=(s.drop fr).take (i-fr):=by rw[List.drop_take]
     rw[e1,bS_ (by simp only[qLc,List.length_nil];omega) (by simp only[qLc,List.length_nil];omega),am_ (by omega)];rfl
    .rw[h4,fH_ hc,hu,List.append_assoc,List.drop_drop,show fr+(i-fr+1)=i+1 by omega];rfl
   .obtain⟨fr',l',h1,h2,h3,h4⟩:=ih fr (i+1) l f (by omega) (by omega) (by omega) (by omega) (by omega) (by
     have hlt2:i-fr<(s.drop fr).length:=by rw[List.length_drop];omega
     rw[show i+1-fr=(i-fr)+1 by omega,List.take_add_one,List.getElem?_eq_getElem hlt2];have:(s.drop fr)[i-fr]=s[i]:=by rw[List.getElem_drop];congr 1;omega
     rw[this];cases hcc:(List.take (i-fr) (List.drop fr s)++(some s[i]).toList).contains 10 with
     | false=>rfl
     | true =>
      rw[List.contains_iff_mem]at hcc;rcases List.mem_append.1 hcc with hh|hh
      .rw[←List.contains_iff_mem,hno]at hh;cases hh
      .simp at hh;exact absurd hh.symm h10)
    refine⟨fr',l',aW_ ?_ h1,h2,h3,h4⟩;unfold cQ_;simp only[];have k1:((s[i].toNat:Int)==10)=(s[i]==10):=bw_ _ 10;rw[decide_eq_true (by omega),cond_true,dU_ hlt];simp only[qBs];rw[k1,beq_eq_false_iff_ne.2 h10,cond_false,am_ (by omega)];rfl
  .have:i=s.length:=by omega
   subst this;exact(λh=>h) (by
    refine⟨fr,l,aw_ ?_,hfr,hl,?_⟩
    .unfold cQ_;simp only[];rw[decide_eq_false (by omega)];rfl
    .rw[List.take_of_length_le (by rw[List.length_drop];omega)]at hno
     congr 1
     by_cases h:fr<s.length
     .rw[if_pos h,eT_ (λe=>by have:=congrArg List.length e;rw[List.length_drop]at this;simp at this;omega) hno]
     .rw[if_neg h,List.drop_eq_nil_of_le (by omega)];rfl)
theorem refLines_eq{s:Str}(hs:s.length<=1000000000):eR_ s=some (bf_ s):=by
 obtain⟨fr,l,h1,h2,h3,h4⟩:=refLines_go hs s.length 0 0 [] BIG (by omega) (cp_ (by omega)) (Nat.le_refl _) (Nat.zero_le _) (Nat.le_refl _) rfl;unfold eR_;refine cu_ h1 ?_;simp only[];by_cases h:fr<s.length
 .rw[decide_eq_true (by omega),cond_true,cv_ (by omega) (by omega) (Int.le_refl _)];simp only[qBs,Int.toNat_natCast,List.take_length];rw[bS_ (by simp only[qLc,List.length_nil];omega) (by simp only[qLc,List.length_nil];omega)];rw[if_pos h]at h4;simp only[qBs];rw[h4];rfl
 .rw[decide_eq_false (by omega),cond_false];rw[if_neg h,List.append_nil]at h4;simp only[qBs];rw[h4];rfl
def compOK(s:Str):Bool:=match aC_ s with|some v=>v.2.2==0|none=>false
theorem comp_eq(s:Str):∃v,aC_ s=some v/\cA_ s=some v/\(v.2.2==0)=compOK s:=by
 rcases compile_both s with⟨_,h1,h2⟩|⟨_,r,_,h1,h2⟩
 .exact⟨_,h1,h2,by unfold compOK;rw[h1]⟩
 .exact⟨_,h1,h2,by unfold compOK;rw[h1]⟩
def c2_(o:Str):Bool:=((((o==[115,114,99])||(o==[100,115,116]))||(o==[119,100,105,114]))||(o==[116,121,112,101]))||(o==[100,97,116,97])
def dl_(o:Str):Bool:=o==[97,116,116,114]
def aY_(o:Str):Bool:=o==[112,108,117,109,98]
def f6_(v:Str):Bool:=v==[109,97,116,99,104,101,115]
def verbB(f a p:Bool)(v:Str):Bool:=bif f then(v==[105,115]||(v==[105,115,110]||(f6_ v||v==[115,101,116])))else bif a then(v==[105,115]||(v==[105,115,110]||(v==[97,100,100]||v==[100,101,108,101,116,101])))else bif p then v==[116,111]else false
def ar_(p:Xj):Bool:=verbB (c2_ p.Xy) (dl_ p.Xy) (aY_ p.Xy) p.Xh&&(!(p.Xf==[])&&(decide (p.Xf.length<=1024)&&(!(p.Xf.contains 10)&&(!(f6_ p.Xh)||compOK p.Xf))))
theorem obj_apart(o:Str):(c2_ o=true->dl_ o=false)/\(c2_ o=true->aY_ o=false)/\(dl_ o=true->aY_ o=false):=by
 refine⟨λh => ?_,λh => ?_,λh => ?_⟩
 .unfold c2_ at h;simp only[Bool.or_eq_true,beq_iff_eq]at h;rcases h with(((h|h)|h)|h)|h<;>subst h<;>rfl
 .unfold c2_ at h;simp only[Bool.or_eq_true,beq_iff_eq]at h;rcases h with(((h|h)|h)|h)|h<;>subst h<;>rfl
 .unfold dl_ at h;rw[beq_iff_eq]at h;subst h;rfl
theorem verb_ref (f a p c:Bool) (h1:f=true->a=false) (h2:f=true->p=false) (h3:a=true->p=false) (v:Str) :
  (bif(bif v==[105,115]then v==[105,115]else v==[105,115,110])then(f||a)else bif v==[115,101,116]then f else bif v==[109,97,116,99,104,101,115]then(f&&c)else bif(bif v==[97,100,100]then v==[97,100,100]else v==[100,101,108,101,116,101])then a else bif v==[116,111]then p else false)=(verbB f a p v&&(!(f6_ v)||c)):=by
 by_cases e1:v=[105,115]
 .subst e1;cases f<;>cases a<;>cases p<;>cases c<;>first|rfl|exact absurd (h1 rfl) (by decide)|exact absurd (h2 rfl) (by decide)|exact absurd (h3 rfl) (by decide)
 .by_cases e2:v=[105,115,110]
  .subst e2;cases f<;>cases a<;>cases p<;>cases c<;>first|rfl|exact absurd (h1 rfl) (by decide)|exact absurd (h2 rfl) (by decide)|exact absurd (h3 rfl) (by decide)
  .by_cases e3:v=[115,101,116]
   .subst e3;cases f<;>cases a<;>cases p<;>cases c<;>first|rfl|exact absurd (h1 rfl) (by decide)|exact absurd (h2 rfl) (by decide)|exact absurd (h3 rfl) (by decide)
   .by_cases e4:v=[109,97,116,99,104,101,115]
    .subst e4;cases f<;>cases a<;>cases p<;>cases c<;>first|rfl|exact absurd (h1 rfl) (by decide)|exact absurd (h2 rfl) (by decide)|exact absurd (h3 rfl) (by decide)
    .by_cases e5:v=[97,100,100]
     .subst e5;cases f<;>cases a<;>cases p<;>cases c<;>first|rfl|exact absurd (h1 rfl) (by decide)|exact absurd (h2 rfl) (by decide)|exact absurd (h3 rfl) (by decide)
     .by_cases e6:v=[100,101,108,101,116,101]
      .subst e6;cases f<;>cases a<;>cases p<;>cases c<;>first|rfl|exact absurd (h1 rfl) (by decide)|exact absurd (h2 rfl) (by decide)|exact absurd (h3 rfl) (by decide)
      .by_cases e7:v=[116,111]
       .subst e7;cases f<;>cases a<;>cases p<;>cases c<;>first|rfl|exact absurd (h1 rfl) (by decide)|exact absurd (h2 rfl) (by decide)|exact absurd (h3 rfl) (by decide)
       .unfold verbB f6_;rw[beq_eq_false_iff_ne.2 e1,beq_eq_false_iff_ne.2 e2,beq_eq_false_iff_ne.2 e3,beq_eq_false_iff_ne.2 e4,beq_eq_false_iff_ne.2 e5,beq_eq_false_iff_ne.2 e6,beq_eq_false_iff_ne.2 e7];cases f<;>cases a<;>cases p<;>rfl
theorem fI_{l:List Str}{x:Str}(hl:l.length<=1000):au_ l x=some (l.contains x):=by
 unfold au_ cK_;have h:=gv_ (body:=bA_ l x) l (λi y=>if(x==y)=true then some ((i:Nat):Int)else none) (cp_ (by omega)) (λi hi=>by
  unfold bA_;rw[lt_t hi,cond_true,bH_ hi];simp only[qBs];cases x==l[i]with
  | true=>rfl
  | false =>
   simp only[cond_false,Bool.false_eq_true,if_false,stepO];rw[am_ (by omega)]) (by
  unfold bA_;rw[lt_f];rfl)
 refine cu_ ((ji_ (x:=(-1:Int)) h (λr=>rfl) rfl).trans (congrArg some (at_getD (λy=>x==y) l))) ?_;rw[at_any]
 congr 1
 induction l with
 | nil=>rfl
 | cons y l ih =>
  rw[List.any_cons,List.contains_cons]
  congr 1
  clear h ih hl
  induction l with
  | nil=>rfl
  | cons y l ih=>rw[List.any_cons,List.contains_cons,ih]
theorem verbs_eq(o v:Str):((bV_ o).bind λy=>(au_ y v).bind λz=>some z)=some (verbB (c2_ o) (dl_ o) (aY_ o) v):=by
 have e:bV_ o=some (bif c2_ o then[[105,115],[105,115,110],[109,97,116,99,104,101,115],[115,101,116]]else bif dl_ o then[[105,115],[105,115,110],[97,100,100],[100,101,108,101,116,101]]else bif aY_ o then[[116,111]]else[]):=by
  unfold bV_ c2_ dl_ aY_;cases o==[115,114,99]<;>cases o==[100,115,116]<;>cases o==[119,100,105,114]<;>cases o==[116,121,112,101]<;>cases o==[100,97,116,97]<;>cases o==[97,116,116,114]<;>cases o==[112,108,117,109,98]<;>rfl
 rw[e];unfold verbB f6_;simp only[qBs];cases c2_ o with
 | true =>
  simp only[cond_true];rw[fI_ (by simp)];simp only[qBs,List.contains_cons,List.contains_nil,Bool.or_false]
 | false =>
  simp only[cond_false];cases dl_ o with
  | true =>
   simp only[cond_true];rw[fI_ (by simp)];simp only[qBs,List.contains_cons,List.contains_nil,Bool.or_false]
  | false =>
   simp only[cond_false];cases aY_ o with
   | true =>
    simp only[cond_true];rw[fI_ (by simp)];simp only[qBs,List.contains_cons,List.contains_nil,Bool.or_false]
   | false =>
    simp only[cond_false];rw[fI_ (by simp)];rfl
theorem bind_eta{α β γ:Type}{A:Option α}{B:α->Option β}{f:β->Option γ}{r:β}(h:(A.bind λy=>(B y).bind λz=>some z)=some r):(A.bind λy=>(B y).bind f)=f r:=by
 cases A with
 | none=>cases h
 | some a =>
  simp only[qBs]at h ⊢;cases hB:B a with
  | none=>rw[hB]at h;cases h
  | some b =>
   rw[hB]at h;simp only[qBs]at h ⊢;rw[qSj h]
theorem sound_eq(p:Xj):dv_ p=some (ar_ p):=by
 unfold dv_ ar_;rw[jL_,jL_];rw[bind_eta (verbs_eq p.Xy p.Xh)];cases verbB (c2_ p.Xy) (dl_ p.Xy) (aY_ p.Xy) p.Xh with
 | false=>rfl
 | true =>
  simp only[Bool.not_true,cond_false,Bool.true_and];cases h1:p.Xf==[]with
  | true=>rfl
  | false =>
   simp only[cond_false,Bool.not_false,Bool.true_and];by_cases h2:p.Xf.length<=1024
   .rw[decide_eq_false (by omega),cond_false,contains_eq,decide_eq_true h2,Bool.true_and];simp only[qBs];cases p.Xf.contains 10 with
    | true=>rfl
    | false =>
     unfold f6_;simp only[cond_false,Bool.not_false,Bool.true_and];cases p.Xh==[109,97,116,99,104,101,115]with
     | false=>rfl
     | true =>
      obtain⟨v,hv,_,hc⟩:=comp_eq p.Xf;rw[hv];simp only[Bool.not_true,cond_false,qBs,Bool.false_or];rw[hc]
   .rw[decide_eq_true (by omega),decide_eq_false h2];rfl
theorem mB_(p:Xj):dZ_ p=some (ar_ p):=by
 obtain⟨h1,h2,h3⟩:=obj_apart p.Xy;obtain⟨v,_,hv,hc⟩:=comp_eq p.Xf;have hf:eP_ p.Xy=some (c2_ p.Xy):=rfl;have hvr:=verb_ref (c2_ p.Xy) (dl_ p.Xy) (aY_ p.Xy) (compOK p.Xf) h1 h2 h3 p.Xh;unfold dZ_ ar_;cases e1:p.Xf==[]with
 | true=>simp only[cond_true,qBs,Bool.not_true,Bool.false_and,Bool.and_false]
 | false =>
  simp only[cond_false];rw[refText_eq];simp only[qBs];by_cases e2:p.Xf.length<=1024
  .cases e3:p.Xf.contains 10 with
   | true =>
    have:textE p.Xf=2:=by unfold textE;rw[if_neg (by omega),if_pos e3]
    rw[this];simp
   | false =>
    have:textE p.Xf=0:=by unfold textE;rw[if_neg (by omega),e3];rfl
    rw[this,show((0:Int) != 0)=false from rfl,cond_false,hv,hf,decide_eq_true e2];simp only[qBs,Bool.not_false,Bool.true_and];rw[hc,←hvr];unfold dl_ aY_;cases p.Xh==[105,115]<;>cases p.Xh==[105,115,110]<;>cases p.Xh==[115,101,116]<;>cases p.Xh==[109,97,116,99,104,101,115]<;>cases p.Xh==[97,100,100]<;>cases p.Xh==[100,101,108,101,116,101]<;>cases p.Xh==[116,111]<;>rfl
  .have:textE p.Xf=4:=by unfold textE;rw[if_pos (by omega)]
   rw[this,decide_eq_false e2];simp
theorem eF_{p:Xj}(h:ar_ p=true):p.Xy.length<=5/\p.Xh.length<=7/\p.Xf.length<=1024/\p.Xf≠[]/\p.Xf.contains 10=false/\p.Xy≠[]/\p.Xh≠[]/\(∀b∈p.Xy,97<=b.toNat)/\(∀b∈p.Xh,97<=b.toNat):=by
 unfold ar_ at h;simp only[qAn,Bool.not_eq_true',decide_eq_true_eq]at h;obtain⟨h1,h2,h3,h4,_⟩:=h;have hv:p.Xh=[105,115]\/p.Xh=[105,115,110]\/p.Xh=[109,97,116,99,104,101,115]\/p.Xh=[115,101,116]\/p.Xh=[97,100,100]\/p.Xh=[100,101,108,101,116,101]\/p.Xh=[116,111]:=by
  unfold verbB f6_ at h1;cases hf:c2_ p.Xy with
  | true =>
   rw[hf]at h1;simp only[cond_true,Bool.or_eq_true,beq_iff_eq]at h1;rcases h1 with h|h|h|h<;>simp[h]
  | false =>
   cases ha:dl_ p.Xy with
   | true =>
    rw[hf,ha]at h1;simp only[cond_true,cond_false,Bool.or_eq_true,beq_iff_eq]at h1;rcases h1 with h|h|h|h<;>simp[h]
   | false =>
    cases hp:aY_ p.Xy with
    | true =>
     rw[hf,ha,hp]at h1;simp only[cond_true,cond_false,beq_iff_eq]at h1;simp[h1]
    | false=>rw[hf,ha,hp]at h1;cases h1
 have ho:p.Xy=[115,114,99]\/p.Xy=[100,115,116]\/p.Xy=[119,100,105,114]\/p.Xy=[116,121,112,101]\/p.Xy=[100,97,116,97]\/p.Xy=[97,116,116,114]\/p.Xy=[112,108,117,109,98]:=by
  cases hf:c2_ p.Xy with
  | true =>
   unfold c2_ at hf;simp only[Bool.or_eq_true,beq_iff_eq]at hf;rcases hf with(((h|h)|h)|h)|h<;>simp[h]
  | false =>
   cases ha:dl_ p.Xy with
   | true=>unfold dl_ at ha;rw[beq_iff_eq]at ha;simp[ha]
   | false =>
    cases hp:aY_ p.Xy with
    | true=>unfold aY_ at hp;rw[beq_iff_eq]at hp;simp[hp]
    | false=>rw[hf,ha,hp]at h1;cases h1
 have h2:p.Xf≠[]:=by simpa using h2
 refine⟨?_,?_,h3,h2,h4,?_,?_,?_,?_⟩
 .rcases ho with h|h|h|h|h|h|h<;>rw[h]<;>decide
 .rcases hv with h|h|h|h|h|h|h<;>rw[h]<;>decide
 .rcases ho with h|h|h|h|h|h|h<;>rw[h]<;>decide
 .rcases hv with h|h|h|h|h|h|h<;>rw[h]<;>decide
 .rcases ho with h|h|h|h|h|h|h<;>rw[h]<;>decide
 .rcases hv with h|h|h|h|h|h|h<;>rw[h]<;>decide
def gVal(n:Nat)(i:Nat)(p:Xj):Option Bool:=if(!(ar_ p) || !((aY_ p.Xy)==((i:Int)==(n:Int)-1)))=true then some false else none
def aR_(r:Xx):Bool:=decide (1<=r.Xk.length)&&(decide (r.Xk.length<=32)&&(dV_ (gVal r.Xk.length) 0 r.Xk).getD true)
theorem valid_eq(r:Xx):dw_ r=some (aR_ r):=by
 unfold dw_ aR_;by_cases h1:1<=r.Xk.length
 .by_cases h2:r.Xk.length<=32
  .rw[decide_eq_false (by omega),decide_eq_false (by omega),decide_eq_true h1,decide_eq_true h2,Bool.true_and,Bool.true_and,Bool.or_false,cond_false];refine ji_ (gv_ r.Xk (gVal r.Xk.length) (cp_ (by omega)) (λi hi => ?_) ?_) (λr=>rfl) rfl
   .unfold dF_ gVal;rw[lt_t hi,cond_true,bH_ hi];simp only[qBs];rw[sound_eq];simp only[qBs];rw[bK_ (n:=(r.Xk.length:Int)-1) ⟨by omega,by omega⟩,am_ (by omega)];show(bif(!(ar_ r.Xk[i]) || !((aY_ (r.Xk[i]).Xy)==((i:Int)==(r.Xk.length:Int)-1)))then some (Step.done (Out.ret false))else some (Step.next ((i+1:Nat):Int)))=_;cases(!(ar_ r.Xk[i]) || !((aY_ (r.Xk[i]).Xy)==((i:Int)==(r.Xk.length:Int)-1)))<;>rfl
   .unfold dF_;rw[lt_f];rfl
  .rw[decide_eq_true (by omega:(r.Xk.length:Int)>32),decide_eq_false h2,Bool.or_true,cond_true,Bool.false_and,Bool.and_false]
 .rw[decide_eq_true (by omega:(r.Xk.length:Int)<1),decide_eq_false h1];rfl
theorem refValid_eq(r:Xx):gh_ r=some (aR_ r):=by
 unfold gh_ aR_;by_cases h1:1<=r.Xk.length
 .by_cases h2:r.Xk.length<=32
  .rw[decide_eq_false (by omega),decide_eq_false (by omega),decide_eq_true h1,decide_eq_true h2,Bool.true_and,Bool.true_and,Bool.or_false,cond_false];refine ji_ (gv_ r.Xk (gVal r.Xk.length) (cp_ (by omega)) (λi hi => ?_) ?_) (λr=>rfl) rfl
   .unfold f1_ gVal;rw[lt_t hi,cond_true,bH_ hi];simp only[qBs];rw[mB_];simp only[qBs];rw[bK_ (n:=(r.Xk.length:Int)-1) ⟨by omega,by omega⟩,am_ (by omega)];have e:(bif !(ar_ r.Xk[i])then some true else some (!(((r.Xk[i]).Xy==[112,108,117,109,98])==((i:Int)==(r.Xk.length:Int)-1))))=some (!(ar_ r.Xk[i]) || !((aY_ (r.Xk[i]).Xy)==((i:Int)==(r.Xk.length:Int)-1))):=by
     cases ar_ r.Xk[i]<;>rfl
    rw[e];simp only[qBs];cases(!(ar_ r.Xk[i]) || !((aY_ (r.Xk[i]).Xy)==((i:Int)==(r.Xk.length:Int)-1)))<;>rfl
   .unfold f1_;rw[lt_f];rfl
  .rw[decide_eq_true (by omega:(r.Xk.length:Int)>32),decide_eq_false h2,Bool.or_true,cond_true,Bool.false_and,Bool.and_false]
 .rw[decide_eq_true (by omega:(r.Xk.length:Int)<1),decide_eq_false h1];rfl
theorem eu_(r:Xx):aR_ r=true↔1<=r.Xk.length/\r.Xk.length<=32/\∀i p,r.Xk[i]? = some p->ar_ p=true/\aY_ p.Xy=decide (i+1=r.Xk.length):=by
 have hg:∀i p,gVal r.Xk.length i p=none↔ar_ p=true/\aY_ p.Xy=decide (i+1=r.Xk.length):=by
  intro i p;unfold gVal;have e:((i:Int)==(r.Xk.length:Int)-1)=decide (i+1=r.Xk.length):=by
   by_cases h:i+1=r.Xk.length
   .rw[decide_eq_true h,beq_iff_eq];omega
   .rw[decide_eq_false h,beq_eq_false_iff_ne];omega
  rw[e];cases ar_ p<;>cases aY_ p.Xy<;>cases decide (i+1=r.Xk.length)<;>simp
 unfold aR_;rw[qAn,qAn,decide_eq_true_eq,decide_eq_true_eq];refine and_congr_right λ_=>and_congr_right λ_ => ?_
 constructor
 .intro h i p hp;cases hs:dV_ (gVal r.Xk.length) 0 r.Xk with
  | none =>
   have:=scan_none.1 hs i p hp;rw[Nat.zero_add]at this;exact(hg i p).1 this
  | some b =>
   rw[hs]at h;obtain⟨j,q,_,h2,_⟩:=scan_some hs;unfold gVal at h2;split at h2
   .rw[←qSj h2]at h;cases h
   .cases h2
 .intro h;have:dV_ (gVal r.Xk.length) 0 r.Xk=none:=scan_none.2 λi p hp=>by
   rw[Nat.zero_add];exact(hg i p).2 (h i p hp)
  rw[this];rfl
end Go.Proofs.YtbdcelleafhelaaGreatDoor
