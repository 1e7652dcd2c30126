/-
 What the statements of this seat hang on,part 8: K8 K9 K10 K11 K12 K13 K14 K15 K16 K17 K18 K19 K20 K21 K22 K23 K24 K25 K26 K27 Num.
-/
import Derived.Test.YtokncnjohiobcaaGreatDoorXA7
import Derived.Laws.BitsLemmas
namespace Go.Proofs.YtokncnjohiobcaaGreatDoor
open Go.Rt Go.RowKit
noncomputable section
set_option maxRecDepth 100000
def k205:=aA 205 [.d (.sl (.st 47))] [qB] (qu1 dY_) (k311 (k310 (k308 (k309 ab_)))) (.s .p (.s (.s .p (.lp zj0 zj2 true (.s .p (.s (qp 3 (.s (.s (qd 25) .p) (.s .p (.j ⟨[(6,.d qI)],[],[0,3],[],[],50037⟩ false .p .p)))) .p)))) .p))
def k429:=aA 429 [.d qI] [qB] (qu1 ox_) ab_ .p
def k312:=aA 312 [.d .str,.d qI,.d qI] [qJ,qJ,qJ] (qu3 fo_) (k429 ab_) (qp 4 (.s (.s .p (.lp ⟨[(9,.d qI),(10,.d qI)],[],[0,1,2],[],[],8018⟩ ⟨[(9,.d qI)],[],[1,2],[],[],8018⟩ true .p)) .p))
def k430:=aA 430 [.d (.st 66),.d qI] [(.st 66,[]),qJ] (qu2 aE_) (k312 ab_) .p
def k431:=aA 431 [.d qI] [(.sl qI,[]),qB] (qu1 e9_) ab_ (.s .p (.s (qp 7 (.j ⟨[(14,.d .bool)],[],[4],[],[],9⟩ false .p (qp 13 (.j ⟨[(36,.d .bool)],[],[4],[],[],21⟩ false .p (qp 11 (.j ⟨[(55,.d .bool)],[],[4],[],[],31⟩ false .p (qp 11 (.j ⟨[(75,.d .bool)],[],[],[],[],41⟩ false .p .p)))))))) .p)) true
def k639:=aA 639 [.d .str,.d qI] [(.str,[]),qJ,qJ] (qu2 iz_) (k312 ab_) .p
def k543:=aA 543 [.d (.st 66)] [(.st 66,[]),(.str,[])] (qu1 bG_) (k639 ab_) .p
def k544:=aA 544 [.d (.st 66)] [(.st 66,[]),(.st 39,[])] (qu1 fa_) (k430 ab_) .p
def k645:=aA 645 [] [(.sl .str,[some 9])] (λ_=>oy_) ab_ .p
def zj23:JP:=⟨[],[],[],[],[],6⟩
def k640:=aA 640 [.d .str] [qJ,qB] (qu1 jF_) (k645 ab_) (qp 2 (.s (.s .p (.lp ⟨[(5,.d qI)],[(2,true,.row 9 .str [])],[0,4],[],[],6⟩ zj23 true .p)) .p))
def k641:=aA 641 [.d (.st 66),.d qI] [(.st 66,[]),(.str,[])] (qu2 ln_) ab_ (qp 2 (.s (.dr [0,0,0,0,0,0,0,0,0,1,4] [] true [2]) .p))
def k744:=aA 744 [.d .str] [(.st 67,[]),qB] (qu1 ia_) ab_ (qp 3 (.s (.s .p (.lp ⟨[(5,.d qI),(6,.d qI)],[(3,true,.box 802 (.st 67))],[0,2,4],[0],[],7⟩ ⟨[(5,.d qI)],[(3,true,.box 802 (.st 67))],[0,2,4],[0],[],7⟩ true (.s .p (.s zp25 .p)))) .p))
def k745:=aA 745 [.d .str,.d qI,.d qI] [qJ] (qu3 bH_) ab_ (qp 2 (.s (.s .p (.lp ⟨[(7,.d qI),(8,.d .bool),(9,.d qI)],[],[0,1],[],[],6⟩ ⟨[(7,.d qI),(8,.d .bool)],[],[],[],[],6⟩ false (.s .p (.j ⟨[(7,.d qI),(8,.d .bool)],[],[0,1,9],[],[],8⟩ false .p .p)))) .p))
def k642:=aA 642 [.d .str,.d qI] [(.st 40,[]),qJ,qJ] (qu2 lp_) (k638 (k745 (k744 ab_))) (qp 3 (.s (qd 12) (qp 6 (.s (.dr [0,0,0,0,0,0,0,0,0,0,0,0,0,0,0,0,0,0,0,0,0,0,1,2] [] false []) .p))))
def zp33:Pl:=.s (.dr [0,0,1,1] [] true [6,8]) .p
def k545:=aA 545 [.d (.st 66),.g (.st 41) [none,none,none,none,none,none,none,none,none,none,some 9,some 190],.d qI] [(.st 66,[]),(.st 41,[none,none,none,none,none,none,none,none,none,none,some 9,some 190])] (qu3 g9_) (k642 (k641 (k544 (k430 (k640 (k543 ab_)))))) (qp 2 (.j ⟨[],[(2,true,.box 551 (.st 66)),(4,true,.cells 194 [.v qI,.v qI,.v qI,.v qI,.v qI,.v qI,.v qI,.v .str,.v .str,.v .str,.own 11,.own 12,.v qI,.v qI,.v qI,.v qI,.v qI,.v qI,.v .str,.v qI,.v qI,.v .str,.v qI,.v qI,.v qI,.v qI,.v qI,.v qI,.v qI,.v qI,.v qI,.v .str,.v .str,.v .str,.v .str,.v qI,.v qI,.v qI,.v .str]),(11,false,.row 9 .str []),(12,false,.row 190 (.st 39) [])],[3,4,6,7],[6,8],[],13⟩ true (qp 2 (.s (qp 3 (.s (.dr [0,0,0,0,0,0,0,0,0,0,1,1] [] true [6,8]) .p)) (.s .p (.s (qp 2 (.lp ⟨[(13,.d qI)],[(2,true,.box 551 (.st 66)),(4,true,.cells 194 [.v qI,.v qI,.v qI,.v qI,.v qI,.v qI,.v qI,.v .str,.v .str,.v .str,.own 25,.own 1,.v qI,.v qI,.v qI,.v qI,.v qI,.v qI,.v .str,.v qI,.v qI,.v .str,.v qI,.v qI,.v qI,.v qI,.v qI,.v qI,.v qI,.v qI,.v qI,.v .str,.v .str,.v .str,.v .str,.v qI,.v qI,.v qI,.v .str]),(25,false,.row 9 .str []),(1,true,.row 190 (.st 39) [])],[3,4,6,7,8],[6,8],[],26⟩ ⟨[],[(2,true,.box 551 (.st 66)),(4,true,.cells 194 [.v qI,.v qI,.v qI,.v qI,.v qI,.v qI,.v qI,.v .str,.v .str,.v .str,.own 25,.own 1,.v qI,.v qI,.v qI,.v qI,.v qI,.v qI,.v .str,.v qI,.v qI,.v .str,.v qI,.v qI,.v qI,.v qI,.v qI,.v qI,.v qI,.v qI,.v qI,.v .str,.v .str,.v .str,.v .str,.v qI,.v qI,.v qI,.v .str]),(25,false,.row 9 .str []),(1,true,.row 190 (.st 39) [])],[3,4,6,7],[6,8],[],26⟩ false .p)) (.s .p (.s (qp 2 (.lp ⟨[(16,.d qI)],[(2,true,.box 551 (.st 66)),(4,true,.cells 194 [.v qI,.v qI,.v qI,.v qI,.v qI,.v qI,.v qI,.v .str,.v .str,.v .str,.own 0,.own 27,.v qI,.v qI,.v qI,.v qI,.v qI,.v qI,.v .str,.v qI,.v qI,.v .str,.v qI,.v qI,.v qI,.v qI,.v qI,.v qI,.v qI,.v qI,.v qI,.v .str,.v .str,.v .str,.v .str,.v qI,.v qI,.v qI,.v .str]),(0,true,.row 9 .str []),(27,false,.row 190 (.st 39) [])],[3,4,6,7,8],[6,8],[],28⟩ ⟨[],[(2,true,.box 551 (.st 66)),(4,true,.cells 194 [.v qI,.v qI,.v qI,.v qI,.v qI,.v qI,.v qI,.v .str,.v .str,.v .str,.own 0,.own 27,.v qI,.v qI,.v qI,.v qI,.v qI,.v qI,.v .str,.v qI,.v qI,.v .str,.v qI,.v qI,.v qI,.v qI,.v qI,.v qI,.v qI,.v qI,.v qI,.v .str,.v .str,.v .str,.v .str,.v qI,.v qI,.v qI,.v .str]),(0,true,.row 9 .str []),(27,false,.row 190 (.st 39) [])],[3,4,6,7],[6,8],[],28⟩ false .p)) (qp 3 (.s (qp 4 (.s (.dr [0,0,0,0,0,0,0,0,0,0,0,0,0,0,0,1,1] [] true [6,8]) .p)) .p)))))))) zp33))
set_option maxRecDepth 100000
def k432:=aA 432 [.d (.st 66),.g (.st 41) [none,none,none,none,none,none,none,none,none,none,some 9,some 190],.d qI] [(.st 66,[]),(.st 41,[none,none,none,none,none,none,none,none,none,none,some 9,some 190])] (qu3 mf_) (k545 (k544 (k543 (k430 ab_)))) (.s .p (.j ⟨[],[(2,true,.box 551 (.st 66)),(4,true,.cells 194 [.v qI,.v qI,.v qI,.v qI,.v qI,.v qI,.v qI,.v .str,.v .str,.v .str,.own 0,.own 1,.v qI,.v qI,.v qI,.v qI,.v qI,.v qI,.v .str,.v qI,.v qI,.v .str,.v qI,.v qI,.v qI,.v qI,.v qI,.v qI,.v qI,.v qI,.v qI,.v .str,.v .str,.v .str,.v .str,.v qI,.v qI,.v qI,.v .str]),(0,true,.row 9 .str []),(1,true,.row 190 (.st 39) [])],[3,4,6,7],[6,8],[],10⟩ true .p zp33))
def k313:=aA 313 [.d .str,.d qI] [(.st 41,[none,none,none,none,none,none,none,none,none,none,some 9,some 190]),qJ,qJ] (qu2 nV_) (k308 (k432 (k431 (k430 (k312 ab_))))) (qp 13 (.s (.s .p (.lp ⟨[(17,.d qI)],[(5029,true,.cells 194 [.v qI,.v qI,.v qI,.v qI,.v qI,.v qI,.v qI,.v .str,.v .str,.v .str,.own 5074,.own 5075,.v qI,.v qI,.v qI,.v qI,.v qI,.v qI,.v .str,.v qI,.v qI,.v .str,.v qI,.v qI,.v qI,.v qI,.v qI,.v qI,.v qI,.v qI,.v qI,.v .str,.v .str,.v .str,.v .str,.v qI,.v qI,.v qI,.v .str]),(5074,false,.row 9 .str []),(5075,false,.row 190 (.st 39) []),(5053,true,.box 551 (.st 66))],[1,4,7,10,13,15,16],[0],[],5076⟩ ⟨[],[(5029,true,.cells 194 [.v qI,.v qI,.v qI,.v qI,.v qI,.v qI,.v qI,.v .str,.v .str,.v .str,.own 5074,.own 5075,.v qI,.v qI,.v qI,.v qI,.v qI,.v qI,.v .str,.v qI,.v qI,.v .str,.v qI,.v qI,.v qI,.v qI,.v qI,.v qI,.v qI,.v qI,.v qI,.v .str,.v .str,.v .str,.v .str,.v qI,.v qI,.v qI,.v .str]),(5074,false,.row 9 .str []),(5075,false,.row 190 (.st 39) []),(5053,true,.box 551 (.st 66))],[1,4,7,10,13,16],[0],[],5076⟩ false (.s .p (.s (.dr [0,0,0,0,0,0,2,4,4,4,2,2] [] false []) .p)))) .p))
def k206:=aA 206 [.d .str,.d qI] [(.sl (.st 41),[some 194]),(.str,[]),qJ] (qu2 c6_) (k313 (k312 ab_)) (qp 2 (.j ⟨[(7,.d qI)],[],[0],[],[],5⟩ false .p (qp 2 (.s (.lp ⟨[(8,.one (.own 8)),(9,.d .str)],[(8,false,.row 194 (.st 41) [])],[7],[],[],9⟩ ⟨[(8,.one (.own 8)),(9,.d .str)],[(8,false,.row 194 (.st 41) [])],[],[],[],9⟩ true .p) .p)))) true
def k115:=aA 115 [.d (.st 48)] [qB] (qu1 ib_) (k206 (k205 ab_)) (qp 2 (.s (.s .p (.lp ⟨[(3,.d qI)],[],[1],[0],[],24011⟩ ⟨[],[],[1],[0],[],24011⟩ true (.s .p (.s (.s (qd 32) .p) .p)))) .p))
def k207:=aA 207 [.d (.st 50)] [qB] (qu1 gA_) ab_ .p
def k314:=aA 314 [.d (.st 51),.d qI] [qJ] (qu2 jG_) ab_ zp9
def k208:=aA 208 [.d (.st 51),.d (.st 49)] [qB] (qu2 el_) (k314 ab_) (qp 2 zp10)
def k315:=aA 315 [.d (.st 49)] [qJ] (qu1 em_) ab_ .p
def k209:=aA 209 [.d (.st 49),.d (.st 49)] [qB] (qu2 ic_) (k315 ab_) (.s .p (.s (qp 5 (.s (.s (qd 6) .p) zp31)) zp17))
def zp34:Pl:=.s (.s (qd 11) .p) .p
def k116:=aA 116 [.d (.st 51)] [qB] (qu1 id_) (k209 (k208 (k207 ab_))) (qp 2 (.s (.s .p (.lp ⟨[(31,.d qI)],[],[1,30],[0],[],16013⟩ ⟨[],[],[1],[0],[],16013⟩ true (qp 2 (.s (.s .p (.s (qd 27) .p)) .p)))) (.s (.s .p (.lp ⟨[(65,.d qI)],[],[1,64],[0],[],16017⟩ ⟨[],[],[],[],[],16017⟩ true (qp 2 (.s (.s .p (.s zp3 (.s .p (.lp ⟨[(5,.d qI)],[],[1,4,64,65],[0],[],16029⟩ ⟨[],[],[1,64,65],[0],[],16029⟩ true (.s .p zp34))))) .p)))) .p)))
def k117:=aA 117 [.d (.sl (.st 45)),.d (.st 52)] [(.st 42,[]),qB] (qu2 mg_) ab_ (qp 2 (.s (.s .p (.lp ⟨[(7,.d qI)],[],[3,4,6],[0,2],[],13⟩ ⟨[],[],[4],[2],[],13⟩ true zp4)) .p)) true
def k57:=aA 57 [.d (.st 37),.d (.sl (.st 45)),.d (.st 52)] [qB] (qu3 ie_) (k117 (k116 (k115 (k114 (k113 (k56 ab_)))))) (.s .p (.s (.s .p (.lp ⟨[(7,.d qI)],[],[1,3,5],[0,2],[],6⟩ ⟨[],[],[1,5],[2],[],6⟩ true (.s .p (.s (.s (qd 7) .p) .p)))) .p))
def k23:=aA 23 [.d (.st 60)] [qB] (qu1 if_) (k57 (k56 (k55 ab_))) (qp 2 (.s (.s .p (.lp ⟨[(3,.d qI)],[],[1],[0],[],10010⟩ ⟨[],[],[1],[0],[],10010⟩ true (.s .p (.s (.s zp5 (.s .p (.lp ⟨[(4,.d qI)],[],[1,3],[0],[],10025⟩ ⟨[],[],[1,3],[0],[],10025⟩ true zp30))) .p)))) (.s (.s .p (.lp ⟨[(5,.d qI)],[],[1],[0],[],10011⟩ ⟨[],[],[1],[0],[],10011⟩ true (.s .p (.s (qp 3 (.lp ⟨[(7,.d qI)],[],[1,5,6],[0,10021],[],10033⟩ ⟨[],[],[1,5],[0],[],10033⟩ true (.s .p (.s (.s (qd 34) .p) .p)))) .p)))) (.s (.s .p (.lp ⟨[(8,.d qI)],[],[1],[0],[],10012⟩ ⟨[],[],[],[],[],10012⟩ true (.s .p (.s zp23 .p)))) .p))))
def k118:=aA 118 [.d (.st 53)] [qB] (qu1 c7_) ab_ .p
def k210:=aA 210 [.d (.st 53),.d (.st 53)] [qB] (qu2 ha_) ab_ .p
def k119:=aA 119 [.d (.st 56),.d (.st 53)] [qJ] (qu2 iQ_) (k210 ab_) (.s .p (.s (.s .p (.lp ⟨[(9,.d qI)],[],[2,3,8],[0,2],[],9⟩ ⟨[],[],[],[],[],9⟩ true zp27)) .p))
def zj24:JP:=⟨[(8,.d qI)],[],[0,3,7],[0],[],6⟩
def k120:=aA 120 [.d (.sl (.st 54)),.d (.st 53)] [qJ] (qu2 kz_) (k210 ab_) (.s .p (.s (.s .p (.lp zj24 zj23 true (qp 2 (.s (.s .p (.s (qd 7) .p)) .p)))) .p))
set_option maxRecDepth 100000
def zj25:JP:=⟨[],[],[],[],[],14013⟩
def k58:=aA 58 [.d (.st 56)] [qB] (qu1 ig_) (k120 (k119 (k118 ab_))) (qp 2 (.s (.s .p (.lp ⟨[(29,.d qI)],[],[1,28],[0],[],14013⟩ zj25 true (qp 2 (.s (qp 4 (.lp ⟨[(64,.d qI)],[],[1,4,28,29,63],[0,14021],[],31036⟩ ⟨[],[],[1,28,29],[0],[],31036⟩ true (qp 2 (.s (.s .p zp23) .p)))) .p)))) .p))
def k121:=aA 121 [.d (.st 53)] [qB] (qu1 ih_) ab_ .p
def k122:=aA 122 [.d (.sl (.st 57)),.d (.st 57)] [qB] (qu2 gB_) ab_ (.s .p (.s (.s .p (.lp zj24 zj23 true (qp 2 (.s (.s .p (.s (qd 38) .p)) .p)))) .p))
def k59:=aA 59 [.d (.st 58)] [qB] (qu1 ii_) (k122 (k121 ab_)) (qp 3 (.s (.s .p (.lp ⟨[(3,.d qI),(17,.d qI)],[],[1,16],[0],[],4012⟩ ⟨[],[],[],[],[],4012⟩ true .p)) .p))
def zj26:JP:=⟨[],[],[1],[0],[],7⟩
def zp35:Pl:=qp 2 (.s (.s .p zp17) .p)
def zj27:JP:=⟨[],[],[1],[0],[],11⟩
def zj28:JP:=⟨[],[],[],[],[],16⟩
def k24:=aA 24 [.d (.st 60)] [qB] (qu1 dx_) (k59 (k58 ab_)) (.s .p (.s (.s .p (.lp ⟨[(11,.d qI)],[],[1,10],[0],[],7⟩ zj26 true (qp 2 (.s (.s .p (.s (.s .p (.lp ⟨[(15,.d qI)],[],[1,3,10,11,14],[0],[],12⟩ ⟨[],[],[1,3,10,11],[0],[],12⟩ true zp35)) zp11)) .p)))) (.s (.s .p (.lp ⟨[(65,.d qI)],[],[1,64],[0],[],11⟩ zj27 true (qp 2 (.s (.s .p (.s (.s .p (.lp ⟨[(69,.d qI)],[],[1,5,64,65,68],[0],[],16⟩ ⟨[],[],[1,5,64,65],[0],[],16⟩ true zp35)) zp11)) .p)))) (.s (.s .p (.lp ⟨[(120,.d qI)],[],[1,119],[0],[],16⟩ zj28 true (qp 2 (.s zp25 .p)))) .p))))
def k212:=aA 212 [.d (.st 1)] [(.sl (.st 0),[some 368])] (qu1 gC_) ab_ .p true
def cS_211(f:(tL Xt)->tO Int):Con te:=af_ te [.d (.sl (.st 0))] [qJ] false λa=>f a.1
def cS_123(f:(tL Xd)->tO Int):Con te:=af_ te [.d (.sl (.st 2))] [qJ] false λa=>f a.1
def zj29:JP:=⟨[(3,.d qI),(4,.d qI)],[],[0],[],[],5⟩
def zj30:JP:=⟨[(3,.d qI)],[],[],[],[],5⟩
theorem okS_123(f:(tL Xt)->tO Int)(j:OKF 211 (cS_211 f))(h:(tL Xd)->tO Int)(m:OKF 123 (cS_123 h)):OKF 123 (cS_123 (jH_ f h)):=⟨aa_ ad_ (k212 (ac_ m (ac_ j ab_))) Tryz.func123 (by kernel_rfl) (pl:=qp 2 (.s (.s .p (.lp zj29 zj30 false (.s .p (.s (.s (qd 23) (.s .p (.lp ⟨[(3,.d qI),(5,.d qI)],[],[0,4],[],[],33⟩ ⟨[(3,.d qI)],[],[0,4],[],[],33⟩ false .p))) .p)))) .p)) λ_=>by kernel_rfl,by kernel_rfl⟩
theorem okS_211(f:(tL Xt)->tO Int)(j:OKF 211 (cS_211 f))(h:(tL Xd)->tO Int)(m:OKF 123 (cS_123 h)):OKF 211 (cS_211 (eN_ f h)):=⟨aa_ ad_ (ac_ m (ac_ j ab_)) Tryz.func211 (by kernel_rfl) (pl:=qp 2 (.s (.s .p (.lp zj29 zj30 false zp21)) .p)) λ_=>by kernel_rfl,by kernel_rfl⟩
theorem pM_:∀n,OKF 123 (cS_123 (mW_ n))/\OKF 211 (cS_211 (tH_ n))
 | 0=>⟨⟨bf_ λ_=>rfl,by kernel_rfl⟩,⟨bf_ λ_=>rfl,by kernel_rfl⟩⟩
 | n+1=>⟨okS_123 _ ((pM_ n).2) _ ((pM_ n).1),okS_211 _ ((pM_ n).2) _ ((pM_ n).1)⟩
def c_123:Con te:=af_ te [.d (.sl (.st 2))] [qJ] false λa=>qz_ a.1
theorem ok_123:OKF 123 c_123:=show OKF 123 (af_ te [.d (.sl (.st 2))] [qJ] false λa=>limO λn=>mW_ n a.1)from sk_ λn=>(pM_ n).1
def cS_213(f:(tL Xt)->tO Int):Con te:=af_ te [.d (.sl (.st 0))] [qJ] false λa=>f a.1
def cS_124(f:(tL Xd)->tO Int):Con te:=af_ te [.d (.sl (.st 2))] [qJ] false λa=>f a.1
theorem okS_124(f:(tL Xt)->tO Int)(j:OKF 213 (cS_213 f))(h:(tL Xd)->tO Int)(m:OKF 124 (cS_124 h)):OKF 124 (cS_124 (jI_ f h)):=⟨aa_ ad_ (k212 (ac_ m (ac_ j ab_))) Tryz.func124 (by kernel_rfl) (pl:=qp 2 (.s (.s .p (.lp zj14 zj15 false (.s .p (.s (.s (qd 14) (.s (.s .p (.lp ⟨[(5,.d qI),(6,.d qI)],[],[0,3,4],[],[],22⟩ ⟨[(5,.d qI)],[],[0,3,4],[],[],22⟩ false .p)) .p)) .p)))) .p)) λ_=>by kernel_rfl,by kernel_rfl⟩
theorem okS_213(f:(tL Xt)->tO Int)(j:OKF 213 (cS_213 f))(h:(tL Xd)->tO Int)(m:OKF 124 (cS_124 h)):OKF 213 (cS_213 (eO_ f h)):=⟨aa_ ad_ (ac_ m (ac_ j ab_)) Tryz.func213 (by kernel_rfl) (pl:=qp 2 (.s (.s .p (.lp zj14 zj15 false (.s .p zp13))) .p)) λ_=>by kernel_rfl,by kernel_rfl⟩
theorem pN_:∀n,OKF 124 (cS_124 (mX_ n))/\OKF 213 (cS_213 (tI_ n))
 | 0=>⟨⟨bf_ λ_=>rfl,by kernel_rfl⟩,⟨bf_ λ_=>rfl,by kernel_rfl⟩⟩
 | n+1=>⟨okS_124 _ ((pN_ n).2) _ ((pN_ n).1),okS_213 _ ((pN_ n).2) _ ((pN_ n).1)⟩
def c_124:Con te:=af_ te [.d (.sl (.st 2))] [qJ] false λa=>qA_ a.1
theorem ok_124:OKF 124 c_124:=show OKF 124 (af_ te [.d (.sl (.st 2))] [qJ] false λa=>limO λn=>mX_ n a.1)from sk_ λn=>(pN_ n).1
def k316:=aA 316 [.d qI] [qJ] (qu1 ij_) ab_ (.s .p (.s (.s .p (.j zj20 false .p (qp 3 (.j ⟨[(19,.d .bool)],[],[3],[],[],4⟩ false .p .p)))) .p))
def k546:=aA 546 [.d .str] [qB] (qu1 fw_) ab_ (.s .p zp2)
def k433:=aA 433 [.d (.st 2)] [qB] (qu1 k1_) (k546 ab_) (.s .p (.s (qd 8) (qp 2 (.s (qp 5 (.j ⟨[(79,.d .bool)],[],[1,3,4,58],[0],[],36027⟩ false .p (.s .p (.j ⟨[(90,.d .bool)],[],[1,3,4,58],[0],[],36027⟩ false .p (qp 3 (.j ⟨[(105,.d .bool)],[],[1,3,4,58],[0],[],36029⟩ false .p .p)))))) .p))))
def k550:=aA 550 [.d .str] [qB] (qu1 fL_) ab_ .p
def k551:=aA 551 [.d .str] [qB] (qu1 gD_) ab_ zp1
def k436:=aA 436 [.d (.st 0)] [qB] (qu1 jJ_) (k551 (k550 ab_)) (.s .p (.j ⟨[],[(0,true,.box 368 (.st 0))],[1],[],[],3⟩ false .p .p))
def k548:=aA 548 [.d (.st 0)] [qB] (qu1 jK_) ab_ .p
set_option maxRecDepth 100000
def k549:=aA 549 [.d qI] [(.str,[])] (qu1 k2_) ab_ (qp 2 (.s (.s .p (.lp ⟨[(3,.d .str),(4,.d qI)],[],[0],[],[],3⟩ ⟨[(3,.d .str)],[],[],[],[],3⟩ false .p)) .p))
def k746:=aA 746 [.d (.int .u8)] [qB] (qu1 fb_) ab_ zp29
def k643:=aA 643 [.d (.st 0)] [qB] (qu1 en_) (k746 ab_) (qp 2 (.s (.s .p (.lp ⟨[(3,.d qI)],[],[1],[0],[],11⟩ zj27 true .p)) .p))
def cS_214(f:(tL Xd)->Int->tO tV):Con te:=af_ te [.d (.sl (.st 2)),.d qI] [qB] false (qu2 f)
def cS_125(f:(tL Xd)->tO tV):Con te:=af_ te [.d (.sl (.st 2))] [qB] false λa=>f a.1
theorem okS_125(f:(tL Xd)->Int->tO tV)(h:OKF 214 (cS_214 f)):OKF 125 (cS_125 (rg_ f)):=⟨aa_ ad_ (ac_ h ab_) Tryz.func125 (by kernel_rfl) (pl:=.p) λ_=>by kernel_rfl,by kernel_rfl⟩
def cS_317(f:Xd->tO tV):Con te:=af_ te [.d (.st 2)] [qB] false λa=>f a.1
theorem okS_214(f317:Xd->tO tV)(f:OKF 317 (cS_317 f317)):OKF 214 (cS_214 (jL_ f317)):=⟨aa_ ad_ (ac_ f (k316 ab_)) Tryz.func214 (by kernel_rfl) (pl:=.s .p zp19) λ_=>by kernel_rfl,by kernel_rfl⟩
def cS_434(f:(tL Xt)->tO tV):Con te:=af_ te [.d (.sl (.st 0))] [qB] false λa=>f a.1
def cS_435(f:Vl->tO tV):Con te:=af_ te [.d (.st 1)] [qB] false λa=>f a.1
def cS_437(f:Xd->tO tV):Con te:=af_ te [.d (.st 2)] [qB] false λa=>f a.1
def cS_438(f:(tL Xd)->tO tV):Con te:=af_ te [.d (.sl (.st 2))] [qB] false λa=>f a.1
theorem okS_317(q:(tL Xt)->tO tV)(F:OKF 434 (cS_434 q))(m:Vl->tO tV)(D:OKF 435 (cS_435 m))(h:Xd->tO tV)(C:OKF 437 (cS_437 h))(u:(tL Xd)->Int->tO tV)(G:OKF 214 (cS_214 u))(x:(tL Xd)->tO tV)(J:OKF 125 (cS_125 x))(f:(tL Xd)->tO tV)(y:OKF 438 (cS_438 f)):OKF 317 (cS_317 (fx_ q m h u x f)):=⟨aa_ ad_ (ac_ y (ac_ J (ac_ G (ac_ C (k436 (ac_ D (ac_ F (k433 ab_)))))))) Tryz.func317 (by kernel_rfl) (pl:=qp 2 (.s (.s .p (.lp ⟨[(3,.d qI)],[],[1],[0],[],5008⟩ ⟨[],[],[1],[0],[],5008⟩ true .p)) (.s (qp 3 (.j ⟨[(43,.d .bool)],[],[1,28],[0],[],5012⟩ false .p (.s .p (.j ⟨[(57,.d .bool)],[],[1,28],[0],[],5012⟩ false .p (.s .p (.j ⟨[(63,.d .bool)],[],[1,28],[0],[],5012⟩ false .p .p)))))) .p))) λ_=>by kernel_rfl,by kernel_rfl⟩
def cS_547(f:Xt->tO tV):Con te:=af_ te [.d (.st 0)] [qB] false λa=>f a.1
theorem okS_434(f:Xt->tO tV)(h:OKF 547 (cS_547 f)):OKF 434 (cS_434 (eo_ f)):=⟨aa_ ad_ (ac_ h ab_) Tryz.func434 (by kernel_rfl) (pl:=.s .p zp0) λ_=>by kernel_rfl,by kernel_rfl⟩
theorem okS_435(f:Xt->tO tV)(h:OKF 547 (cS_547 f)):OKF 435 (cS_435 (ep_ f)):=⟨aa_ ad_ (k549 (k548 (ac_ h ab_))) Tryz.func435 (by kernel_rfl) (pl:=qp 2 (.s (.s .p (.j ⟨[(44,.d .bool)],[],[1,43],[0],[],29013⟩ false .p (.s .p (.j ⟨[(51,.d .bool)],[],[1,43],[0],[],29013⟩ false .p (qp 2 (.s (qp 2 (.s (qd 38) .p)) .p)))))) .p)) λ_=>by kernel_rfl,by kernel_rfl⟩
theorem okS_437(f317:Xd->tO tV)(f:OKF 317 (cS_317 f317)):OKF 437 (cS_437 (jM_ f317)):=⟨aa_ ad_ (ac_ f ab_) Tryz.func437 (by kernel_rfl) (pl:=.p) λ_=>by kernel_rfl,by kernel_rfl⟩
theorem okS_438(f:(tL Xt)->tO tV)(j:OKF 434 (cS_434 f))(h:(tL Xd)->tO tV)(m:OKF 125 (cS_125 h)):OKF 438 (cS_438 (iA_ f h)):=⟨aa_ ad_ (ac_ m (ac_ j ab_)) Tryz.func438 (by kernel_rfl) (pl:=.s .p zp0) λ_=>by kernel_rfl,by kernel_rfl⟩
theorem okS_547(f:(tL Xt)->tO tV)(m:OKF 434 (cS_434 f))(h:(tL Xd)->tO tV)(q:OKF 125 (cS_125 h)):OKF 547 (cS_547 (eP_ f h)):=⟨aa_ ad_ (ac_ q (ac_ m (k546 (k643 ab_)))) Tryz.func547 (by kernel_rfl) (pl:=.s .p (.s (qp 3 (.j ⟨[(20,.d .bool)],[],[1,5],[0],[],7⟩ false .p (qp 8 (.s (.s (.s .p (.lp ⟨[(3,.d qI)],[],[1],[0],[],16⟩ ⟨[],[],[1],[0],[],16⟩ true .p)) .p) .p)))) .p)) λ_=>by kernel_rfl,by kernel_rfl⟩
theorem cK_:∀n,OKF 125 (cS_125 (lA_ n))/\OKF 214 (cS_214 (ref48_upTo_N n))/\OKF 317 (cS_317 (uY_ n))/\OKF 434 (cS_434 (sr_ n))/\OKF 435 (cS_435 (ss_ n))/\OKF 437 (cS_437 (ref48_cond_N n))/\OKF 438 (cS_438 (An_ n))/\OKF 547 (cS_547 (tJ_ n))
 | 0=>⟨⟨bf_ λ_=>rfl,by kernel_rfl⟩,⟨bf_ λ_=>rfl,by kernel_rfl⟩,⟨bf_ λ_=>rfl,by kernel_rfl⟩,⟨bf_ λ_=>rfl,by kernel_rfl⟩,⟨bf_ λ_=>rfl,by kernel_rfl⟩,⟨bf_ λ_=>rfl,by kernel_rfl⟩,⟨bf_ λ_=>rfl,by kernel_rfl⟩,⟨bf_ λ_=>rfl,by kernel_rfl⟩⟩
 | n+1=>⟨okS_125 _ ((cK_ n).2.1),okS_214 _ ((cK_ n).2.2.1),okS_317 _ ((cK_ n).2.2.2.1) _ ((cK_ n).2.2.2.2.1) _ ((cK_ n).2.2.2.2.2.1) _ ((cK_ n).2.1) _ ((cK_ n).1) _ ((cK_ n).2.2.2.2.2.2.1),okS_434 _ ((cK_ n).2.2.2.2.2.2.2),okS_435 _ ((cK_ n).2.2.2.2.2.2.2),okS_437 _ ((cK_ n).2.2.1),okS_438 _ ((cK_ n).2.2.2.1) _ ((cK_ n).1),okS_547 _ ((cK_ n).2.2.2.1) _ ((cK_ n).1)⟩
def c_125:Con te:=af_ te [.d (.sl (.st 2))] [qB] false λa=>oz_ a.1
theorem ok_125:OKF 125 c_125:=show OKF 125 (af_ te [.d (.sl (.st 2))] [qB] false λa=>limO λn=>lA_ n a.1)from sk_ λn=>(cK_ n).1
def k60:=aA 60 [.d (.sl (.st 2))] [qB] (qu1 f4_) (ac_ ok_125 (ac_ ok_124 (ac_ ok_123 ab_))) .p
def k25:=aA 25 [.d (.st 60)] [qB] (qu1 eq_) (k60 ab_) (.s .p (.s (.s .p (.lp ⟨[(9,.d qI)],[],[1,8],[0],[],7⟩ zj26 true (qp 2 (.s (qp 4 (.lp ⟨[(43,.d qI)],[],[1,4,8,9,42],[0,15],[],19027⟩ ⟨[],[],[1,8,9],[0],[],19027⟩ true zp26)) .p)))) .p))
def k26:=aA 26 [.d (.st 60)] [qB] (qu1 fc_) (k60 ab_) (.s .p (.s (.s .p (.lp ⟨[(8,.d qI)],[],[1,7],[0],[],7⟩ zj26 true (qp 2 (.s (qp 3 (.lp ⟨[(39,.d qI)],[],[1,3,7,8,38],[0],[],18021⟩ ⟨[],[],[1,7,8],[0],[],18021⟩ true zp35)) .p)))) .p))
set_option maxRecDepth 100000
def zp36:Pl:=qp 2 (.s (.s .p (qd 13)) .p)
def k27:=aA 27 [.d (.st 60),.d (.st 33)] [qB] (qu2 dy_) (k61 ab_) (qp 2 (.s (.s .p (.lp ⟨[(5,.d .bool),(16,.d qI)],[],[2,3,6,7,15],[0,2],[],12⟩ ⟨[(5,.d .bool)],[],[2,3,6,7],[0,2],[],12⟩ false zp36)) (.s (.s .p (.lp ⟨[(6,.d .bool),(36,.d qI)],[],[2,3,5,7,35],[0,2],[],17⟩ ⟨[(6,.d .bool)],[],[2,3,5,7],[0,2],[],17⟩ false (qp 2 (.s (.s .p (qd 14)) .p)))) (.s (.s .p (.lp ⟨[(7,.d .bool),(56,.d qI)],[],[2,3,5,6,55],[0,2],[],21⟩ ⟨[(7,.d .bool)],[],[3,5,6],[2],[],21⟩ false zp36)) .p))))
def k11:=aA 11 [.d (.st 60)] [qB] (qu1 k3_) (k27 (k26 (k25 (k24 (k23 ab_))))) (qp 2 (.s (.s .p (.lp ⟨[(38,.d qI)],[],[1,37],[0],[],20017⟩ ⟨[],[],[],[],[],20017⟩ true .p)) .p))
def k5:=aA 5 [.d (.st 60)] [qB] (qu1 k4_) (k11 ab_) .p
def zp37:Pl:=.ot 0 .nil
def zp38:Pl:=.s zp37 .p
def zp39:Pl:=.s zp38 .p
def zp40:Pl:=.s .p zp39
def k28:=aA 28 [.d (.sl .str)] [qJ] (qu1 oA_) (ac_ j0_ ab_) (.s .p (.s zp40 (.s (.s .p (.lp ⟨[(15,.d qI)],[],[0,14],[],[],4008⟩ ⟨[],[],[],[],[],4008⟩ false (qp 2 (.s (.s .p (.s zp40 (.s .p (.lp ⟨[(25,.d qI)],[],[0,3,14,15,24],[],[],4019⟩ ⟨[],[],[0,14,15],[],[],4019⟩ false (qp 2 (.s (.s .p (.s (qd 9) zp39)) .p)))))) .p)))) .p)))
def k64:=aA 64 [] [(.sl (.st 3),[some 280])] (λ_=>oB_) ab_ .p true
def k131:=aA 131 [.d qI] [qJ] (qu1 ref13_at) ab_ .p
def zp41:Pl:=.s zp40 .p
def zp42:Pl:=.s .p zp41
def k136:=aA 136 [.d .str] [(.str,[])] (qu1 dN_) ab_ zp42
def k137:=aA 137 [.d qI] [qJ] (qu1 hb_) ab_ .p
def k66:=aA 66 [.d .str,.d qI,.d qI] [(.st 6,[none,some 88])] (qu3 nW_) (k137 (k136 ab_)) .p
def zp43:Pl:=qp 2 zp39
def k63:=aA 63 [.d (.sl (.st 3)),.d (.sl (.st 4)),.d .str,.d qI] [(.st 7,[none,none,none,some 88]),qJ] (qu4 ref13_New) (k66 (k131 (ac_ mr_ (k130 (k129 ab_))))) (.s .p (.s zp43 (.s zp43 zp41))) true
def k218:=aA 218 [.d (.st 6),.d qI,.d .str] [qJ,qJ] (qu3 qE_) (ac_ pL_ (ac_ lu_ ab_)) (qp 2 (.s zp40 (.s zp40 (.s zp40 (.s (.s .p (.lp ⟨[(10,.d qI)],[],[1,2,3],[0],[],24⟩ ⟨[],[],[],[],[],24⟩ true .p)) .p)))))
def k223:=aA 223 [.d (.st 5),.d .str,.d qI] [(.st 5,[])] (qu3 lB_) (k136 (k137 ab_)) .p
def k222:=aA 222 [.d (.st 6),.d (.st 5)] [(.st 6,[none,some 88])] (qu2 qF_) ab_ (qp 2 (.s (.s .p (.lp ⟨[(6,.d qI)],[(9,true,.cells 43 [.v qI,.own 14]),(14,false,.row 88 (.st 5) [])],[2,3,4,5],[0,2,4],[],15⟩ ⟨[],[(9,true,.cells 43 [.v qI,.own 14]),(14,false,.row 88 (.st 5) [])],[4,5],[4],[],15⟩ false (.s .p (.j ⟨[],[(9,true,.cells 43 [.v qI,.own 20]),(20,false,.row 88 (.st 5) [])],[2,3,4,5,6],[0,2,4],[],21⟩ false (.s (qd 9) (.s .p (.dr [0,0,0,0,0,0,0,1,2,4,2] [] false []))) .p)))) .p))
def k219:=aA 219 [.d (.st 6),.d qI,.d .str,.d qI] [(.st 6,[none,some 88])] (qu4 t4_) (k222 (k223 (ac_ lu_ ab_))) (qp 2 (.s (.dr [0,0,0,0,0,1,2] [] false []) .p))
def k132:=aA 132 [.d (.st 6),.d qI,.d .str,.d qI,.d .str,.d .str,.d qI] [(.st 6,[none,some 88]),qJ,qJ] (qu7 mY_) (k219 (k137 (k136 (k218 (k183 (ac_ j0_ (ac_ pL_ (ac_ lu_ ab_)))))))) (qp 2 (.s zp40 (.s zp40 (.s zp40 (.s zp40 (.s zp43 (.s zp40 (.s (.dr [0,0,0,0,0,0,0,0,0,0,0,0,0,0,0,0,1,2] [] false []) (qp 3 (.s (.dr [0,0,0,1,4,4] [] true [2]) .p))))))))))
def k133:=aA 133 [] [(.sl .str,[some 9])] (λ_=>pw_) ab_ .p
def k134:=aA 134 [.d .str] [qB] (qu1 rh_) ab_ zp29
def zp44:Pl:=.s zp40 zp41
def k220:=aA 220 [.d (.st 6),.d qI] [(.st 5,[]),qJ] (qu2 wl_) (ac_ pL_ (ac_ lu_ ab_)) (qp 2 zp44)
def k221:=aA 221 [.d qI] [(.str,[])] (qu1 t5_) ab_ .p
def zp45:Pl:=.s .p zp38
def k135:=aA 135 [.d (.st 6),.d qI,.d qI,.d .str,.d .str,.d qI] [(.st 6,[none,some 88]),qJ,qJ] (qu6 t6_) (k222 (k223 (k221 (k220 ab_)))) (qp 2 (.s zp40 (.s zp40 (.s zp40 (.s zp45 (.s zp40 (qp 3 (.s (.dr [0,0,0,0,0,1,4,4,2,4,4] [6,7] false []) .p))))))))
def zp46:Pl:=.df [0,0,0,0,0,1,4,4,4,4,1,2,4,4] [] 5
def k65:=aA 65 [] [(.st 6,[none,some 88])] (λ_=>px_) (k135 (k134 (k133 (k132 (k66 ab_))))) (qp 3 (.s (.s .p (.lp ⟨[(14,.d qI)],[(4,true,.cells 43 [.v qI,.own 14]),(14,false,.row 88 (.st 5) []),(8,true,.row 9 .str [])],[0,1,2,13],[0],[],15⟩ ⟨[],[(4,true,.cells 43 [.v qI,.own 14]),(14,false,.row 88 (.st 5) [])],[0,1],[0],[],15⟩ false (qp 2 (.s (qp 2 (.j ⟨[(4,.d qI)],[(8,true,.row 9 .str [])],[0,1,2,3,13,14],[0,4,14],[],19⟩ false .p (.dr [0,0,0,0,0,0,1,4,4,4,4,2] [] false []))) .p)))) (.s .p (.s (.s .p (.lp ⟨[(37,.d qI)],[(4,true,.cells 43 [.v qI,.own 21]),(21,false,.row 88 (.st 5) []),(15,true,.row 9 .str [])],[0,1,5,36],[0],[],22⟩ ⟨[],[(4,true,.cells 43 [.v qI,.own 21]),(21,false,.row 88 (.st 5) [])],[0,1],[0],[],22⟩ false (qp 2 (.j ⟨[],[(4,true,.cells 43 [.v qI,.own 23]),(23,false,.row 88 (.st 5) []),(15,true,.row 9 .str [])],[0,1,5,36,37],[0],[],24⟩ false (qp 2 (.s zp46 (.dr [0,0,0,0,0,0,0,0,1,4,4,4,4,2] [] false []))) .p)))) .p))))
set_option maxRecDepth 100000
def zj31:JP:=⟨[(6,.d qI)],[],[0,2,4,5],[0],[],19⟩
def k67:=aA 67 [.d (.sl .str)] [(.st 24,[]),qJ] (qu1 ref24_New) (k138 ab_) (.s .p (.s zp40 (.s .p (.s (.s .p (.lp ⟨[(4,.d (.sl (.st 23))),(5,.d qI)],[],[0,2],[0],[],8⟩ ⟨[(4,.d (.sl (.st 23)))],[],[2],[0],[],8⟩ false (.s .p (.s (.s zp40 (.s .p (.s (.lp zj31 zj31 false (.s (.s zp7 .p) .p)) (.s (.s zp7 zp39) .p)))) .p)))) .p)))) true
def k139:=aA 139 [.d qI] [(.st 9,[])] (qu1 ref15_New) ab_ .p true
def k69:=aA 69 [.d (.st 7),.d qI] [(.st 11,[])] (qu2 ref17_New) (k139 ab_) (.s .p (.s (.dr [0,0,1,4,2] [] false []) .p)) true
def k29:=aA 29 [.d .str] [(.sl (.st 27),[some 73]),qJ] (qu1 wm_) (k69 (k68 (k67 (k66 (k65 (k63 (k64 ab_))))))) (qp 2 (.s zp40 (qp 3 (.s zp40 (.s .p (.s zp40 (.s (.dr [0,0,0,1,4,0,0,0,0,0,0,0,0,0,0,0,1,4,4] [5,7,9,11,13,15,6,8,10,12,14] false []) .p))))))) true
def k30:=aA 30 [.d qI] [(.st 45,[])] (qu1 ref36_New) ab_ .p true
def k32:=aA 32 [] [(.st 48,[])] (λ_=>ls_) ab_ .p true
def k31:=aA 31 [.d (.st 48)] [(.st 48,[]),(.sl (.st 41),[])] (qu1 qG_) ab_ (.s .p (.s zp40 (.s .p (.s (.s .p (.lp ⟨[],[],[1,2,4,5],[0,2],[],10⟩ ⟨[],[],[1,2,4],[0,2],[],10⟩ false zp45)) .p)))) true
def k33:=aA 33 [.d qI] [(.st 46,[])] (qu1 ref37_New) ab_ .p
def k34:=aA 34 [.d qI] [(.st 51,[])] (qu1 ref39_New) ab_ .p true
def k35:=aA 35 [.d .str] [(.st 34,[none,none,some 98]),qJ] (qu1 st_) (ac_ mr_ ab_) zp42 true
def k140:=aA 140 [.d (.st 45)] [(.st 45,[none,none,none,none,none,some 224]),qJ,qJ] (qu1 mZ_) ab_ zp42 true
def k141:=aA 141 [.d (.st 68),.d (.st 37),.d (.st 45)] [(.st 68,[none,none,none,none,none,none,none,none,none,some 112])] (qu3 gE_) ab_ .p true
def k142:=aA 142 [.d (.st 51)] [(.st 51,[])] (qu1 oC_) ab_ .p true
def k320:=aA 320 [.d (.sl (.st 47))] [qJ] (qu1 ref38_tag) (k311 (k310 ab_)) (.s .p (.s (.s .p (.lp ⟨[],[],[0,3],[],[],2⟩ zj1 true (qp 2 zp37))) zp38))
def k441:=aA 441 [.d qI,.d qI] [(.str,[]),qJ] (qu2 nX_) (k429 ab_) (.s .p (.s zp40 (qp 2 (.s (.s .p (.lp ⟨[(6,.d .str),(7,.d qI),(8,.d qI)],[],[1],[],[],9⟩ ⟨[(6,.d .str),(7,.d qI)],[],[],[],[],9⟩ false .p)) zp41))))
def k439:=aA 439 [.d (.st 69),.d qI,.d qI] [(.st 69,[])] (qu3 er_) (k441 ab_) (qp 2 (.j ⟨[],[(0,true,.box 562 (.st 69))],[3,6],[2],[],12⟩ false .p .p))
def zp47:Pl:=qp 2 zp41
def k644:=aA 644 [.d .str] [(.str,[]),qJ] (qu1 ri_) (k441 ab_) zp47
def k552:=aA 552 [.d (.st 69),.d .str] [(.st 69,[])] (qu2 jN_) (k644 ab_) (qp 2 (.j ⟨[],[(0,true,.box 562 (.st 69))],[2,4],[2],[],11⟩ false .p .p))
def k553:=aA 553 [.d (.st 69),.d (.st 39)] [(.st 69,[])] (qu2 ref09_qid) (k439 ab_) (.s .p (.s (.dr [0,0,0,0,0,0,0,0,0,0,2] [] false []) .p))
def k440:=aA 440 [.d (.st 69),.d (.st 41),.d qI] [(.st 69,[])] (qu3 t7_) (k553 (k552 (k439 ab_))) (.s .p (.s (qp 17 zp38) .p))
def zp48:Pl:=.dr [0,0,0,0,0,0,0,1,2] [] false []
def zp49:Pl:=.s (.dr [0,0,0,0,0,0,0,2] [] false []) .p
def k321:=aA 321 [.d (.st 41)] [(.str,[]),qJ] (qu1 su_) (k441 (k440 (k439 (k431 (k308 ab_))))) (.s .p (.s zp43 (.s .p (.s zp48 (.s (.s .p (.lp ⟨[(8,.d qI)],[(24,true,.box 562 (.st 69))],[1,5,7],[0],[],29⟩ ⟨[],[(24,true,.box 562 (.st 69))],[7],[],[],29⟩ false (.s .p zp49))) zp44)))))
def k322:=aA 322 [.d (.st 48),.d (.st 41)] [(.st 48,[none,none,none,none,some 197])] (qu2 t8_) ab_ .p true
def k224:=aA 224 [.d (.st 48),.d (.st 41)] [(.st 48,[none,none,none,none,some 197]),qJ,(.str,[]),qJ] (qu2 oD_) (k322 (k321 (k320 (k310 (k309 ab_))))) (.s .p (.s zp40 (.s zp40 (.s zp40 (.s zp40 (.s .p (.j ⟨[],[(2,true,.box 194 (.st 41))],[2,3,4],[0,4],[],14032⟩ false .p (.s .p (.s zp40 (.s zp40 (.s (.dr [0,0,1,0,0,0,1,4,4,4] [3,5,4] true [4]) .p))))))))))) true
def k323:=aA 323 [.d (.st 46),.d .bool,.d .str] [(.st 46,[]),qJ] (qu3 jO_) ab_ (.s .p (.s zp40 (.s .p (.j ⟨[],[(9,true,.box 122 (.st 46))],[3,6,8],[0,2],[],13⟩ false .p zp41))))
def zp50:Pl:=qp 2 (.s (.dr [0,0,0,0,0,1,4] [] true [2]) .p)
def k324:=aA 324 [.d (.st 46),.d .bool,.d qI] [(.st 46,[]),(.str,[])] (qu3 jP_) ab_ (qp 2 (.s (.s .p (.s zp50 .p)) zp50))
def k442:=aA 442 [.d (.st 45),.d qI] [qJ] (qu2 kA_) ab_ (.s .p (.s (.s .p (.lp ⟨[],[],[1,2,8,9],[0],[],7⟩ zj8 true (qp 3 zp37))) zp38))
set_option maxRecDepth 100000
def k556:=aA 556 [.d (.sl (.st 44)),.d qI] [(.sl (.st 44),[]),(.sl (.st 38),[])] (qu2 sv_) ab_ (qp 3 (.s (.s .p (.lp ⟨[],[],[6,7,10,11],[],[],7⟩ ⟨[],[],[6,7],[],[],7⟩ false zp43)) .p)) true
def zp51:Pl:=qp 2 (.s (.s .p (.lp ⟨[],[],[0,1,5,6],[],[],3⟩ ⟨[],[],[5],[],[],3⟩ false zp40)) .p)
def k557:=aA 557 [.d (.sl (.st 43)),.d qI] [(.sl (.st 43),[])] (qu2 t9_) ab_ zp51 true
def k558:=aA 558 [.d (.st 37),.d (.st 45),.d qI,.d (.sl (.st 38))] [(.st 37,[])] (qu4 lC_) ab_ (.s .p (.s (.s .p (.lp ⟨[],[],[4,8,11,12],[0,4],[],9⟩ ⟨[],[],[4,8],[0,4],[],9⟩ false zp43)) .p)) true
def k443:=aA 443 [.d (.st 37),.d (.st 45)] [(.st 37,[]),(.st 45,[])] (qu2 m0_) (k558 (k557 (k556 ab_))) (qp 4 (.s (.dr [0,0,0,1,0,1,1] [4] true [4,6]) .p)) true
def k560:=aA 560 [.d (.st 42),.d qI] [qB] (qu2 m1_) ab_ (.s .p (.s (.s .p (.lp ⟨[],[],[8,9],[],[],7⟩ zj8 false zp43)) .p))
def k753:=aA 753 [.d .str,.d qI] [(.str,[]),qJ,qJ] (qu2 rj_) ab_ (.s .p (.s zp40 (.s .p (.j ⟨[(7,.d .str)],[],[1],[],[],6⟩ false .p .p))))
def k754:=aA 754 [.d (.sl (.st 43)),.d qI] [(.sl (.st 43),[])] (qu2 sw_) ab_ zp51 true
def k562:=aA 562 [.d (.st 45),.d (.st 42)] [(.st 45,[none,none,none,none,none,some 224])] (qu2 qH_) (k442 ab_) (qp 2 zp49) true
def k648:=aA 648 [.d (.st 37),.d (.st 45),.d (.st 42),.d (.st 41)] [(.st 37,[]),(.st 45,[none,none,none,none,none,some 224]),(.st 41,[])] (qu4 rk_) (k562 (k204 (k754 (k558 (k753 ab_))))) (qp 2 (.s zp40 (qp 4 (.j ⟨[],[(48,true,.box 224 (.st 42)),(57,true,.box 194 (.st 41))],[4,5,8,9,10,14,15],[0,2,8,10,12],[],61⟩ false .p (.s (.dr [0,0,0,1,0,1,1,1] [4] true [8,10,12]) .p))))) true
def k653:=aA 653 [.d (.sl (.st 38)),.d qI] [(.st 38,[]),qB] (qu2 mh_) ab_ (.s .p (.s (.s .p (.lp ⟨[],[],[0,1,4,6],[0],[],4⟩ ⟨[],[],[4],[0],[],4⟩ false zp40)) .p))
def k782:=aA 782 [.d qI,.d qI] [qB] (qu2 i9_) ab_ .p
def k664:=aA 664 [.d (.st 5),.d qI] [(.st 40,[])] (qu2 wq_) (k782 ab_) (qp 2 (.j ⟨[(5,.d qI)],[],[1,2,4],[0,2],[],5⟩ false .p (.s zp45 (.s zp45 (.s zp45 (.s .p (.j ⟨[(6,.d qI)],[],[1,2,4,5],[0,2],[],18⟩ false .p .p)))))))
def k567:=aA 567 [.d (.st 7),.d qI] [(.st 40,[]),qJ] (qu2 wr_) (k664 (ac_ lu_ ab_)) zp47
def zp52:Pl:=qp 3 zp38
def k454:=aA 454 [.d (.st 37),.d qI,.d qI] [(.st 40,[]),qJ] (qu3 qI_) (k567 (k196 ab_)) (.s .p (.s zp43 (.s .p (.s zp52 zp41))))
def k759:=aA 759 [.d (.st 37),.d (.st 45),.d qI] [(.st 39,[]),qJ] (qu3 ref36_qid) (k454 ab_) .p
def k757:=aA 757 [.d (.sl (.st 38)),.d (.st 38)] [(.sl (.st 38),[some 357]),qJ] (qu2 ref33_Add) (k653 (k306 ab_)) (.s .p (.s zp40 (.s zp43 (.s zp40 (qp 2 (.s (.s .p (.lp ⟨[],[],[0,3,8,9,10],[0],[],26⟩ ⟨[],[],[3,8,9],[0],[],26⟩ false (.s .p (.s zp39 .p)))) (.j ⟨[(8,.one (.own 26))],[(26,false,.row 357 (.st 38) [])],[],[],[],27⟩ false .p .p)))))))
def zp53:Pl:=.s .p (.s zp38 zp40)
def zp54:Pl:=.s zp38 zp53
def zp55:Pl:=.s .p (.s zp38 (.s .p (.s zp38 (.s .p zp54))))
def k650:=aA 650 [.d (.st 37),.d (.st 45),.d (.st 42),.d (.st 41)] [(.st 45,[none,none,none,none,none,some 224]),(.st 41,[])] (qu4 py_) (k562 (k757 (k759 (ac_ mr_ (k653 ab_))))) (qp 3 (.s zp55 (.s .p (.s zp40 (.s .p (.s zp40 (.s .p (.s (.dr [0,0,1,0,0,0,0,1,1] [3,5,4,6] true [8,10,21078]) .p)))))))) true
def zp56:Pl:=.s .p (.s (.dr [0,0,0,1,1,1,4] [] true [8,10,12]) .p)
def k561:=aA 561 [.d (.st 37),.d (.st 45),.d (.st 42),.d (.st 41)] [(.st 37,[]),(.st 45,[none,none,none,none,none,some 224]),(.st 41,[]),qB] (qu4 qJ_) (k650 (k648 ab_)) (qp 2 (.s (qp 2 (.s zp56 (.s .p (.s zp38 (.s .p (.s zp56 zp38)))))) .p)) true
set_option maxRecDepth 100000
def zo11:OT:=.free 8 .nil
def zo12:OT:=.alt 7 zo11 .nil
def zo13:OT:=.alt 6 zo12 .nil
def zo14:OT:=.alt 5 zo12 (.alt 7 (.alt 5 zo11 .nil) .nil)
def zo15:OT:=.alt 5 zo13 (.alt 6 zo14 .nil)
def zo16:OT:=.alt 3 (.free 4 zo14) (.alt 7 (.alt 3 (.free 4 (.alt 5 zo11 .nil)) .nil) .nil)
def zo17:OT:=.alt 3 (.free 4 zo15) (.alt 6 zo16 .nil)
def zo18:OT:=.alt 1 zo13 (.alt 6 (.alt 1 zo12 .nil) .nil)
def zo19:OT:=.alt 1 zo14 (.alt 5 (.alt 1 zo12 .nil) .nil)
def zo20:OT:=.alt 1 zo15 (.alt 5 zo18 (.alt 6 zo19 .nil))
def zo21:OT:=.alt 0 zo15 (.alt 5 (.alt 0 zo13 .nil) .nil)
def k444:=aA 444 [.d (.st 37),.d (.st 45),.d qI,.d (.st 41)] [(.st 37,[]),(.st 45,[none,none,none,none,none,some 224]),(.sl (.st 70),[some 478])] (qu4 k5_) (k561 (k560 (k309 (k308 (k442 ab_))))) (.s .p (.s zp48 (.s .p (.s (.s .p (.s zp39 zp53)) (.s .p (.s (.s .p (.s (.s (.ot 0 (.free 2 (.alt 0 (.alt 1 zo17 (.alt 3 (.free 4 zo20) (.alt 6 (.alt 1 zo16 (.alt 3 (.free 4 zo19) .nil)) .nil))) (.alt 1 (.alt 0 zo17 (.alt 3 (.free 4 zo21) .nil)) (.alt 3 (.free 4 (.alt 0 zo20 (.alt 1 zo21 (.alt 5 (.alt 0 zo18 (.alt 1 (.alt 0 zo13 .nil) .nil)) .nil)))) .nil))))) .p) .p)) zp39)))))) true
def k563:=aA 563 [.d (.st 37),.d (.st 45)] [(.st 37,[]),(.st 45,[]),(.st 70,[]),qB] (qu2 ua_) ab_ (.s .p (.s (.s .p (.lp ⟨[(20,.d qI)],[],[2,3,4,5,6,19],[0,2,4,6,8],[],15⟩ ⟨[],[],[2,3,4,5,6],[0,2,4,6,8],[],15⟩ false (qp 2 (.s (qp 3 (.lp ⟨[],[],[2,3,4,5,6,19,20,30,31],[0,2,4,6,8],[],31⟩ ⟨[],[],[2,3,4,5,6,19,20],[0,2,4,6,8],[],31⟩ false zp43)) .p)))) (.s (.dr [0,0,0,1,1,1,4] [] true [4,6,8]) .p))) true
def zp57:Pl:=.s (.dr [0,0,0,1,1,4] [] true [4,6]) .p
def k445:=aA 445 [.d (.st 37),.d (.st 45)] [(.st 37,[]),(.st 45,[]),(.sl (.st 70),[])] (qu2 qK_) (k563 ab_) (qp 2 (.s (.s .p (.lp ⟨[],[],[2,3,4,5,7,12],[0,2,4,6],[],11⟩ ⟨[],[],[2,3,4,5,7],[0,2,4,6],[],11⟩ true (qp 2 (.s (.s .p (.s (.s .p (.s zp57 .p)) zp37)) .p)))) zp38)) true
def k325:=aA 325 [.d (.st 37),.d (.st 45),.d qI,.d (.st 41)] [(.st 37,[]),(.st 45,[]),(.sl (.st 70),[some 478])] (qu4 m2_) (k445 (k444 (k443 (k442 ab_)))) (.s .p (.s zp40 (qp 3 (.s (.dr [0,0,1,0,1,0,1,1,1,4] [3,5] true [6,8,30]) .p)))) true
def k661:=aA 661 [.d qI] [qJ] (qu1 ub_) (k309 ab_) zp42
def k564:=aA 564 [.d (.st 41),.d (.st 41)] [qB] (qu2 rl_) (k661 (k309 ab_)) (.s .p (.s zp40 (.s zp40 (.s (.s (qd 6) zp39) (.s (qp 2 zp54) .p)))))
def k565:=aA 565 [.d (.sl (.st 47)),.d qI] [(.sl (.st 47),[some 197])] (qu2 rm_) ab_ .p true
def k446:=aA 446 [.d (.st 48),.d (.st 41)] [(.st 48,[none,none,none,none,some 197]),(.sl (.st 41),[some 194]),qJ] (qu2 ws_) (k565 (k564 (k310 ab_))) (qp 2 (.s zp40 (.s .p (.s zp40 (.j ⟨[],[(0,true,.box 116 (.st 48))],[2,3,4,7,8],[2,4,22],[],30⟩ false (.s .p (.s zp41 .p)) (qp 3 (.s zp45 (.s zp40 (.s zp45 (.s (.dr [0,0,0,1,1,1,4,4] [] true [4]) .p)))))))))) true
def zp58:Pl:=.s zp43 .p
def k326:=aA 326 [.d (.st 48),.d .str] [(.st 48,[]),(.sl (.st 41),[some 194]),qJ] (qu2 lD_) (k446 (k206 ab_)) (.s .p (.s zp40 (.s .p (.s zp40 (.s .p (.s (.s .p (.lp ⟨[(12,.one (.own 28)),(13,.d qI)],[(0,true,.cells 116 [.v .bool,.v qI,.v .str,.v (.sl qI),.v (.sl (.st 47)),.v .str]),(15,true,.row 194 (.st 41) []),(28,false,.row 194 (.st 41) [])],[2,4,7,8],[2],[],29⟩ ⟨[(12,.one (.own 28))],[(0,true,.box 116 (.st 48)),(28,false,.row 194 (.st 41) [])],[2,4,8],[2],[],29⟩ false (.s .p (.s (.s zp46 zp41) .p)))) zp58)))))) true
def zo22:OT:=.alt 23 (.alt 24 (.free 25 .nil) .nil) .nil
def zo23:OT:=.alt 16 (.free 17 (.free 18 (.free 19 (.free 20 zo22)))) .nil
def k225:=aA 225 [.d (.st 68),.d .str] [(.st 68,[]),(.sl (.st 41),[some 194])] (qu2 hc_) (k326 (k321 (k141 (k325 (k206 (k324 (k323 ab_))))))) (qp 5 (.s (.s .p (.lp ⟨[(12,.d .str),(13,.d qI)],[(0,true,.cells 199 [.v qI,.v (.sl (.st 27)),.v (.sl (.st 28)),.v qI,.v (.sl (.st 30)),.v qI,.v qI,.v (.sl (.st 33)),.v (.sl (.st 36)),.v (.sl (.st 45)),.v qI,.v qI,.v .bool,.v qI,.v .str,.v .str,.v qI,.v .bool,.v qI,.v .str,.v (.sl qI),.v (.sl (.st 47)),.v .str,.v qI,.v (.sl (.st 49)),.v (.sl (.st 50)),.v .str,.v qI]),(29,true,.row 194 (.st 41) [])],[2,4,6,9],[2,13],[],40⟩ ⟨[(12,.d .str)],[(0,true,.box 199 (.st 68))],[2,4,6],[2,13],[],40⟩ false (.s .p (.s (.j ⟨[(14,.one (.ptr 44)),(15,.one (.ptr 45)),(16,.one (.own 46))],[(29,true,.row 194 (.st 41) []),(44,false,.box 32 (.st 37)),(45,false,.box 112 (.st 45)),(46,false,.row 478 (.st 70) [])],[2,4,6,9,12,13],[0,2,13],[],47⟩ false (.ot 16 (.alt 16 (.free 17 (.free 18 (.free 19 (.free 20 (.alt 21 (.alt 22 zo22 .nil) (.alt 22 (.alt 21 zo22 .nil) .nil)))))) (.alt 21 (.alt 16 (.free 17 (.free 18 (.free 19 (.free 20 (.alt 22 zo22 .nil))))) (.alt 22 zo23 .nil)) (.alt 22 (.alt 16 (.free 17 (.free 18 (.free 19 (.free 20 (.alt 21 zo22 .nil))))) (.alt 21 zo23 .nil)) .nil)))) (qp 2 (.lp ⟨[(12,.d .str),(17,.d qI)],[(46,true,.row 478 (.st 70) [])],[2,4,6,9,13,16],[0,2,13,29,50],[],55⟩ ⟨[(12,.d .str)],[],[2,4,6,9,13],[0,2,13,29,50],[],55⟩ false (.s .p (.j ⟨[(12,.d .str)],[(46,true,.row 478 (.st 70) [])],[2,4,6,9,13,16,17],[0,2,13,29,50],[],59⟩ false zp5 .p))))) .p)))) .p)) true
set_option maxRecDepth 100000
def zo24:OT:=.alt 6 (.free 7 zo11) .nil
def zo25:OT:=.alt 4 (.alt 5 zo24 .nil) (.alt 5 (.alt 4 zo24 .nil) .nil)
def k143:=aA 143 [.d (.st 68),.d (.st 41)] [(.st 68,[]),(.st 41,[]),qB,qJ] (qu2 fM_) (k225 (k224 ab_)) (qp 2 (.s zp40 (qp 2 (.s (.s .p (.lp ⟨[],[],[4,5,8,9,12,13,14],[4,6,14,21,37,43],[],49⟩ ⟨[],[],[8,9,12],[14,21,43],[],49⟩ true (.s .p (.s (.s .p (.s (.s (.ot 0 (.free 1 (.free 2 (.alt 0 (.alt 3 zo25 (.alt 5 (.alt 3 (.alt 4 zo24 .nil) .nil) .nil)) (.alt 3 (.alt 0 zo25 (.alt 4 (.alt 0 (.alt 5 zo24 .nil) .nil) .nil)) .nil))))) .p) .p)) zp37)))) zp38)))) true
def k72:=aA 72 [.d (.st 68)] [(.st 68,[]),qJ] (qu1 jQ_) (k143 (k142 (k32 (k141 (k140 ab_))))) (qp 2 (.s zp40 (qp 5 zp44))) true
def zj32:JP:=⟨[],[],[1,2,5],[0,2],[],11⟩
def k144:=aA 144 [.d (.st 48)] [(.st 48,[none,none,none,some 3]),qJ,qJ] (qu1 sx_) ab_ (.s .p (.s zp40 (.s .p (.s (.lp zj32 zj32 false (.s .p zp37)) .p)))) true
def k73:=aA 73 [.d (.st 68),.d .str] [(.st 68,[]),qJ] (qu2 mi_) (k143 (k144 ab_)) (qp 6 zp44) true
def k36:=aA 36 [.d (.st 37),.d (.sl (.st 45)),.d (.st 52),.d .str] [(.st 37,[]),(.sl (.st 45),[]),(.st 52,[]),qJ] (qu4 jR_) (k73 (k72 ab_)) (.s .p (.s zp40 (.s zp40 (.s .p (.s zp40 (.s .p (.s zp40 (.s (.dr [0,0,0,0,0,0,1,4,1,4] [] true [4,7]) .p)))))))) true
def k74:=aA 74 [.d qI,.d (.st 53)] [(.st 56,[])] (qu2 sy_) ab_ .p true
def zp59:Pl:=qp 2 zp38
def k449:=aA 449 [.d (.int .u8)] [qJ] (qu1 uc_) ab_ (.s .p (.s zp59 .p))
def k328:=aA 328 [.d .str,.d qI,.d qI] [qJ,qJ] (qu3 oE_) (k449 (k145 ab_)) (.s .p (.s zp40 (.s zp40 (.s .p (.s (.s .p (.lp ⟨[(8,.d qI),(9,.d qI)],[],[0,1,2],[],[],12011⟩ ⟨[(8,.d qI)],[],[],[],[],12011⟩ false (.s .p (.s zp42 .p)))) .p)))))
def k331:=aA 331 [.d .str,.d .str] [(.str,[]),qJ] (qu2 hd_) (k61 (k128 ab_)) .p
def k447:=aA 447 [.d (.st 56),.d (.st 53)] [(.sl (.st 54),[]),qB] (qu2 oF_) (k119 ab_) zp52 true
def k450:=aA 450 [.d (.st 56),.d (.st 53)] [(.sl (.st 53),[some 139])] (qu2 kB_) (k447 ab_) zp52
def k452:=aA 452 [.d (.st 60),.d (.st 53)] [qB] (qu2 m3_) ab_ .p
def zp60:Pl:=.s .p (.s zp40 zp45)
def k662:=aA 662 [.d .str,.d .str] [(.str,[])] (qu2 ud_) ab_ zp60
def k453:=aA 453 [.d (.st 60),.d (.st 53)] [qB] (qu2 m4_) ab_ .p
def k772:=aA 772 [.d (.st 37),.d qI,.d .str] [qJ] (qu3 ref32_bad) (ac_ mr_ (k196 ab_)) (.s .p (.s zp43 zp41))
def k989:=aA 989 [.d qI,.d qI] [qB] (qu2 nY_) ab_ .p
def k990:=aA 990 [.d (.sl (.st 3)),.d .str,.d .str] [qB] (qu3 sz_) ab_ zp59
def k922:=aA 922 [.d (.sl (.st 3)),.d .str,.d .str,.d .str,.d qI,.d qI] [qB] (qu6 sA_) (k990 (k989 ab_)) (.s .p (.s zp40 (.s (.s .p (.lp ⟨[(13,.d qI)],[],[0,1,2,3,4,5],[],[],6006⟩ ⟨[],[],[],[],[],6006⟩ false (.s .p zp58))) .p)))
def k884:=aA 884 [.d (.st 7),.d .str,.d qI,.d qI] [qB] (qu4 ref13_may) (k922 (ac_ lu_ ab_)) .p
def k773:=aA 773 [.d (.st 7),.d .str,.d qI,.d .str] [qJ,qJ] (qu4 wu_) (k218 (k884 (k293 (ac_ mr_ (ac_ lu_ ab_))))) (qp 2 (.s zp55 zp42))
def k663:=aA 663 [.d (.st 37),.d qI,.d .str,.d qI,.d .str] [qJ,qJ] (qu5 wv_) (k773 (k772 ab_)) (.s .p (.s zp43 (.s .p (.s zp52 .p))))
def zp61:Pl:=.s (.dr [0,0,1,1,4] [] true [4,6]) .p
def k566:=aA 566 [.d (.st 60),.d .str,.d (.st 53),.d .str] [(.st 60,[]),(.st 53,[]),qJ] (qu4 jS_) (k663 (k453 (k331 (k662 (k452 ab_))))) (.s .p (.s zp40 (.s zp48 (.s .p (.s (.s .p (.s zp38 zp42)) (.s zp40 zp61)))))) true
set_option maxRecDepth 100000
def zo26:OT:=.alt 14 (.alt 15 (.free 16 .nil) .nil) .nil
def zo27:OT:=.alt 7 (.free 8 (.free 9 (.free 10 (.free 11 zo26)))) .nil
def k451:=aA 451 [.d (.st 60),.d .str,.d (.st 56),.d (.st 53),.d .str] [(.st 60,[]),(.st 53,[]),qJ] (qu5 mj_) (k331 (k566 (k450 ab_))) (qp 2 (.s (.s .p (.lp ⟨[],[],[1,4,5,8,10,11,13,14,23,24],[0,4,6,8,13],[],20⟩ ⟨[],[],[5,10,11,14],[0,6,8],[],20⟩ true (qp 2 (.s (.s .p (.j ⟨[(16,.one (.ptr 23)),(17,.one (.ptr 24)),(18,.d qI)],[(23,false,.box 40 (.st 60)),(24,false,.box 139 (.st 53))],[4,5,8,10,11,14],[0,4,6,8],[],25⟩ false (.ot 7 (.alt 7 (.free 8 (.free 9 (.free 10 (.free 11 (.alt 12 (.alt 13 zo26 .nil) (.alt 13 (.alt 12 zo26 .nil) .nil)))))) (.alt 12 (.alt 7 (.free 8 (.free 9 (.free 10 (.free 11 (.alt 13 zo26 .nil))))) (.alt 13 zo27 .nil)) (.alt 13 (.alt 7 (.free 8 (.free 9 (.free 10 (.free 11 (.alt 12 zo26 .nil))))) (.alt 12 zo27 .nil)) .nil)))) (.s .p (.s (.s .p (.s (.s .p (.s (.dr [0,0,1,1,4] [] true [6,8]) .p)) .p)) zp38)))) .p)))) zp38)) true
def k333:=aA 333 [.d (.st 60),.d .str,.d (.st 56),.d .str] [(.st 60,[]),(.st 53,[]),qJ] (qu4 mk_) (k451 (k126 ab_)) (qp 2 (.s zp40 (.s zp40 (qp 2 (.s (.s .p (.lp ⟨[(39,.d qI)],[(0,true,.box 40 (.st 60)),(10,true,.row 9 .str []),(4024,true,.box 139 (.st 53))],[1,4,6,8,9,11,13,38],[2,4,6],[],4034⟩ ⟨[],[(0,true,.box 40 (.st 60)),(4024,true,.box 139 (.st 53))],[4,8,9,13],[4,6],[],4034⟩ false (qp 2 (.s (.s .p (.s (.dr [0,0,0,0,0,0,0,0,1,4,4,4,4,2,2,4] [] false []) zp40)) .p)))) zp61))))) true
def k230:=aA 230 [.d (.st 60),.d .str,.d (.st 56),.d .str,.d .str,.d .bool] [(.st 60,[]),(.st 53,[]),qJ] (qu6 nZ_) (k333 (k331 ab_)) (qp 2 zp44) true
def k334:=aA 334 [.d (.st 60),.d .str,.d (.st 53)] [(.st 60,[]),(.st 40,[]),qJ] (qu3 ww_) (k454 (k453 (k452 ab_))) (.s .p (.s zp40 (.s (.s .p (.s (.s .p zp57) .p)) zp38))) true
def k231:=aA 231 [.d (.st 60),.d .str,.d (.st 53)] [(.st 60,[]),qB,qJ] (qu3 jT_) (k334 ab_) (qp 2 (.s (.dr [0,0,0,0,0,0,0,0,0,0,1,4,4] [] true [4]) .p)) true
def k448:=aA 448 [.d (.st 56),.d (.st 53),.d (.sl (.st 54))] [(.st 56,[none,none,none,none,none,none,some 265])] (qu3 wx_) (k119 ab_) (qp 4 zp38) true
def k327:=aA 327 [.d (.st 56),.d (.st 53),.d (.st 53),.d qI] [(.st 56,[none,none,none,none,none,none,some 265]),qJ] (qu4 sB_) (k448 (k120 (k447 (k118 ab_)))) (.s .p (.s zp40 (.s zp40 (qp 2 (.j ⟨[(11,.d (.sl (.st 54)))],[],[3,4,5,6,8,10,12],[0,2,4,6,10021],[],10033⟩ false .p (.s .p (.s (.s .p (.s zp38 (.s .p (.s zp38 (.s .p (.s zp38 zp59)))))) .p))))))) true
def k228:=aA 228 [.d (.st 60),.d .str,.d (.st 56),.d .str,.d (.st 71)] [(.st 60,[]),(.st 56,[none,none,none,none,none,none,some 265]),qJ] (qu5 jU_) (k327 (k231 (k230 (k328 ab_)))) (.s .p (.s zp40 (.s .p (.s zp40 (.s .p (.s zp40 (.s .p (.s zp40 (.s zp40 (.s .p (.s (.dr [0,0,0,1,1,4] [] true [6,8]) .p))))))))))) true
def k147:=aA 147 [.d (.st 60),.d .str,.d (.st 56),.d .str,.d (.st 71)] [(.st 60,[]),(.st 56,[none,none,none,none,none,none,some 265]),(.str,[]),qJ] (qu5 ik_) (k228 ab_) (.s .p (.s zp40 (.s .p (.s (qp 2 (.s zp37 zp59)) (.s zp40 (.s (.dr [0,0,0,1,1,4,4] [] true [6,8]) .p)))))) true
def zo28:OT:=.alt 16 (.alt 17 (.free 18 (.free 19 .nil)) .nil) .nil
def zo29:OT:=.alt 8 (.free 9 (.free 10 (.free 11 (.free 12 (.free 13 zo28))))) .nil
def k76:=aA 76 [.d (.st 60),.d .str,.d (.st 56),.d .str,.d (.sl (.st 71))] [(.st 60,[]),(.st 56,[]),(.str,[]),qJ,qJ] (qu5 n0_) (k147 ab_) (.s .p (.s (.s .p (.lp ⟨[(3,.d .str),(22,.d qI)],[(0,true,.box 40 (.st 60)),(2,true,.cells 142 [.v qI,.v qI,.v qI,.v qI,.v .str,.v .str,.v (.sl (.st 55))])],[1,4,5,7,10,11,21],[4,6],[],14⟩ ⟨[(3,.d .str)],[(0,true,.box 40 (.st 60)),(2,true,.box 142 (.st 56))],[4,5,7,10,11],[4,6],[],14⟩ false (qp 2 (.s (.s .p (.j ⟨[(16,.one (.ptr 17)),(17,.one (.ptr 18)),(18,.d .str),(19,.d qI)],[(17,false,.box 40 (.st 60)),(18,false,.cells 142 [.v qI,.v qI,.v qI,.v qI,.v .str,.v .str,.own 19]),(19,false,.row 265 (.st 55) [])],[1,3,4,5,7,10,11,15,21,22],[0,2,4,6],[],20⟩ false (.ot 8 (.alt 8 (.free 9 (.free 10 (.free 11 (.free 12 (.free 13 (.alt 14 (.alt 15 zo28 .nil) (.alt 15 (.alt 14 zo28 .nil) .nil))))))) (.alt 14 (.alt 8 (.free 9 (.free 10 (.free 11 (.free 12 (.free 13 (.alt 15 zo28 .nil)))))) (.alt 15 zo29 .nil)) (.alt 15 (.alt 8 (.free 9 (.free 10 (.free 11 (.free 12 (.free 13 (.alt 14 zo28 .nil)))))) (.alt 14 zo29 .nil)) .nil)))) zp42)) .p)))) (.s (.dr [0,0,0,0,0,1,1,4,4,4] [] true [4,6]) .p))) true
def k37:=aA 37 [.d (.st 60),.d qI,.d qI] [(.st 60,[]),(.st 56,[]),qJ] (qu3 ml_) (k76 (k75 (k74 ab_))) (qp 4 (.s (.s .p (.lp ⟨[(11,.d qI),(33,.d qI)],[],[2,3,6,7,9,10,32],[0,2,4,11,15],[],29⟩ ⟨[(11,.d qI)],[],[2,3,6,7,9,10],[0,2,4,11,15],[],29⟩ false (qp 2 (.j ⟨[(11,.d qI)],[],[2,3,6,7,9,10,32,33],[0,2,4,11,15],[],30⟩ false .p .p)))) (qp 2 (.s (.s .p (.lp ⟨[(14,.one (.own 47)),(70,.d qI)],[(15,true,.row 9 .str []),(40,true,.row 3 qI []),(47,false,.row 206 (.st 71) [])],[3,6,7,9,10,13,69],[0,2,4,11],[],48⟩ ⟨[(14,.one (.own 47))],[(47,false,.row 206 (.st 71) [])],[3,6,7,9],[0,2,4,11],[],48⟩ false (qp 2 (.s (.s .p (.dr [0,0,0,0,0,0,0,0,0,0,0,0,1,2,4] [] false [])) .p)))) (.s .p (.s (.dr [0,0,0,1,1,4] [] true [2,4]) .p)))))) true
set_option maxRecDepth 100000
def zo30:OT:=.alt 17 (.free 18 (.alt 19 (.free 20 .nil) .nil)) .nil
def zo31:OT:=.alt 9 (.free 10 (.free 11 (.free 12 (.free 13 (.free 14 zo30))))) .nil
def zo32:OT:=.alt 10 (.alt 11 .nil .nil) .nil
def zo33:OT:=.alt 7 (.free 8 (.alt 9 zo32 .nil)) .nil
def zo34:OT:=.free 6 (.alt 5 zo33 (.alt 7 (.free 8 (.alt 5 (.alt 9 zo32 .nil) (.alt 9 (.alt 5 zo32 .nil) .nil))) .nil))
def zo35:OT:=.alt 3 (.free 6 zo33) .nil
def zo36:OT:=.alt 1 (.free 6 zo33) .nil
def k12:=aA 12 [.d (.sl .str)] [(.st 60,[none,none,none,none,none,none,none,none,none,none,none,some 142,some 147]),qJ] (qu1 n1_) (k37 (k36 (k35 (k34 (k33 (k31 (k32 (k30 (k29 (k28 ab_)))))))))) (.s .p (.s zp43 (qp 2 (.s (.s .p (.lp ⟨[(37,.d qI)],[(9,true,.cells 40 [.v qI,.own 28,.own 29,.v qI,.own 30,.v qI,.v qI,.own 31,.own 32,.own 33,.own 34,.own 35,.own 36,.own 37,.own 38,.v qI]),(28,false,.row 73 (.st 27) []),(29,false,.row 105 (.st 28) []),(30,false,.row 338 (.st 30) []),(31,false,.row 98 (.st 33) []),(32,false,.row 133 (.st 36) []),(33,false,.row 112 (.st 45) []),(34,false,.row 130 (.st 52) []),(35,false,.row 142 (.st 56) []),(36,false,.row 147 (.st 58) []),(37,false,.row 170 (.st 59) []),(38,false,.row 175 (.st 2) [])],[0,2,5,36],[0],[],39⟩ ⟨[],[(9,true,.cells 40 [.v qI,.own 28,.own 29,.v qI,.own 30,.v qI,.v qI,.own 31,.own 32,.own 33,.own 34,.own 35,.own 36,.own 37,.own 38,.v qI]),(28,false,.row 73 (.st 27) []),(29,false,.row 105 (.st 28) []),(30,false,.row 338 (.st 30) []),(31,false,.row 98 (.st 33) []),(32,false,.row 133 (.st 36) []),(33,false,.row 112 (.st 45) []),(34,false,.row 130 (.st 52) []),(35,false,.row 142 (.st 56) []),(36,false,.row 147 (.st 58) []),(37,false,.row 170 (.st 59) []),(38,false,.row 175 (.st 2) [])],[0,2,5],[0],[],39⟩ false (qp 2 (.s (qp 2 (.s zp40 (.s .p (.s (.dr [0,0,0,0,0,0,0,0,0,1,4,1,2,4,4,4,2] [] false []) (.dr [0,0,0,0,1,1,2,4,2] [] false []))))) .p)))) (qp 2 (.s (.s .p (.lp ⟨[(94,.d qI)],[(9,true,.cells 40 [.v qI,.own 57,.own 29,.v qI,.own 30,.v qI,.v qI,.own 31,.own 32,.own 33,.own 58,.own 35,.own 36,.own 37,.own 38,.v qI]),(57,false,.row 73 (.st 27) []),(29,true,.row 105 (.st 28) []),(30,true,.row 338 (.st 30) []),(31,true,.row 98 (.st 33) []),(32,true,.row 133 (.st 36) []),(33,true,.row 112 (.st 45) []),(58,false,.row 130 (.st 52) []),(35,true,.row 142 (.st 56) []),(36,true,.row 147 (.st 58) []),(37,true,.row 170 (.st 59) []),(38,true,.row 175 (.st 2) [])],[0,2,5,9,93],[0,49],[],59⟩ ⟨[],[(9,true,.cells 40 [.v qI,.own 57,.own 29,.v qI,.own 30,.v qI,.v qI,.own 31,.own 32,.own 33,.own 58,.own 35,.own 36,.own 37,.own 38,.v qI]),(57,false,.row 73 (.st 27) []),(29,true,.row 105 (.st 28) []),(30,true,.row 338 (.st 30) []),(31,true,.row 98 (.st 33) []),(32,true,.row 133 (.st 36) []),(33,true,.row 112 (.st 45) []),(58,false,.row 130 (.st 52) []),(35,true,.row 142 (.st 56) []),(36,true,.row 147 (.st 58) []),(37,true,.row 170 (.st 59) []),(38,true,.row 175 (.st 2) [])],[2,5],[0],[],59⟩ false (qp 2 (.s (qp 2 (.lp ⟨[(99,.d qI)],[(9,true,.cells 40 [.v qI,.own 65,.own 29,.v qI,.own 30,.v qI,.v qI,.own 31,.own 32,.own 33,.own 66,.own 35,.own 36,.own 37,.own 38,.v qI]),(65,false,.row 73 (.st 27) []),(29,true,.row 105 (.st 28) []),(30,true,.row 338 (.st 30) []),(31,true,.row 98 (.st 33) []),(32,true,.row 133 (.st 36) []),(33,true,.row 112 (.st 45) []),(66,false,.row 130 (.st 52) []),(35,true,.row 142 (.st 56) []),(36,true,.row 147 (.st 58) []),(37,true,.row 170 (.st 59) []),(38,true,.row 175 (.st 2) [])],[0,2,5,9,11,93,94,98],[0,49],[],67⟩ ⟨[],[(9,true,.cells 40 [.v qI,.own 65,.own 29,.v qI,.own 30,.v qI,.v qI,.own 31,.own 32,.own 33,.own 66,.own 35,.own 36,.own 37,.own 38,.v qI]),(65,false,.row 73 (.st 27) []),(29,true,.row 105 (.st 28) []),(30,true,.row 338 (.st 30) []),(31,true,.row 98 (.st 33) []),(32,true,.row 133 (.st 36) []),(33,true,.row 112 (.st 45) []),(66,false,.row 130 (.st 52) []),(35,true,.row 142 (.st 56) []),(36,true,.row 147 (.st 58) []),(37,true,.row 170 (.st 59) []),(38,true,.row 175 (.st 2) [])],[0,2,5,9,93,94],[0,49],[],67⟩ false (qp 2 (.j ⟨[],[(9,true,.cells 40 [.v qI,.own 68,.own 29,.v qI,.own 30,.v qI,.v qI,.own 31,.own 32,.own 33,.own 69,.own 35,.own 36,.own 37,.own 38,.v qI]),(68,false,.row 73 (.st 27) []),(29,true,.row 105 (.st 28) []),(30,true,.row 338 (.st 30) []),(31,true,.row 98 (.st 33) []),(32,true,.row 133 (.st 36) []),(33,true,.row 112 (.st 45) []),(69,false,.row 130 (.st 52) []),(35,true,.row 142 (.st 56) []),(36,true,.row 147 (.st 58) []),(37,true,.row 170 (.st 59) []),(38,true,.row 175 (.st 2) [])],[0,2,5,9,11,93,94,98,99],[0,49],[],70⟩ false (qp 2 (.s (.s .p (.dr [0,0,0,0,0,1,4,1,2,4,2] [] false [])) .p)) .p)))) .p)))) (qp 3 (.s zp40 (.s .p (.s (.s .p (.lp ⟨[(154,.d qI)],[(9,true,.cells 40 [.v qI,.v (.sl (.st 27)),.v (.sl (.st 28)),.v qI,.v (.sl (.st 30)),.v qI,.v qI,.v (.sl (.st 33)),.v (.sl (.st 36)),.v (.sl (.st 45)),.own 58,.own 35,.own 36,.own 37,.own 38,.v qI]),(58,true,.row 130 (.st 52) []),(35,true,.row 142 (.st 56) []),(36,true,.row 147 (.st 58) []),(37,true,.row 170 (.st 59) []),(38,true,.row 175 (.st 2) [])],[2,5,153],[0],[],100⟩ ⟨[],[(9,true,.cells 40 [.v qI,.v (.sl (.st 27)),.v (.sl (.st 28)),.v qI,.v (.sl (.st 30)),.v qI,.v qI,.v (.sl (.st 33)),.v (.sl (.st 36)),.v (.sl (.st 45)),.own 58,.own 35,.own 36,.own 37,.own 38,.v qI]),(58,true,.row 130 (.st 52) []),(35,true,.row 142 (.st 56) []),(36,true,.row 147 (.st 58) []),(37,true,.row 170 (.st 59) []),(38,true,.row 175 (.st 2) [])],[2,5],[0],[],100⟩ false (qp 2 (.j ⟨[],[(9,true,.cells 40 [.v qI,.v (.sl (.st 27)),.v (.sl (.st 28)),.v qI,.v (.sl (.st 30)),.v qI,.v qI,.v (.sl (.st 33)),.v (.sl (.st 36)),.v (.sl (.st 45)),.own 58,.own 35,.own 36,.own 37,.own 38,.v qI]),(58,true,.row 130 (.st 52) []),(35,true,.row 142 (.st 56) []),(36,true,.row 147 (.st 58) []),(37,true,.row 170 (.st 59) []),(38,true,.row 175 (.st 2) [])],[2,5,153,154],[0],[],101⟩ false (.s .p (.j ⟨[(16,.one (.ptr 103)),(17,.d (.sl (.st 45))),(18,.one (.ptr 104)),(19,.d qI)],[(58,true,.row 130 (.st 52) []),(103,false,.box 32 (.st 37)),(104,false,.box 130 (.st 52))],[2,5,15,153,154],[0,9,35,36,37,38],[],105⟩ false (.ot 9 (.alt 9 (.free 10 (.free 11 (.free 12 (.free 13 (.free 14 (.alt 15 (.alt 16 zo30 .nil) (.alt 16 (.alt 15 zo30 .nil) .nil))))))) (.alt 15 (.alt 9 (.free 10 (.free 11 (.free 12 (.free 13 (.free 14 (.alt 16 zo30 .nil)))))) (.alt 16 zo31 .nil)) (.alt 16 (.alt 9 (.free 10 (.free 11 (.free 12 (.free 13 (.free 14 (.alt 15 zo30 .nil)))))) (.alt 15 zo31 .nil)) .nil)))) (.s zp40 (.ot 0 (.free 0 (.free 2 (.free 4 (.alt 1 (.alt 3 zo34 (.alt 5 zo35 .nil)) (.alt 3 (.alt 1 zo34 (.alt 5 zo36 .nil)) (.alt 5 (.alt 1 zo35 (.alt 3 zo36 .nil)) .nil)))))))))) .p)))) zp42)))))))))) true
def k688:=aA 688 [.d (.sl (.st 21)),.f1 (.st 21) .bool] [qJ] (qu2 d4_) ab_ zp8
def k580:=aA 580 [.d (.sl (.st 21)),.f1 (.st 21) .bool] [qB] (qu2 b6_) (k688 ab_) .p
def k581:=aA 581 [.d (.st 21)] [qB] (qu1 ue_) ab_ .p
def c_461:Con te:=af_ te [.d (.sl (.st 21))] [qB] false λa=>dial_asks a.1
theorem ok_461:OKF 461 c_461:=⟨aa_ ad_ (k581 (k580 ab_)) Tryz.func461 (by kernel_rfl) (pl:=.p) λ_=>by kernel_rfl,by kernel_rfl⟩
def k264:=aA 264 [.d .str,.d .str] [qB] (qu2 cG_) ab_ .p
def k969:=aA 969 [.d .str,.d .str] [(.str,[])] (qu2 d5_) (k264 ab_) .p
def k887:=aA 887 [.d .str,.d .str] [(.str,[])] (qu2 strings_TrimPrefix) (k969 ab_) .p
set_option maxRecDepth 100000
def zp62:Pl:=qp 2 (.s (qp 3 zp39) .p)
def k790:=aA 790 [.d .str] [qB] (qu1 uf_) (k887 ab_) (qp 2 (.s zp40 (.s (.s .p (.lp ⟨[(26,.d qI)],[],[0,25],[],[],12012⟩ ⟨[],[],[],[],[],12012⟩ false zp62)) .p)))
def k792:=aA 792 [.d .str,.d (.int .u8)] [qJ] (qu2 strings_IndexByte) (ac_ kE_ ab_) .p
def zp63:Pl:=qp 2 zp58
def k690:=aA 690 [.d .str,.d .str] [qJ] (qu2 qL_) (k792 ab_) (.s .p (.s (.s .p (.lp zj6 zj22 false zp63)) .p))
def k791:=aA 791 [.d (.st 21),.p (.st 21)] [qB] (qu2 sE_) ab_ .p
def k689:=aA 689 [.d (.sl (.st 21)),.d (.st 21)] [qJ] (qu2 wy_) (k791 (k580 (k690 (k790 ab_)))) (.s .p (.s (.s .p (.s zp38 (.s .p (.s zp38 (.s .p (.s zp38 (.s (qd 8) zp54))))))) .p))
def k582:=aA 582 [.d (.sl (.st 21))] [qJ] (qu1 wz_) (k689 ab_) (.s .p (.s (.s .p (.lp ⟨[(8,.d qI)],[],[0,6,7],[],[],4⟩ zj7 false (qp 2 (.s (.s .p (.s (qd 6) zp40)) .p)))) .p))
def k583:=aA 583 [.d .str] [(.str,[])] (qu1 wA_) (k690 ab_) zp59
theorem e_374(a:PA te [.d (.sl .str),.d .str]):strings_Join a.1 a.2.1=kS_ Tryz.prog te eqL (ti 463 (inlF Tryz.prog te eqL (ti 584 eb_ fu_) Tryz.f463 (.p:Pl)) (ti 464 jZ_ (ti 506 inl_Grow fu_))) Tryz.f374 [.d (.sl .str),.d .str] [(.str,[])] (qp 3 (.j ⟨[(5,.d qI)],[],[0,1],[],[],8⟩ false (.s .p (.s (.j ⟨[],[],[0,1,5],[],[],11⟩ false .p .p) .p)) (.s (.s .p (.lp ⟨[(5,.d qI),(41,.d qI)],[],[0,1,39,40],[],[],11⟩ ⟨[(5,.d qI)],[],[0,1],[],[],11⟩ false (qp 2 (.s (.s .p (.j ⟨[],[],[0,1,5,7,39,40,41],[],[],15⟩ false .p .p)) .p)))) (qp 3 (.s (.s .p (.lp ⟨[(65,.d qI)],[(11,true,.cells 591 [.sbp 11,.own 245]),(245,false,.row 5 (.int .u8) [])],[1,8,63,64],[],[],246⟩ ⟨[],[(11,true,.cells 591 [.sbp 11,.own 245]),(245,false,.row 5 (.int .u8) [])],[8],[],[],246⟩ false .p)) .p))))) a:=by kernel_rfl
def c_374:Con te:=af_ te [.d (.sl .str),.d .str] [(.str,[])] false (qu2 strings_Join)
theorem ok_374:OKF 374 c_374:=⟨aa_ ad_ (dm_ ⟨fS_ ad_ (dm_ fC_ ab_) Tryz.func463,by kernel_rfl⟩ (dm_ iG_ (dm_ ok_inl_Grow ab_))) Tryz.func374 (by kernel_rfl) e_374,by kernel_rfl⟩
def c_462:Con te:=af_ te [.d (.sl (.st 21))] [(.str,[]),qJ] false λa=>wD_ a.1
theorem ok_462:OKF 462 c_462:=⟨aa_ ad_ (ac_ ok_374 (k583 (k582 ab_))) Tryz.func462 (by kernel_rfl) (pl:=.s .p (.s zp43 (.s .p (.s (.s .p (.lp ⟨[(5,.one (.own 15)),(18,.d qI)],[(15,false,.row 9 .str [])],[16,17],[],[],16⟩ ⟨[(5,.one (.own 15))],[(15,false,.row 9 .str [])],[],[],[],16⟩ false (qp 2 (.s (qp 2 (.s zp37 (.dr [0,0,0,0,0,0,0,0,1,2,4] [] false []))) .p)))) .p)))) λ_=>by kernel_rfl,by kernel_rfl⟩
theorem e_335(a:PA te [.d (.sl (.st 28))]):sF_ a.1=kS_ Tryz.prog te eqL (ti 463 (inlF Tryz.prog te eqL (ti 584 eb_ fu_) Tryz.f463 (.p:Pl)) (tb 462 c_462 (tb 461 c_461 (ti 464 jZ_ fu_)))) Tryz.f335 [.d (.sl (.st 28))] [(.str,[]),qJ] (.s .p (.s zp40 (.s .p (.s (.s .p (.lp ⟨[(14,.d qI)],[(5,true,.cells 591 [.sbp 5,.own 10]),(10,false,.row 5 (.int .u8) [])],[4,12,13],[],[],11⟩ ⟨[],[(5,true,.cells 591 [.sbp 5,.own 10]),(10,false,.row 5 (.int .u8) [])],[4],[],[],11⟩ false (qp 2 (.s (.s .p (.s zp40 zp42)) .p)))) .p)))) a:=by kernel_rfl
def c_335:Con te:=af_ te [.d (.sl (.st 28))] [(.str,[]),qJ] false λa=>sF_ a.1
theorem ok_335:OKF 335 c_335:=⟨aa_ ad_ (dm_ ⟨fS_ ad_ (dm_ fC_ ab_) Tryz.func463,by kernel_rfl⟩ (ac_ ok_462 (ac_ ok_461 (dm_ iG_ ab_)))) Tryz.func335 (by kernel_rfl) e_335,by kernel_rfl⟩
def k465:=aA 465 [.d (.sl (.st 30)),.f1 (.st 30) .bool] [qJ] (qu2 d6_) ab_ zp8
def k336:=aA 336 [.d (.sl (.st 30)),.f1 (.st 30) .bool] [qB] (qu2 dz_) (k465 ab_) .p
def k337:=aA 337 [.d (.st 30),.p (.st 31)] [qB] (qu2 rp_) ab_ .p
def k232:=aA 232 [.d (.st 31)] [qB] (qu1 ug_) (k337 (k336 (ac_ ok_335 ab_))) (.s .p (.s zp43 (.s .p (.s (.s .p (.lp ⟨[],[],[1,33,34,35],[0],[],13021⟩ ⟨[],[],[1],[0],[],13021⟩ false zp43)) .p))))
def k339:=aA 339 [.d (.st 34),.d qI] [qB] (qu2 uh_) ab_ zp52
def k472:=aA 472 [.d qI] [qB] (qu1 wE_) ab_ .p
def k473:=aA 473 [.d .str] [qB] (qu1 qM_) ab_ (.s .p (.s zp40 (.s (.s .p (.lp ⟨[(16,.d qI)],[],[0,15],[],[],4007⟩ ⟨[],[],[],[],[],4007⟩ false (qp 2 (.s (qp 5 zp39) .p)))) .p)))
def k283:=aA 283 [.d .str] [qB] (qu1 es_) ab_ (qp 2 (.s (.s .p (.lp ⟨[(21,.d qI)],[],[0,20],[],[],10009⟩ ⟨[],[],[],[],[],10009⟩ true .p)) .p))
def c_625:Con te:=af_ te [.d .str,.d qI] [(.sl .str,[])] false (qu2 n2_)
theorem ok_625:OKF 625 c_625:=⟨bf_ λ_=>rfl,by kernel_rfl⟩
def k627:=aA 627 [.d .str,.d .str] [qJ] (qu2 strings_Index) (ac_ nk_ ab_) .p
def k505:=aA 505 [.d .str,.d .str,.d qI,.d qI] [(.sl .str,[])] (qu4 strings_genSplit) (k627 (ac_ qT_ (ac_ ok_625 ab_))) (qp 3 (.j ⟨[(3,.d qI)],[],[0,1,2],[],[],5⟩ false .p (qp 4 (.s (.lp ⟨[(0,.d .str),(10,.d qI)],[(12,true,.row 9 .str [])],[1,2,3,9],[],[],19⟩ ⟨[(0,.d .str),(10,.d qI)],[(12,true,.row 9 .str [])],[9],[],[],19⟩ false .p) .p)))) true
def k373:=aA 373 [.d .str,.d .str] [(.sl .str,[])] (qu2 strings_Split) (k505 ab_) .p true
def k256:=aA 256 [.d .str] [(.sl .str,[]),qJ] (qu1 path_Split) (k373 ab_) (.s .p (.s zp40 (.s .p (.s (.s .p (.lp ⟨[(14,.d qI)],[],[4,12,13],[],[],10⟩ ⟨[],[],[4],[],[],10⟩ false (qp 2 (.s (qp 4 zp38) .p)))) zp41)))) true
def k169:=aA 169 [.d .str,.d .str] [qB] (qu2 strings_HasPrefix) (k264 ab_) .p
set_option maxRecDepth 100000
def k258:=aA 258 [.d .str] [qB] (qu1 ui_) (k169 ab_) .p
def k257:=aA 257 [.d (.sl .str),.d .bool] [(.str,[])] (qu2 wF_) (ac_ ok_374 ab_) (.s .p (.s zp59 .p))
def k155:=aA 155 [.d .str] [(.str,[]),qJ] (qu1 path_Clean) (k257 (k258 (k256 ab_))) zp47
def k474:=aA 474 [.d .str] [qB] (qu1 uj_) (k155 ab_) .p
def k340:=aA 340 [.d (.st 34),.d (.st 33)] [qB] (qu2 uk_) (k474 (k283 (k473 (k472 ab_)))) (.s .p (.s zp40 (.s (.s .p (.lp ⟨[(51,.d qI)],[(24019,true,.row 3 qI [])],[2,3,49,50],[0,2],[],24023⟩ ⟨[],[],[3],[2],[],24023⟩ false zp63)) (.s zp40 (.s (.s .p (.lp ⟨[],[],[3,75,76,77],[2],[],29032⟩ ⟨[],[],[3],[2],[],29032⟩ false zp43)) (.s (.s .p (.lp ⟨[],[],[86,87,88],[],[],29036⟩ ⟨[],[],[],[],[],29036⟩ false zp43)) .p))))))
def k233:=aA 233 [.d (.st 34)] [qB] (qu1 wG_) (k340 (k339 ab_)) (qp 2 (.s (.s (qd 33) zp39) (.s (.s .p (.lp ⟨[(45,.d qI)],[],[1,43,44],[0],[],26018⟩ ⟨[],[],[],[],[],26018⟩ false zp63)) .p)))
def k341:=aA 341 [.d (.st 36)] [qB] (qu1 env_sound) ab_ (.s .p (.s zp40 (.s (.s .p (.lp ⟨[],[],[32,33,34],[],[],17014⟩ ⟨[],[],[],[],[],17014⟩ false zp43)) .p)))
def zj33:JP:=⟨[(10,.d qI)],[],[0,8,9],[],[],7⟩
def zp64:Pl:=.s .p (.s zp40 (.s (.s .p (.lp zj33 zj8 false (qp 2 (.s (.s .p (.s (qd 18) zp39)) .p)))) .p))
def k234:=aA 234 [.d (.sl (.st 36))] [qB] (qu1 env_Right) (k341 ab_) zp64
def k342:=aA 342 [.d (.st 7)] [qB] (qu1 kC_) ab_ .p
def k343:=aA 343 [.d (.st 11)] [qB] (qu1 rq_) (k342 ab_) .p
def k344:=aA 344 [.d (.st 18)] [qB] (qu1 m7_) ab_ .p
def k345:=aA 345 [.d (.st 26)] [qB] (qu1 pz_) ab_ .p
def k235:=aA 235 [.d (.st 27)] [qB] (qu1 rr_) (k345 (k344 (k343 (k342 ab_)))) .p
def k594:=aA 594 [.mp 700 .str qI,.d (.sl .str)] [qJ] (qu2 sG_) ab_ (.s .p (.s (.s .p (.lp ⟨[],[],[7,8,9],[0],[],5⟩ ⟨[],[],[],[0],[],5⟩ false zp43)) .p))
def k478:=aA 478 [.d (.sl (.st 3))] [qJ] (qu1 wI_) (k594 (k473 ab_)) (.s .p (.s zp40 (.s .p (.s (.s .p (.lp ⟨[(17,.d qI)],[(4,true,.map 700 .str qI)],[0,3,4,15,16],[6],[],13⟩ ⟨[],[(4,true,.map 700 .str qI)],[0,3,4],[6],[],13⟩ false .p)) (.s (.s .p (.lp ⟨[(29,.d qI)],[(4,true,.map 700 .str qI),(6,true,.map 700 .str qI)],[3,4,27,28],[],[],16⟩ zj28 false (qp 2 (.s (.s .p (.s (.s .p zp54) zp58)) .p)))) .p)))))
def zp65:Pl:=.s .p (.s zp40 (.s (.s .p (.lp ⟨[],[],[8,9,10],[],[],7⟩ zj8 false zp43)) .p))
def k479:=aA 479 [.d (.sl (.st 4))] [qJ] (qu1 ul_) ab_ zp65
def k401:=aA 401 [.d qI] [qB] (qu1 mm_) ab_ (qp 2 (.s (.s .p (.j ⟨[(9,.d .bool)],[],[],[],[],7⟩ false .p .p)) .p))
def k402:=aA 402 [.d qI] [qJ] (qu1 qN_) ab_ .p
def k282:=aA 282 [.d qI] [qB] (qu1 b1_) ab_ .p
def k281:=aA 281 [.d (.st 5)] [qB] (qu1 jV_) (k282 (k402 (k401 ab_))) (.s .p (.s zp10 .p))
def c_178:Con te:=af_ te [.d (.st 6)] [qB] false λa=>fy_ a.1
theorem ok_178:OKF 178 c_178:=⟨aa_ ad_ (k283 (k282 (k281 ab_))) Tryz.func178 (by kernel_rfl) (pl:=qp 3 (.s (.s .p (.lp ⟨[(27,.d qI)],[(9009,true,.map 423 qI qI),(9011,true,.map 424 (.st 72) qI)],[1,3,4,25,26],[0],[],9019⟩ ⟨[],[],[],[],[],9019⟩ true (qp 2 (.j ⟨[],[(9009,true,.map 423 qI qI),(9011,true,.map 424 (.st 72) qI)],[1,3,4,25,26,27],[0],[],9020⟩ true (.s .p (.s zp15 (.j ⟨[],[],[1,3,4,5,6,25,26,27],[0,9009,9011,9023],[],30033⟩ true .p (.j ⟨[],[(9011,true,.map 424 (.st 72) qI)],[1,3,4,6,25,26,27],[0,9009,9023],[],30033⟩ false (.s .p (.s (.ot 6 (.alt 6 (.free 7 (.alt 8 (.free 9 (.alt 10 .nil .nil)) .nil)) (.alt 8 (.free 9 (.alt 6 (.free 7 (.alt 10 .nil .nil)) .nil)) .nil))) .p)) .p)))) .p)))) .p)) λa=>(congrFun e_tree_Right a.1).symm.trans (by kernel_rfl),by kernel_rfl⟩
def zp66:Pl:=.s .p (.s zp40 (.s .p (.s (.s .p (.lp ⟨[],[],[25,26,27],[],[],10014⟩ zj9 false zp43)) .p)))
def k346:=aA 346 [.d (.st 7)] [qB] (qu1 lG_) (ac_ ok_178 (k479 (k478 ab_))) zp66
def k482:=aA 482 [.d (.st 9)] [qB] (qu1 um_) ab_ (.s .p (.s zp40 (.s .p (.s (.s .p (.lp ⟨[],[],[24,25,26],[],[],11015⟩ ⟨[],[],[],[],[],11015⟩ false zp43)) .p))))
def k347:=aA 347 [.d (.st 11)] [qB] (qu1 pA_) (k482 (k346 ab_)) zp66
def k348:=aA 348 [.d (.st 15)] [qB] (qu1 wK_) ab_ (.s .p (.s zp40 (.s zp40 (.s (.s .p (.lp ⟨[],[],[29,30,31],[],[],14016⟩ ⟨[],[],[],[],[],14016⟩ false zp43)) .p))))
set_option maxRecDepth 100000
def k349:=aA 349 [.d (.st 18)] [qB] (qu1 sI_) ab_ (.s .p (.s zp40 (.s (.s .p (.lp ⟨[],[],[1,21,22,23],[0],[],9012⟩ ⟨[],[],[1],[0],[],9012⟩ false zp43)) zp45)))
def k487:=aA 487 [.d (.sl (.st 20))] [(.str,[]),qJ] (qu1 wM_) (dm_ iG_ ab_) (.s .p (.s zp40 (.s .p (.s (.s .p (.lp ⟨[],[],[4,12,13,14],[5],[],10⟩ ⟨[],[],[4],[5],[],10⟩ false zp43)) .p))))
def k601:=aA 601 [.d .str] [qB] (qu1 pB_) ab_ (.s .p (.s zp40 (.s (.s .p (.lp ⟨[(32,.d qI)],[],[0,31],[],[],18011⟩ ⟨[],[],[],[],[],18011⟩ false zp62)) .p)))
def k699:=aA 699 [.d (.sl (.st 22)),.f1 (.st 22) .bool] [qJ] (qu2 dO_) ab_ zp8
def k602:=aA 602 [.d (.sl (.st 22)),.f1 (.st 22) .bool] [qB] (qu2 df_) (k699 ab_) .p
def k603:=aA 603 [.d (.st 22)] [qB] (qu1 ka_) ab_ .p
def k488:=aA 488 [.d (.st 23)] [qB] (qu1 lU_) (k603 (k602 (k601 ab_))) zp42
def k350:=aA 350 [.d (.st 24)] [qB] (qu1 rs_) (k488 (k487 ab_)) (.s .p (.s zp43 (.s (.s .p (.lp ⟨[(24,.d qI)],[],[1,22,23],[0],[],5018⟩ ⟨[],[],[],[],[],5018⟩ false (qp 2 (.s (.s .p (.s (qd 19) zp39)) .p)))) .p)))
def k489:=aA 489 [.d (.st 26)] [qB] (qu1 wN_) ab_ (.s .p (.s (.s .p (.lp ⟨[],[],[1,6,7,8],[0],[],7⟩ zj26 false zp43)) .p))
def k351:=aA 351 [.d (.st 26)] [qB] (qu1 un_) (k489 ab_) (.s .p (.s zp40 (.s zp40 (.s (.s .p (.lp ⟨[],[],[56,57,58],[],[],35022⟩ ⟨[],[],[],[],[],35022⟩ false zp43)) .p))))
def k492:=aA 492 [.d (.sl (.st 36)),.f1 (.st 36) .bool] [qJ] (qu2 eK_) ab_ zp8
def k352:=aA 352 [.d (.sl (.st 36)),.f1 (.st 36) .bool] [qB] (qu2 dZ_) (k492 ab_) .p
def k353:=aA 353 [.d (.st 36),.p (.st 27)] [qB] (qu2 pC_) ab_ .p
def k236:=aA 236 [.d (.st 37),.d (.st 27)] [qB] (qu2 sJ_) (k353 (k352 (k283 (k351 (k350 (k349 (k348 (k347 (k346 ab_))))))))) .p
def k148:=aA 148 [.d (.st 37)] [qB] (qu1 m8_) (k236 (k235 (k234 (k233 (k232 ab_))))) (.s .p (.s zp40 (.s (.s .p (.lp ⟨[(40,.d qI)],[],[1,38,39],[0],[],24015⟩ zj21 false zp63)) .p)))
theorem e_237(a:PA te [.d (.st 37),.d qI]):oG_ a.1 a.2.1=kS_ Tryz.prog te eqL (ti 354 (inlF Tryz.prog te eqL fu_ Tryz.f354 (.p:Pl)) fu_) Tryz.f237 [.d (.st 37),.d qI] [qJ,qJ] (.s .p zp58) a:=by kernel_rfl
def c_237:Con te:=af_ te [.d (.st 37),.d qI] [qJ,qJ] false (qu2 oG_)
theorem ok_237:OKF 237 c_237:=⟨aa_ ad_ (dm_ ⟨fS_ ad_ ab_ Tryz.func354,by kernel_rfl⟩ ab_) Tryz.func237 (by kernel_rfl) e_237,by kernel_rfl⟩
def k238:=aA 238 [.d (.st 37),.d (.st 45)] [qB] (qu2 m9_) ab_ zp59
def k239:=aA 239 [.d (.sl (.st 43))] [qB] (qu1 uo_) ab_ zp65
def k240:=aA 240 [.d (.sl (.st 44))] [qB] (qu1 rt_) ab_ zp65
def k241:=aA 241 [.d (.sl (.st 44)),.f1 (.st 44) .bool] [qJ] (qu2 kb_) ab_ (.s .p (.s (.s .p (.lp ⟨[],[],[7,8,9],[],[],4⟩ zj7 false zp43)) .p))
def k243:=aA 243 [.d (.sl (.st 38)),.f1 (.st 38) .bool] [qJ] (qu2 gG_) ab_ (.s .p (.s (.s .p (.lp ⟨[(9,.d qI)],[],[1,7,8],[],[],4⟩ zj7 false zp63)) .p))
def k244:=aA 244 [.d (.st 38)] [qB] (qu1 lH_) ab_ .p
def k242:=aA 242 [.d (.st 44)] [qB] (qu1 pD_) (k244 (k243 ab_)) .p
def k496:=aA 496 [.d (.st 38)] [qB] (qu1 wO_) ab_ zp60
def k358:=aA 358 [.d (.sl (.st 38))] [qB] (qu1 wP_) (k496 ab_) zp64
def k359:=aA 359 [.d (.sl (.st 41))] [qB] (qu1 lV_) ab_ zp65
def k94:=aA 94 [.d qI] [qB] (qu1 num_known) ab_ .p
set_option maxRecDepth 100000
def k46:=aA 46 [.d qI,.d qI] [(.str,[])] (qu2 na_) (ac_ nj_ (k94 ab_)) zp42
def k360:=aA 360 [.d qI,.d qI] [(.str,[])] (qu2 sK_) (k46 ab_) .p
def k245:=aA 245 [.d (.st 45),.d (.st 42)] [qB] (qu2 nb_) (k360 (k244 (k243 (k359 (k358 ab_))))) (.s .p (.s zp40 (.s zp40 zp13)))
def zp67:Pl:=qp 2 (.s zp42 .p)
def k149:=aA 149 [.d (.st 37),.d (.st 45)] [qB] (qu2 nc_) (k245 (k242 (k241 (k240 (k239 (k238 (k148 (ac_ ok_237 ab_)))))))) (.s .p (.s zp43 (.s zp40 (.s zp40 (.s .p (.s (.s .p (.lp ⟨[(7,.d qI),(73,.d qI)],[],[3,71,72],[2],[],36036⟩ ⟨[],[],[],[],[],36036⟩ false zp67)) .p))))))
def k246:=aA 246 [.d (.st 46)] [qB] (qu1 wR_) ab_ zp42
def k247:=aA 247 [.d (.st 46)] [qB] (qu1 up_) ab_ .p
def k362:=aA 362 [.d (.sl qI)] [qB] (qu1 ru_) ab_ (.s .p (.s zp40 (.s (.s .p (.lp zj33 zj8 false zp63)) .p)))
def zj34:JP:=⟨[],[],[0,8],[],[],3009⟩
def k364:=aA 364 [.d .str,.d qI] [(.sl (.st 41),[]),(.str,[]),qJ] (qu2 wS_) ab_ (qp 2 (.s zp45 (.s .p (.s (.lp zj34 zj34 false zp45) .p)))) true
def k248:=aA 248 [.d (.st 48)] [qB] (qu1 rpc_Right) (k364 (k362 ab_)) (.s .p (.s zp40 (.s (.s .p (.lp ⟨[],[],[1,40,41],[0],[],24014⟩ ⟨[],[],[1],[0],[],24014⟩ false zp43)) zp42)))
def k365:=aA 365 [.d (.sl (.st 50))] [qB] (qu1 cache_holds) ab_ (.s .p (.s (.s .p (.lp ⟨[],[],[0,5,6,7],[],[],4⟩ zj22 false zp43)) .p))
def k249:=aA 249 [.d (.st 51)] [qB] (qu1 uq_) (k365 ab_) (.s .p (.s zp40 (.s (.s .p (.lp ⟨[],[],[32,33,34],[],[],16013⟩ ⟨[],[],[],[],[],16013⟩ false zp43)) .p)))
def k162:=aA 162 [.d (.sl (.st 42)),.f1 (.st 42) .bool] [qJ] (qu2 cu_) ab_ zp8
def k367:=aA 367 [.d (.st 42),.p (.st 52)] [qB] (qu2 n3_) ab_ .p
def k250:=aA 250 [.d (.st 45),.d (.st 52)] [qB] (qu2 rv_) (k367 (k162 ab_)) zp47
def k150:=aA 150 [.d (.st 37),.d (.sl (.st 45)),.d (.st 52)] [qB] (qu3 sL_) (k250 (k249 (k248 (k247 (k246 (k149 ab_)))))) (.s .p (.s (.s .p (.lp ⟨[(11,.d qI)],[],[1,3,5,9,10],[0,2],[],8⟩ ⟨[],[],[1,5],[2],[],8⟩ false zp63)) (.s zp40 (.s zp40 (.s zp40 (.s zp30 zp38))))))
def k151:=aA 151 [.d (.sl (.st 52)),.d (.st 52)] [qB] (qu2 pE_) ab_ (.s .p (.s (.s .p (.lp ⟨[(9,.d qI)],[],[3,7,8],[0],[],6⟩ zj23 false zp63)) .p))
def k77:=aA 77 [.d (.st 60)] [qB] (qu1 rw_) (k151 (k150 (k149 (k148 ab_)))) (.s .p (.s zp40 (.s (.s .p (.lp ⟨[(30,.d qI)],[],[1,28,29],[0],[],10013⟩ ⟨[],[],[1],[0],[],10013⟩ false (qp 2 (.s (.s .p (.s zp40 (.s .p (.lp ⟨[(45,.d qI)],[],[1,4,28,29,30,43,44],[0,10017],[],10033⟩ ⟨[],[],[1,28,29,30],[0],[],10033⟩ false zp63)))) .p)))) (.s (.s .p (.lp ⟨[(59,.d qI)],[],[1,57,58],[0],[],10017⟩ ⟨[],[],[1],[0],[],10017⟩ false (qp 2 (.s (.s .p (.s (qd 15) zp39)) .p)))) (.s (.s .p (.lp ⟨[(84,.d qI)],[],[1,82,83],[0],[],10022⟩ ⟨[],[],[],[],[],10022⟩ false zp63)) .p)))))
def k251:=aA 251 [.d (.st 53)] [qB] (qu1 k6_) ab_ .p
def k368:=aA 368 [.d (.sl (.st 55)),.f1 (.st 55) .bool] [qJ] (qu2 dP_) ab_ zp8
def k370:=aA 370 [.d (.st 53),.d (.st 53)] [qB] (qu2 qP_) ab_ .p
def k369:=aA 369 [.d (.st 55),.p (.st 53)] [qB] (qu2 sM_) (k370 ab_) .p
def k252:=aA 252 [.d (.st 56),.d (.st 53)] [qJ] (qu2 wT_) (k369 (k368 ab_)) .p
def k371:=aA 371 [.d (.sl (.st 54)),.f1 (.st 54) .bool] [qJ] (qu2 do_) ab_ zp8
def k372:=aA 372 [.d (.st 54),.p (.st 53)] [qB] (qu2 n4_) (k370 ab_) .p
def k253:=aA 253 [.d (.sl (.st 54)),.d (.st 53)] [qJ] (qu2 rx_) (k372 (k371 ab_)) .p
set_option maxRecDepth 100000
def k152:=aA 152 [.d (.st 56)] [qB] (qu1 ur_) (k253 (k252 (k251 ab_))) (.s .p (.s zp40 (.s (.s .p (.lp ⟨[(30,.d qI)],[],[1,28,29],[0],[],14013⟩ zj25 false (qp 2 (.s (.s .p (.s zp40 (.s .p (.lp ⟨[(62,.d qI)],[],[1,4,28,29,30,60,61],[0,14017],[],31033⟩ ⟨[],[],[1,28,29,30],[0],[],31033⟩ false zp63)))) .p)))) .p)))
def k153:=aA 153 [.d (.st 58)] [qB] (qu1 fds_Right) ab_ (.s .p (.s zp40 (.s (.s .p (.lp ⟨[],[],[16,17,18],[],[],4011⟩ ⟨[],[],[],[],[],4011⟩ false zp43)) .p)))
theorem e_154(a:PA te [.d (.sl (.sl qI))]):fz_ a.1=kS_ Tryz.prog te eqL (ti 255 (inlF Tryz.prog te eqL fu_ Tryz.f255 (.s .p (.j ⟨[],[],[0,1],[],[],7⟩ false .p (.j ⟨[(0,.one (.own 7))],[(7,false,.row 3 qI [])],[],[],[],8⟩ false .p .p)))) fu_) Tryz.f154 [.d (.sl (.sl qI))] [(.sl qI,[some 3])] (qp 2 (.s (.s .p (.lp ⟨[(3,.d qI),(11,.d qI)],[],[0,9,10],[],[],5⟩ zj10 false (qp 2 (.j ⟨[(3,.d qI)],[],[0,9,10,11],[],[],6⟩ false .p .p)))) (.j ⟨[(6,.one (.own 5))],[(5,false,.row 3 qI [])],[0],[],[],6⟩ false .p (.s (.s .p (.lp ⟨[(6,.one (.own 9)),(27,.d qI)],[(9,false,.row 3 qI [])],[25,26],[],[],10⟩ ⟨[(6,.one (.own 9))],[(9,false,.row 3 qI [])],[],[],[],10⟩ false .p)) .p)))) a:=by kernel_rfl
def c_154:Con te:=af_ te [.d (.sl (.sl qI))] [(.sl qI,[some 3])] false λa=>fz_ a.1
theorem ok_154:OKF 154 c_154:=⟨aa_ ad_ (dm_ ⟨fS_ ad_ ab_ Tryz.func255,by kernel_rfl⟩ ab_) Tryz.func154 (by kernel_rfl) e_154,by kernel_rfl⟩
def k259:=aA 259 [.d (.sl qI),.d qI] [qJ] (qu2 kc_) ab_ zp8
def k156:=aA 156 [.d (.sl qI),.d qI] [qB] (qu2 ca_) (k259 ab_) .p
def k157:=aA 157 [.d (.sl qI)] [qB] (qu1 gi_) (k156 ab_) (.s .p (.s (.s .p (.lp ⟨[(7,.d qI)],[],[0,5,6],[],[],4⟩ zj7 false zp63)) .p))
def k78:=aA 78 [.d (.st 60)] [qB] (qu1 ry_) (k157 (k156 (k155 (ac_ ok_154 (k153 (k152 ab_)))))) (qp 2 (.s (.s .p (.lp ⟨[(3,.one (.own 10)),(21,.d qI)],[(10,false,.row 3 qI [])],[1,4,5,19,20],[0],[],11⟩ ⟨[(3,.one (.own 10))],[(10,false,.row 3 qI [])],[1,4,5],[0],[],11⟩ false zp67)) (.s (.s .p (.lp ⟨[(4,.one (.own 15)),(37,.d qI)],[(15,false,.row 3 qI [])],[1,3,5,35,36],[0,10],[],16⟩ ⟨[(4,.one (.own 15))],[(15,false,.row 3 qI [])],[1,3,5],[0,10],[],16⟩ false zp67)) (.s (.s .p (.lp ⟨[(5,.one (.own 21)),(54,.d qI)],[(21,false,.row 3 qI [])],[1,3,4,52,53],[0,10,15],[],22⟩ ⟨[(5,.one (.own 21))],[(21,false,.row 3 qI [])],[1,3,4],[0,10,15],[],22⟩ false .p)) (.s (.s .p (.lp ⟨[(70,.d qI)],[(30,true,.row 3 qI [])],[1,3,4,5,68,69],[0,10,15,21],[],34⟩ ⟨[],[],[1,3,4,5],[0,10,15,21],[],34⟩ false zp63)) (.s (.s .p (.lp ⟨[(86,.d qI)],[],[3,4,5,84,85],[10,15,21],[],40⟩ ⟨[],[],[3,4],[10,15],[],40⟩ false (qp 2 (.j ⟨[],[],[3,4,5,84,85,86],[10,15,21],[],41⟩ false (qp 4 zp39) .p)))) .p))))))
def k79:=aA 79 [.d (.sl (.st 59)),.d qI] [qB] (qu2 us_) (k157 ab_) (qp 2 (.s (.s .p (.lp ⟨[],[],[0,5,8,9,10],[],[],5⟩ ⟨[],[],[0,5],[],[],5⟩ false zp43)) .p))
def k80:=aA 80 [.d (.sl (.st 2))] [qB] (qu1 nd_) ab_ (qp 2 (.s (.s .p (.lp ⟨[],[],[0,6,7,8],[],[],5⟩ zj19 false zp43)) .p))
def k38:=aA 38 [.d (.st 60)] [qB] (qu1 sN_) (k80 (k79 (k78 (k77 ab_)))) .p
def k81:=aA 81 [.d (.sl (.st 4)),.d (.st 6)] [(.sl .str,[])] (qu2 qQ_) ab_ (qp 2 (.s (.s .p (.lp ⟨[],[],[5,10,11,12],[],[],7⟩ ⟨[],[],[5],[],[],7⟩ false zp43)) .p)) true
def k160:=aA 160 [.d (.sl .str),.d .str] [qJ] (qu2 gj_) ab_ zp8
def k82:=aA 82 [.d (.sl .str),.d .str] [qB] (qu2 cY_) (k160 ab_) .p
def k39:=aA 39 [.d (.st 60)] [(.sl (.st 73),[some 84])] (qu1 n5_) (k82 (k81 ab_)) (qp 2 (.s (.s .p (.lp ⟨[(3,.one (.own 9)),(14,.d qI)],[(9,false,.row 84 (.st 73) [])],[12,13],[],[],10⟩ ⟨[(3,.one (.own 9))],[(9,false,.row 84 (.st 73) [])],[],[],[],10⟩ false (qp 2 (.j ⟨[(3,.one (.own 11))],[(11,false,.row 84 (.st 73) [])],[12,13,14],[],[],12⟩ false (qp 5 (.lp ⟨[(3,.one (.own 41)),(38,.d qI)],[(41,false,.row 84 (.st 73) [])],[4,7,12,13,14,36,37],[],[],42⟩ ⟨[(3,.one (.own 41))],[(41,false,.row 84 (.st 73) [])],[12,13,14],[],[],42⟩ false (qp 2 (.j ⟨[(3,.one (.own 43))],[(43,false,.row 84 (.st 73) [])],[4,7,12,13,14,36,37,38],[],[],44⟩ false .p .p)))) .p)))) .p))
def k161:=aA 161 [.d (.sl (.st 43)),.f1 (.st 43) .bool] [qJ] (qu2 dQ_) ab_ zp8
def k83:=aA 83 [.d (.sl (.st 43)),.f1 (.st 43) .bool] [qB] (qu2 dg_) (k161 ab_) .p
def k84:=aA 84 [.d (.st 43),.p (.st 43),.p (.st 60)] [qB] (qu3 n6_) ab_ .p
def k40:=aA 40 [.d (.st 60)] [(.sl (.st 73),[some 84])] (qu1 rz_) (k84 (k83 ab_)) (qp 2 (.s (.s .p (.lp ⟨[(3,.one (.own 8)),(11,.d qI)],[(8,false,.row 84 (.st 73) [])],[1,9,10],[0],[],9⟩ ⟨[(3,.one (.own 8))],[(8,false,.row 84 (.st 73) [])],[],[],[],9⟩ false (qp 2 (.s (qp 2 (.lp ⟨[(3,.one (.own 22)),(19,.d qI)],[(22,false,.row 84 (.st 73) [])],[1,4,5,9,10,11,17,18],[0,13],[],23⟩ ⟨[(3,.one (.own 22))],[(22,false,.row 84 (.st 73) [])],[1,9,10,11],[0],[],23⟩ false (qp 2 (.j ⟨[(3,.one (.own 24))],[(24,false,.row 84 (.st 73) [])],[1,4,5,9,10,11,17,18,19],[0,13],[],25⟩ false .p .p)))) .p)))) .p))
def k86:=aA 86 [.d (.st 60),.d (.st 52)] [(.st 45,[]),qB] (qu2 ne_) ab_ zp42 true
def k87:=aA 87 [.d (.sl (.st 42)),.f1 (.st 42) .bool] [qB] (qu2 dA_) (k162 ab_) .p
set_option maxRecDepth 100000
def k88:=aA 88 [.d (.st 42),.p (.st 52)] [qB] (qu2 nf_) ab_ .p
def k41:=aA 41 [.d (.st 60)] [(.sl (.st 73),[])] (qu1 pF_) (k88 (k87 (k86 ab_))) (qp 3 (.s (.s .p (.lp ⟨[(17,.d qI)],[],[1,3,15,16],[0],[],12⟩ ⟨[],[],[3],[],[],12⟩ false (qp 2 (.j ⟨[],[],[1,3,15,16,17],[0],[],13⟩ false (qp 4 (.lp ⟨[],[],[1,3,15,16,17,39,40,41],[0],[],6040⟩ ⟨[],[],[1,3,15,16,17],[0],[],6040⟩ false zp43)) .p)))) .p)) true
def k42:=aA 42 [.d (.st 60)] [(.sl (.st 73),[])] (qu1 pG_) (k86 ab_) (qp 2 (.s (.s .p (.lp ⟨[(13,.d qI)],[],[1,3,11,12],[0],[],8⟩ ⟨[],[],[3],[],[],8⟩ false (qp 2 (.j ⟨[],[],[1,3,11,12,13],[0],[],9⟩ false (qp 4 (.lp ⟨[],[],[1,3,11,12,13,53,54,55],[0],[],22038⟩ ⟨[],[],[1,3,11,12,13],[0],[],22038⟩ false zp43)) .p)))) .p)) true
def k43:=aA 43 [.d (.st 60)] [(.sl (.st 73),[])] (qu1 ng_) ab_ (qp 2 (.s (.s .p (.lp ⟨[(14,.d qI)],[],[3,12,13],[],[],9⟩ ⟨[],[],[3],[],[],9⟩ false (qp 2 (.j ⟨[],[],[3,12,13,14],[],[],10⟩ false (qp 3 (.lp ⟨[],[],[3,12,13,14,24,25,26],[],[],26⟩ ⟨[],[],[3,12,13,14],[],[],26⟩ false zp43)) .p)))) .p)) true
def k13:=aA 13 [.d (.st 60)] [(.sl (.st 73),[some 84])] (qu1 fA_) (k43 (k42 (k41 (k40 (k39 (k38 ab_)))))) .p
def k14:=aA 14 [.d (.st 60)] [qB] (qu1 il_) (k13 ab_) .p
def k93:=aA 93 [.d (.sl (.st 73)),.f1 (.st 73) .bool] [qJ] (qu2 c0_) ab_ zp8
def k44:=aA 44 [.d (.sl (.st 73)),.f1 (.st 73) .bool] [qB] (qu2 cH_) (k93 ab_) .p
def k45:=aA 45 [.d (.st 73)] [qB] (qu1 nh_) ab_ .p
def k15:=aA 15 [.d (.st 60)] [qB] (qu1 fd_) (k45 (k44 (k13 ab_))) .p
def k16:=aA 16 [.d (.st 73)] [(.str,[])] (qu1 jX_) (k46 ab_) (qp 3 (.s zp7 .p))
set_option maxRecDepth 100000
def zo37:OT:=.free 40 (.alt 41 (.free 42 (.alt 43 (.free 44 .nil) .nil)) .nil)
def zo38:OT:=.free 35 (.alt 36 (.free 37 (.alt 38 (.free 39 (.spl 39 zo37 zo37)) .nil)) .nil)
def zo39:OT:=.alt 30 (.alt 31 (.free 32 (.alt 33 (.free 34 (.spl 34 zo38 zo38)) .nil)) .nil) .nil
def zo40:OT:=.alt 25 (.alt 26 (.free 27 (.alt 28 (.free 29 (.spl 29 zo39 zo39)) .nil)) .nil) .nil
def zo41:OT:=.free 18 (.alt 19 (.free 20 (.alt 21 (.free 22 (.alt 23 (.free 24 (.spl 24 zo40 zo40)) .nil)) .nil)) .nil)
def zo42:OT:=.free 13 (.alt 14 (.free 15 (.alt 16 (.free 17 (.spl 17 zo41 zo41)) .nil)) .nil)
def zo43:OT:=.alt 9 (.alt 10 (.alt 11 (.free 12 (.spl 12 zo42 zo42)) .nil) .nil) .nil
def zo44:OT:=.alt 5 (.alt 6 (.alt 7 (.free 8 (.spl 8 zo43 zo43)) .nil) .nil) .nil
def k6:=aA 6 [] [qB] (λ_=>eI_) (k16 (k15 (k14 (k13 (k12 ab_))))) (qp 2 (.s zp40 (qp 3 (.s (.ot 0 (.alt 0 (.alt 1 (.alt 2 (.free 3 (.free 4 (.spl 4 zo44 zo44))) .nil) .nil) .nil)) .p))))
set_option maxRecDepth 100000
def zp68:Pl:=.s .p (.s (.s .p (.lp ⟨[(6,.d qI)],[],[1,2,4],[0,2],[],10⟩ ⟨[],[],[4],[2],[],10⟩ true .p)) .p)
def k47:=aA 47 [.d (.st 11),.d qI] [(.st 10,[]),qB] (qu2 k7_) ab_ zp68
def k515:=aA 515 [.d (.sl (.st 8)),.f1 (.st 8) .bool] [qJ] (qu2 cb_) ab_ zp8
def k516:=aA 516 [.d (.st 8),.p .str] [qB] (qu2 lI_) ab_ .p
def k386:=aA 386 [.d (.st 9),.d .str] [qJ] (qu2 k8_) (k516 (k515 ab_)) .p
def zj35:JP:=⟨[],[(1,true,.cells 591 [.sbp 1,.own 443]),(443,false,.row 5 (.int .u8) [])],[0,3],[],[],444⟩
theorem e_739(a:PA te [.d .str]):ni_ a.1=kS_ Tryz.prog te eqL (ti 818 (inlF Tryz.prog te eqL fu_ Tryz.f818 (.p:Pl)) (ti 817 (inlF Tryz.prog te eqL (ti 584 eb_ fu_) Tryz.f817 (.p:Pl)) (ti 463 (inlF Tryz.prog te eqL (ti 584 eb_ fu_) Tryz.f463 (.p:Pl)) (ti 464 jZ_ fu_)))) Tryz.f739 [.d .str] [(.str,[])] (qp 4 (.s (.lp zj35 zj35 false .p) (.s .p (.s (.s .p (.lp ⟨[(5,.d qI)],[(1,true,.cells 591 [.sbp 1,.own 450]),(450,false,.row 5 (.int .u8) [])],[3,4],[],[],451⟩ ⟨[],[(1,true,.cells 591 [.sbp 1,.own 450]),(450,false,.row 5 (.int .u8) [])],[3],[],[],451⟩ false .p)) .p)))) a:=by kernel_rfl
def c_739:Con te:=af_ te [.d .str] [(.str,[])] false λa=>ni_ a.1
theorem ok_739:OKF 739 c_739:=⟨aa_ ad_ (dm_ ⟨fS_ ad_ ab_ Tryz.func818,by kernel_rfl⟩ (dm_ ⟨fS_ ad_ (dm_ fC_ ab_) Tryz.func817,by kernel_rfl⟩ (dm_ ⟨fS_ ad_ (dm_ fC_ ab_) Tryz.func463,by kernel_rfl⟩ (dm_ iG_ ab_)))) Tryz.func739 (by kernel_rfl) e_739,by kernel_rfl⟩
def k904:=aA 904 [.d .str] [(qU,[])] (qu1 n7_) ab_ (.s .p (.s (qd 19) .p))
def k905:=aA 905 [.d qU,.d qI] [(qU,[])] (qu2 lW_) ab_ .p
def k820:=aA 820 [.d qU,.d qI] [(qU,[])] (qu2 aV_) (k905 ab_) .p
def k819:=aA 819 [.d .str] [(.st 76,[])] (qu1 iC_) (k820 (k904 ab_)) (qp 2 (.s (.s .p (.lp ⟨[(9,.d qI)],[(2,true,.box 860 (.st 76))],[0,2,3],[0],[],5⟩ ⟨[],[(2,true,.box 860 (.st 76))],[2,3],[0],[],5⟩ false (qp 2 (.j ⟨[],[(2,true,.box 860 (.st 76))],[0,2,3,9],[0],[],6⟩ false (qp 2 (.s (qd 10) (qp 2 (.dr [0,0,0,0,0,0,0,0,0,0,0,0,0,0,0,2] [] false [])))) .p)))) .p))
def k740:=aA 740 [.d (.st 75),.d .str] [(.st 75,[])] (qu2 qR_) (k820 (k819 ab_)) (qp 3 (.s (.s .p (.lp ⟨[(20,.d qI)],[(11,true,.box 793 (.st 75))],[2,4,5,6],[0,2,6],[],16⟩ ⟨[],[(11,true,.box 793 (.st 75))],[2,4,6],[0,2],[],16⟩ false (qp 2 (.s (.s .p (.s (qd 18) zp11)) .p)))) (.s (.s .p (.lp ⟨[(98,.d qI)],[(0,true,.box 793 (.st 75))],[2,4,6],[2,11],[],17⟩ ⟨[],[(0,true,.box 793 (.st 75))],[2,4],[2],[],17⟩ false (qp 2 (.s (.s .p (.dr [0,0,0,0,0,0,0,0,2] [] false [])) .p)))) .p)))
def k631:=aA 631 [.d .str] [(.str,[])] (qu1 qS_) (k740 (ac_ ok_739 ab_)) (qp 2 (.s (.s .p (.lp ⟨[(4,.d .str)],[(2,true,.box 793 (.st 75))],[3],[],[],9⟩ ⟨[],[(2,true,.box 793 (.st 75))],[3],[],[],9⟩ false (.s .p (.s (.dr [0,0,0,0,2] [] false []) .p)))) (.s .p (.s (.s .p (.lp ⟨[(5,.one (.own 14)),(21,.d qI)],[(14,false,.row 5 (.int .u8) [])],[20],[],[],15⟩ ⟨[(5,.one (.own 14))],[(14,false,.row 5 (.int .u8) [])],[],[],[],15⟩ false .p)) .p))))
def k517:=aA 517 [.d qI,.d .str] [(.str,[])] (qu2 mn_) (k631 ab_) .p
def k387:=aA 387 [.d qI,.d .str] [(.st 8,[])] (qu2 mo_) (k517 ab_) .p
def k269:=aA 269 [.d (.st 9),.d .str,.d qI] [(.str,[]),qJ] (qu3 n8_) (k387 (k386 ab_)) (qp 2 (.s (qp 4 zp18) .p))
def k171:=aA 171 [.bm 314 (.st 74) [none,none,some 9] false,.d .str,.d qI] [(.str,[]),qJ] (qu3 b2_) (k269 ab_) (qp 2 (.j ⟨[(9,.d qI)],[],[0,1,8],[0,1],[],16⟩ false .p .p)) true
def k270:=aA 270 [.d .str,.d qI,.d qI] [qJ,qJ,qJ] (qu3 lt_) ab_ (qp 4 (.s (.s .p (.lp ⟨[(9,.d (.int .u64)),(10,.d qI)],[],[0,1,2],[],[],11018⟩ ⟨[(9,.d (.int .u64))],[],[1,2],[],[],11018⟩ false .p)) .p))
def k172:=aA 172 [.b 318 (.st 77),.d qI] [qJ] (qu2 aB_) (k270 ab_) (.s .p zp13)
def k388:=aA 388 [.d .str,.d qI] [(.str,[]),qJ,qJ] (qu2 iD_) (k270 ab_) .p
def k271:=aA 271 [.b 318 (.st 77)] [(.str,[])] (qu1 bC_) (k388 ab_) zp21
def k272:=aA 272 [.b 318 (.st 77)] [(.str,[])] (qu1 dp_) ab_ (.s .p (.s zp13 (.s .p zp18)))
def k173:=aA 173 [.b 318 (.st 77)] [(.st 78,[])] (qu1 cl_) (k272 (k271 (k172 ab_))) .p
def k273:=aA 273 [.d (.st 5)] [qB] (qu1 dv_) ab_ .p
def k632:=aA 632 [.d qI,.d qI] [qJ] (qu2 d0_) ab_ (qp 2 (.s (.s .p (.lp ⟨[(5,.d qI),(12,.d qI)],[],[11],[],[],9⟩ ⟨[(5,.d qI)],[],[],[],[],9⟩ false .p)) .p))
def k518:=aA 518 [.d qI] [qJ] (qu1 he_) (k632 ab_) (qp 2 (.s (.lp zj0 ⟨[(3,.d qI)],[],[],[],[],2⟩ false .p) .p))
def k389:=aA 389 [.d (.st 62)] [qB] (qu1 iE_) (k518 ab_) zp22
set_option maxRecDepth 100000
def k519:=aA 519 [.d (.st 80),.d qI,.d qI] [qJ] (qu3 bR_) (k632 ab_) .p
def k520:=aA 520 [.d qI] [qJ] (qu1 b0_) ab_ (qp 2 (.s (.s .p (.lp ⟨[(3,.d qI),(5,.d qI)],[],[4],[],[],4⟩ ⟨[(3,.d qI)],[],[],[],[],4⟩ false .p)) .p))
def cS_390(f:Xy->Vr->tR->Int->Int->tO (tR×Int×Xy)):Con te:=af_ te [.bm 314 (.st 74) [none,none,some 9] false,.d (.st 80),.d .str,.d qI,.d qI] [(.str,[]),qJ] true (qu5 f)
theorem okS_390(f:Xy->Vr->tR->Int->Int->tO (tR×Int×Xy))(h:OKF 390 (cS_390 f)):OKF 390 (cS_390 (bS_ f)):=⟨aa_ ad_ (k520 (k519 (k171 (ac_ h ab_)))) Tryz.func390 (by kernel_rfl) (pl:=qp 2 (.j ⟨[(12,.d qI)],[],[0,2,3,4,6],[0,1,2],[],7⟩ false .p (qp 6 (.s (.s .p (.lp ⟨[(16,.d .str),(66,.d qI)],[(0,true,.cells 314 [.v qI,.v (.sl (.st 8)),.own 41]),(41,false,.row 9 .str [])],[0,3,4,6,13,65],[2],[],42⟩ ⟨[(16,.d .str)],[(0,true,.cells 314 [.v qI,.v (.sl (.st 8)),.own 41]),(41,false,.row 9 .str [])],[],[],[],42⟩ true (qp 2 (.j ⟨[(16,.d .str)],[(0,true,.cells 314 [.v qI,.v (.sl (.st 8)),.own 43]),(43,false,.row 9 .str [])],[0,3,4,6,13,65,66],[2],[],44⟩ true (qp 3 (.s (.s (qd 14) .p) (.s (.dr [0,0,0,0,0,0,0,0,0,0,0,0,2,4,4,4,4,4] [] false []) .p))) .p)))) .p)))) λ_=>by kernel_rfl,by kernel_rfl⟩
theorem okN_390:∀n,OKF 390 (cS_390 (bu_ n))
 | 0=>⟨bf_ λ_=>rfl,by kernel_rfl⟩
 | n+1=>okS_390 _ (okN_390 n)
def c_390:Con te:=cS_390 (bu_ BIG)
theorem ok_390:OKF 390 c_390:=okN_390 BIG
def k274:=aA 274 [.bm 314 (.st 74) [none,none,some 9] false,.d (.st 62),.d qI] [(.str,[]),qJ] (qu3 cP_) (ac_ ok_390 (k171 (k389 ab_))) (qp 2 (.s (.s .p (.s (.s .p (.j ⟨[(9,.d qI)],[],[],[0,16],[],26⟩ false .p .p)) .p)) .p)) true
def k275:=aA 275 [.d .str] [(.sl (.st 78),[some 320]),qB] (qu1 gk_) (k173 ab_) (qp 3 (.s (.lp ⟨[(5,.one (.own 8))],[(4,true,.box 318 (.st 77)),(8,false,.row 320 (.st 78) [])],[0,4],[],[],9⟩ ⟨[(5,.one (.own 8))],[(4,true,.box 318 (.st 77)),(8,false,.row 320 (.st 78) [])],[4],[],[],9⟩ false .p) zp3))
def k391:=aA 391 [.d (.sl (.st 78)),.f1 (.st 78) .bool] [qJ] (qu2 bz_) ab_ zp8
def k276:=aA 276 [.d (.sl (.st 78)),.f1 (.st 78) .bool] [qB] (qu2 aL_) (k391 ab_) .p
def k277:=aA 277 [.d (.st 78),.p (.st 78)] [qB] (qu2 bX_) ab_ .p
def cS_174(f:Yq->Xy->Yv->tO (Int×Yq×Xy)):Con te:=af_ te [.bm 324 (.st 79) [some 88] true,.bm 314 (.st 74) [none,none,some 9] false,.d (.st 78)] [qJ] true (qu3 f)
def zp69:Pl:=.dr [4,0,0,0,0,0,0,1,2,4,4,2] [0,1,2,3,4,5,6] false []
theorem okS_174(f:Yq->Xy->Yv->tO (Int×Yq×Xy))(h:OKF 174 (cS_174 f)):OKF 174 (cS_174 (ba_ f)):=⟨aa_ ad_ (k277 (k276 (k275 (k274 (k273 (ac_ h ab_)))))) Tryz.func174 (by kernel_rfl) (pl:=.s .p (.s (.s (qd 10) .p) (.s .p (.j ⟨[(5,.d qI)],[],[0,3],[0,1,2,3,4],[],18⟩ false .p (.s (.dr [0,0,0,0,0,0,0,2,4,4,4,4,4] [] false []) (.s .p (.s (.s .p (.s (.s .p (.s zp69 .p)) .p)) (.s zp69 (qp 2 (.s (.s .p (.lp ⟨[(83,.d qI)],[(0,true,.cells 324 [.ptr 2,.own 4072,.v qI]),(2,true,.cells 314 [.v qI,.v (.sl (.st 8)),.own 4071]),(4071,false,.row 9 .str []),(4072,false,.row 88 (.st 5) []),(58,true,.row 320 (.st 78) [])],[0,81,82],[],[],4073⟩ ⟨[],[(0,true,.cells 324 [.ptr 2,.own 4072,.v qI]),(2,true,.cells 314 [.v qI,.v (.sl (.st 8)),.own 4071]),(4071,false,.row 9 .str []),(4072,false,.row 88 (.st 5) [])],[],[],[],4073⟩ true .p)) .p)))))))))) λ_=>by kernel_rfl,by kernel_rfl⟩
theorem okN_174:∀n,OKF 174 (cS_174 (aR_ n))
 | 0=>⟨bf_ λ_=>rfl,by kernel_rfl⟩
 | n+1=>okS_174 _ (okN_174 n)
def c_174:Con te:=cS_174 (aR_ BIG)
theorem ok_174:OKF 174 c_174:=okN_174 BIG
def c_97:Con te:=af_ te [.bm 314 (.st 74) [none,none,some 9] false,.d .str] [(.st 6,[none,some 88]),qJ] true (qu2 d3_)
theorem ok_97:OKF 97 c_97:=⟨aa_ ad_ (ac_ ok_178 (ac_ ok_174 (k173 (k172 (k171 (dm_ vc_ ab_)))))) Tryz.func97 (by kernel_rfl) (pl:=.p) λ_=>by kernel_rfl,by kernel_rfl⟩
theorem e_48(a:PA te [.d (.st 9),.d .str]):et_ a.1 a.2.1=kS_ Tryz.prog te eqL (ti 96 (inlF Tryz.prog te eqL fu_ Tryz.f96 (.p:Pl)) (tb 97 c_97 fu_)) Tryz.f48 [.d (.st 9),.d .str] [(.st 6,[none,some 88]),qJ] (.p:Pl) a:=by kernel_rfl
def c_48:Con te:=af_ te [.d (.st 9),.d .str] [(.st 6,[none,some 88]),qJ] false (qu2 et_)
theorem ok_48:OKF 48 c_48:=⟨aa_ ad_ (dm_ ⟨fS_ ad_ ab_ Tryz.func96,by kernel_rfl⟩ (ac_ ok_97 ab_)) Tryz.func48 (by kernel_rfl) e_48,by kernel_rfl⟩
def k17:=aA 17 [.d (.st 11),.d qI] [(.st 6,[none,some 88]),qJ] (qu2 iF_) (ac_ ok_48 (k47 ab_)) .p
def k18:=aA 18 [.d (.sl (.st 5)),.d (.sl (.st 5))] [qB] (qu2 b7_) ab_ (qp 2 (.s (.s .p (.lp ⟨[(13,.d qI)],[],[0,1,12],[],[],9⟩ ⟨[],[],[],[],[],9⟩ true zp26)) .p))
def k7:=aA 7 [.d (.st 60),.d qI,.d qI,.d (.st 6)] [qB] (qu4 bN_) (k18 (k17 ab_)) .p
def k20:=aA 20 [.d (.st 11),.d qI] [(.st 10,[]),qB] (qu2 va_) ab_ zp68
def k9:=aA 9 [.d (.st 11),.d qI] [(.st 6,[]),qJ] (qu2 jY_) (k21 (k20 ab_)) .p true
def k19:=aA 19 [.d (.st 6),.d (.st 6)] [qB] (qu2 hf_) ab_ (qp 2 (.s (.s .p (.lp ⟨[(23,.d qI)],[],[2,3,22],[0,2],[],8015⟩ ⟨[],[],[],[],[],8015⟩ true zp32)) .p))
def k8:=aA 8 [.d (.st 60),.d qI,.d qI,.d (.st 6)] [qB] (qu4 cn_) (k19 (k9 ab_)) .p
def k3:=aA 3 [.d (.st 60),.d qI,.d qI,.d (.st 6)] [qB] (qu4 cR_) (k9 (k8 (k7 (k6 (k5 (k4 ab_)))))) (qp 2 zp34)
end
end Go.Proofs.YtokncnjohiobcaaGreatDoor
namespace Go
namespace Rt
theorem ao_{n:Int}(h:I64 n):w64 n=n:=by
 unfold w64;rw[IntKind.wrap_i64];omega
theorem kF_{n:Int}(h:I64 n):IntKind.i64.wrap n=n:=ao_ h
theorem wu8(n:Int):IntKind.u8.wrap n=n%256:=IntKind.wrap_u8 n
theorem wu64(n:Int):IntKind.u64.wrap n=n%18446744073709551616:=by simp[IntKind.wrap,IntKind.bits,IntKind.signed]
theorem ofInt_nat{a:Nat}(f:a<2^64):(BitVec.ofInt 64 (a:Int)).toNat=a:=by
 rw[BitVec.toNat_ofInt];have:((a:Int)%((2^64:Nat):Int))=((a%2^64:Nat):Int):=by omega
 rw[this];simp;omega
theorem orI_u64{a b:Nat}(h:a<2^64)(f:b<2^64):orI .u64 a b=((a|||b:Nat):Int):=by
 have h1:a|||b<2^64:=Nat.or_lt_two_pow h f
 show IntKind.u64.wrap (((BitVec.ofInt 64 (a:Int)|||BitVec.ofInt 64 (b:Int)).toNat:Nat):Int)=_;rw[BitVec.toNat_or,ofInt_nat h,ofInt_nat f,wu64];omega
theorem ae_{α β:Type}{x:tO α}{a:α}{f:α->tO β}{r:tO β}(h:x=some a)(hr:f a=r):x.bind f=r:=by subst h;exact hr
theorem an_{α:Type}{c:tV}{A B r:α}(f:c=true)(h:A=r):(bif c then A else B)=r:=by subst f;exact h
theorem am_{α:Type}{c:tV}{A B r:α}(f:c=false)(h:B=r):(bif c then A else B)=r:=by subst f;exact h
theorem loopF_run{σ β:Type}{body:σ->tO (Step σ β)}(I:Nat->σ->β->Prop)
  (h0:∀s b,I 0 s b->body s=some (.done b))
  (h:∀k s b,I (k+1) s b->body s=some (.done b)\/∃f,body s=some (.next f)/\I k f b):∀{k n:Nat} {s:σ} {b:β},I k s b->k<n->aj_ body n s=some b
 | 0,n+1,s,b,m,_=>by simp only[aj_,h0 s b m]
 | k+1,n+1,s,b,m,u=>by
  simp only[aj_];rcases h k s b m with q|⟨f,p,j⟩
  .rw[q]
  .rw[p];exact loopF_run I h0 h j (by omega)
theorem kG_{σ β:Type}{body:σ->tO (Step σ β)}(n:Nat)(q:n<BIG)(J:Nat->σ->β->Prop)(h0:∀s b,J n s b->body s=some (.done b))
  (h:∀i s b,i<n->J i s b->body s=some (.done b)\/∃j,body s=some (.next j)/\J (i+1) j b) {s:σ} {b:β} (x:J 0 s b):aj_ body BIG s=some b:=by
 refine loopF_run (λk s b=>k<=n/\J (n-k) s b) (λs b f=>h0 s b (by simpa using f.2)) (λk s b f=>?_) (k:=n) ⟨qA _,by simpa using x⟩ q;obtain⟨y,f⟩:=f;rcases h _ s b (by omega) f with u|⟨j,p,m⟩
 .exact .inl u
 .exact .inr ⟨j,p,by omega,by rwa [show n-(k+1)+1=n-k by omega]at m⟩
theorem bv_{σ β:Type}{body:σ->tO (Step σ β)}(T:Nat->σ)(n:Nat)(m:n<BIG){b:β}(j:∀i,i<n->body (T i)=some (.next (T (i+1))))(p:body (T n)=some (.done b)):aj_ body BIG (T 0)=some b:=by
 refine kG_ (J:=λi s h=>s=T i/\h=b) n m (λs h f=>?_) (λi s h hi f=>?_) ⟨rfl,rfl⟩
 .obtain⟨rfl,rfl⟩:=f;exact p
 .obtain⟨rfl,rfl⟩:=f;exact .inr ⟨_,j i hi,rfl,rfl⟩
theorem gL_{α:Type}(xs:tL α)(i:Nat):ah_ xs (i:Int)=xs[i]?:=by
 unfold ah_;rw[qY (by omega)];simp
theorem bb_{α:Type}{xs:tL α}{i:Nat}(h:i<xs.length):ah_ xs (i:Int)=some xs[i]:=by
 rw[gL_,qQ h]
theorem nm_{s:tR}{i:Nat}(h:i<s.length):ap_ s (i:Int)=some (s[i].toNat:Int):=by
 unfold ap_;rw[bb_ h];rfl
theorem im_{a b:tR}(h:a.length+b.length<=9223372036854775807):cat a b=some (a++b):=by
 unfold cat;rw[qY h]
theorem cL_{α:Type}{bytes:Nat}{xs f:tL α}(h1:xs.length+f.length<=9223372036854775807)(h:(xs.length+f.length)*bytes<=140737488355328):room bytes xs f=some (xs++f):=by
 unfold room;rw[qY ⟨h1,h⟩]
theorem cM_{α:Type}{xs:tL α}{lo hi:Int}(h0:0<=lo)(h1:lo<=hi)(f:hi<=xs.length):aA_ xs lo hi=some ((xs.take hi.toNat).drop lo.toNat):=by
 unfold aA_;rw[qY ⟨h0,h1,f⟩]
theorem shrI_eq{k:IntKind}{x y:Int}(h:0<=y)(f:y<=k.bits):shrI k x y=some (x.fdiv (2^y.toNat)):=by
 unfold shrI;rw[qG (by omega),show min y.toNat k.bits=y.toNat by omega]
end Rt
end Go
