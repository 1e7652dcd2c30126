/-
 What the statements of this seat hang on,part 7: Ha Hb Hc Hd He Hf Hg Hh Hu Hv Hz Hza Hzb Hzc Hzd Uc Hzh Hzi Hzj Hzk Hzl Ud Ue Uj.
-/
import Derived.Test.YtebokaoegomboaaGreatDoorZF6
namespace Go.Proofs.YtebokaoegomboaaGreatDoor
open Go.Rt Go.RowKit
theorem orI_comm(k:IntKind)(a b:Int):orI k a b=orI k b a:=by
 unfold orI;rw[BitVec.or_comm]
def rot(x:Int)(n:Nat):Int:=orI .u32 (IntKind.u32.wrap (x*2^(32-n))) (x.fdiv (2^n))
theorem right2(x:Int):aQ_ x 2=some (rot x 2):=by kernel_rfl
theorem right6(x:Int):aQ_ x 6=some (rot x 6):=by kernel_rfl
theorem right7(x:Int):aQ_ x 7=some (rot x 7):=by kernel_rfl
theorem right11(x:Int):aQ_ x 11=some (rot x 11):=by kernel_rfl
theorem right13(x:Int):aQ_ x 13=some (rot x 13):=by kernel_rfl
theorem right17(x:Int):aQ_ x 17=some (rot x 17):=by kernel_rfl
theorem right18(x:Int):aQ_ x 18=some (rot x 18):=by kernel_rfl
theorem right19(x:Int):aQ_ x 19=some (rot x 19):=by kernel_rfl
theorem right22(x:Int):aQ_ x 22=some (rot x 22):=by kernel_rfl
theorem right25(x:Int):aQ_ x 25=some (rot x 25):=by kernel_rfl
theorem dy_(x:Int)(n:Int)(m:Nat)(h:aH_ x n=some (orI .u32 (x.fdiv (2^m)) (IntKind.u32.wrap (x*2^(32-m))))):aH_ x n=some (rot x m):=by
 rw[h,orI_comm];rfl
theorem rotr2(x:Int):aH_ x 2=some (rot x 2):=dy_ x 2 2 (by kernel_rfl)
theorem rotr6(x:Int):aH_ x 6=some (rot x 6):=dy_ x 6 6 (by kernel_rfl)
theorem rotr7(x:Int):aH_ x 7=some (rot x 7):=dy_ x 7 7 (by kernel_rfl)
theorem rotr11(x:Int):aH_ x 11=some (rot x 11):=dy_ x 11 11 (by kernel_rfl)
theorem rotr13(x:Int):aH_ x 13=some (rot x 13):=dy_ x 13 13 (by kernel_rfl)
theorem rotr17(x:Int):aH_ x 17=some (rot x 17):=dy_ x 17 17 (by kernel_rfl)
theorem rotr18(x:Int):aH_ x 18=some (rot x 18):=dy_ x 18 18 (by kernel_rfl)
theorem rotr19(x:Int):aH_ x 19=some (rot x 19):=dy_ x 19 19 (by kernel_rfl)
theorem rotr22(x:Int):aH_ x 22=some (rot x 22):=dy_ x 22 22 (by kernel_rfl)
theorem rotr25(x:Int):aH_ x 25=some (rot x 25):=dy_ x 25 25 (by kernel_rfl)
theorem map_nthI(y:List Int):(List.range y.length).map (ao_ y)=y:=by
 apply List.ext_getElem?;intro i;rw[List.getElem?_map];by_cases hi:i<y.length
 .rw[List.getElem?_range hi,List.getElem?_eq_getElem hi];simp[ao_,hi]
 .rw[List.getElem?_eq_none (by simpa using hi),List.getElem?_eq_none (by omega)];rfl
theorem l_of64{y:List Int}(h:y.length=64):(Yb.of y).l=y:=by
 have h1:(Yb.of y).l=(List.range 64).map (ao_ y):=rfl;rw[h1,←h,map_nthI]
theorem hc_{y:List Int}{i:Nat}(h:i<y.length):ak_ y (i:Int)=some (ao_ y i):=by
 rw[as_ h];simp[ao_,h]
def hA_(b:Str)(i:Nat):Int:=((b.getD i 0).toNat:Int)
theorem j0_{b:Str}{i:Nat}(h:i<b.length):bB_ b (i:Int)=some (hA_ b i):=by
 rw[g9_ h];simp[hA_,h]
def wordN(b:Str)(i:Nat):Int:=orI .u32 (orI .u32 (orI .u32 (IntKind.u32.wrap ((IntKind.u32.wrap (hA_ b (4*i)))*2^24)) (IntKind.u32.wrap ((IntKind.u32.wrap (hA_ b (4*i+1)))*2^16))) (IntKind.u32.wrap ((IntKind.u32.wrap (hA_ b (4*i+2)))*2^8))) (IntKind.u32.wrap (hA_ b (4*i+3)))
def wdHi(i:Nat)(l:List Int):Int:=(IntKind.u32.wrap ((IntKind.u32.wrap ((IntKind.u32.wrap (ao_ l (i-16)+(bd_ .u32 (bd_ .u32 (rot (ao_ l (i-15)) 7) (rot (ao_ l (i-15)) 18)) ((ao_ l (i-15)).fdiv (2^3)))))+ao_ l (i-7)))+(bd_ .u32 (bd_ .u32 (rot (ao_ l (i-2)) 17) (rot (ao_ l (i-2)) 19)) ((ao_ l (i-2)).fdiv (2^10)))))
def wd(b:Str)(i:Nat)(l:List Int):Int:=if i<16 then wordN b i else wdHi i l
theorem wd_hi{b:Str}{i:Nat}{l:List Int}(h:¬i<16):wd b i l=wdHi i l:=if_neg h
def bc_(b:Str):Nat->List Int | 0=>[]|i+1=>bc_ b i++[wd b i (bc_ b i)]
theorem b2_(b:Str):∀i,(bc_ b i).length=i
 | 0=>rfl
 | i+1=>by simp[bc_,b2_ b i]
def cW_(b:Str)(i:Nat):List Int:=bc_ b i++List.replicate (64-i) 0
theorem ln_(b:Str){i:Nat}(h:i<=64):(cW_ b i).length=64:=by
 simp[cW_,b2_];omega
theorem schedA_nth(b:Str){i j:Nat}(h:j<i):ao_ (cW_ b i) j=ao_ (bc_ b i) j:=by
 have:j<(bc_ b i).length:=by rw[b2_];exact h
 simp only[ao_,cW_,List.getD_eq_getElem?_getD];rw[List.getElem?_append_left this]
theorem schedA_set(b:Str){i:Nat}(h:i<64):(cW_ b i).set i (wd b i (bc_ b i))=cW_ b (i+1):=by
 unfold cW_;have e:64-i=(64-(i+1))+1:=by omega
 rw[List.set_append_right _ _ (by rw[b2_];exact Nat.le_refl _),b2_,Nat.sub_self,e,List.replicate_succ,List.set_cons_zero,bc_,List.append_assoc];rfl
theorem word_eq{b:Str}{i:Nat}(hb:b.length=64)(hi:i<16):jv_ ((b.take 64).drop (4*i))=some (wordN b i):=by
 have ht:b.take 64=b:=by rw[←hb];exact List.take_length
 rw[ht];unfold jv_;have hd:∀j:Nat,j<4->bB_ (b.drop (4*i)) (j:Int)=some (hA_ b (4*i+j)):=λj hj=>by
  rw[j0_ (by rw[List.length_drop];omega)]
  congr 1
  simp only[hA_,List.getD_eq_getElem?_getD,List.getElem?_drop]
 have h0:=hd 0 (by omega);have h1:=hd 1 (by omega);have h2:=hd 2 (by omega);have h3:=hd 3 (by omega);refine aa_ h0 (aa_ h1 (aa_ h2 (aa_ h3 rfl)))
theorem ja_{n i:Nat}(h:i<n):cc_ n (i:Int)=some ():=by
 unfold cc_;simp[h]
set_option maxRecDepth 100000 in
theorem schedule_eq{b:Str}(hb:b.length=64):fB_ b=some (Yb.of (bc_ b 64)):=by
 unfold fB_;refine aa_ (a:=Yb.of (bc_ b 64)) ?_ rfl;have h64:cW_ b 64=bc_ b 64:=by simp[cW_]
 rw[←h64];refine bh_ (T:=λi=>((i:Int),Yb.of (cW_ b i))) 64 (by decide) (λi hi => ?_) ?_
 .unfold fT_;have hl:=l_of64 (ln_ b (Nat.le_of_lt hi));have hset:setI (Yb.of (cW_ b i)).l (i:Int) (wd b i (bc_ b i))=some (cW_ b (i+1)):=by
   rw[hl];unfold setI;rw[if_pos ⟨by omega,by rw[ln_ b (Nat.le_of_lt hi)];omega⟩,qTn,schedA_set b hi]
  refine ai_ (by simp;omega) ?_;refine aa_ (a:=Yb.of (cW_ b (i+1))) ?_ (by rw[aw_ (by omega)]);by_cases h16:i<16
  .refine ai_ (by simp;omega) ?_;have e4:w64 (4*(i:Int))=((4*i:Nat):Int):=by rw[an_ ⟨by omega,by omega⟩];omega
   refine aa_ (a:=(b.take 64).drop (4*i)) ?_ (aa_ (word_eq hb h16) (aa_ (ja_ hi) (aa_ (a:=cW_ b (i+1)) ?_ rfl)))
   .rw[e4,cP_ (by omega) (by omega) (by omega),qTn,qTn,hb]
   .have:wd b i (bc_ b i)=wordN b i:=by unfold wd;rw[if_pos h16]
    rw[←this];exact hset
  .refine ah_ (by simp;omega) ?_;have ek:∀k:Nat,k<=16->w64 ((i:Int)-(k:Int))=((i-k:Nat):Int):=λk hk=>by rw[an_ ⟨by omega,by omega⟩];omega
   have eg:∀k:Nat,0<k->k<=16->ak_ (Yb.of (cW_ b i)).l (w64 ((i:Int)-(k:Int)))=some (ao_ (bc_ b i) (i-k)):=λk h0 hk=>by
    rw[ek k hk,hl,hc_ (by rw[ln_ b (Nat.le_of_lt hi)];omega),schedA_nth b (by omega)]
   have eb:∀k:Nat,0<k->k<=16->cc_ 64 (w64 ((i:Int)-(k:Int)))=some ():=λk h0 hk=>by
    rw[ek k hk];exact ja_ (by omega)
   refine aa_ (eb 15 (by omega) (by omega)) (aa_ (eg 15 (by omega) (by omega)) (aa_ (eb 2 (by omega) (by omega)) (aa_ (eg 2 (by omega) (by omega)) (aa_ (right7 _) (aa_ (right18 _) (aa_ (right17 _) (aa_ (right19 _) (aa_ (eb 16 (by omega) (by omega)) (aa_ (eg 16 (by omega) (by omega)) (aa_ (eb 7 (by omega) (by omega)) (aa_ (eg 7 (by omega) (by omega)) (aa_ (ja_ hi) (aa_ (a:=cW_ b (i+1)) ?_ rfl)))))))))))));rw[wd_hi h16]at hset;exact hset
 .unfold fT_;exact ah_ (by simp) rfl
theorem room1{α:Type}{n:Nat}{xs ys:List α}(h:(xs.length+ys.length)*n<=140737488355328)(h2:xs.length+ys.length<=140737488355328):room n xs ys=some (xs++ys):=dj_ (by omega) h
theorem pn_{b:Str}(hb:b.length=64):eQ_ b=some (bc_ b 64):=by
 unfold eQ_;refine aa_ (a:=bc_ b 16) ?_ (aa_ (a:=bc_ b 64) ?_ rfl)
 .refine bh_ (T:=λi=>((i:Int),bc_ b i)) 16 (by decide) (λi hi => ?_) ?_
  .unfold e8_;refine ai_ (by simp;omega) ?_;have e4:w64 (4*(i:Int))=((4*i:Nat):Int):=by rw[an_ ⟨by omega,by omega⟩];omega
   have ej:∀j:Nat,j<4->w64 (w64 (4*(i:Int))+(j:Int))=((4*i+j:Nat):Int):=λj hj=>by rw[e4,an_ ⟨by omega,by omega⟩];omega
   have h0:bB_ b (w64 (4*(i:Int)))=some (hA_ b (4*i)):=by rw[e4];exact j0_ (by omega)
   have hj:∀j:Nat,j<4->bB_ b (w64 (w64 (4*(i:Int))+(j:Int)))=some (hA_ b (4*i+j)):=λj hj=>by rw[ej j hj];exact j0_ (by omega)
   refine aa_ h0 (aa_ (hj 1 (by omega)) (aa_ (hj 2 (by omega)) (aa_ (hj 3 (by omega)) (aa_ (a:=bc_ b (i+1)) ?_ (by rw[aw_ (by omega)])))));rw[room1 (by simp[b2_];omega) (by simp[b2_];omega),bc_];have:wd b i (bc_ b i)=wordN b i:=by unfold wd;rw[if_pos hi]
   rw[this];rfl
  .unfold e8_;exact ah_ (by simp) rfl
 .refine bh_ (T:=λk=>(((16+k:Nat):Int),bc_ b (16+k))) 48 (by decide) (λk hk => ?_) ?_
  .unfold e9_;refine ai_ (by simp;omega) ?_;have ek:∀j:Nat,j<=16->w64 (((16+k:Nat):Int)-(j:Int))=((16+k-j:Nat):Int):=λj hj=>by rw[an_ ⟨by omega,by omega⟩];omega
   have eg:∀j:Nat,0<j->j<=16->ak_ (bc_ b (16+k)) (w64 (((16+k:Nat):Int)-(j:Int)))=some (ao_ (bc_ b (16+k)) (16+k-j)):=λj h0 hj=>by
    rw[ek j hj,hc_ (by rw[b2_];omega)]
   refine aa_ (eg 15 (by omega) (by omega)) (aa_ (eg 2 (by omega) (by omega)) (aa_ (rotr7 _) (aa_ (rotr18 _) (aa_ (rotr17 _) (aa_ (rotr19 _) (aa_ (eg 16 (by omega) (by omega)) (aa_ (eg 7 (by omega) (by omega)) (aa_ (a:=bc_ b (16+(k+1))) ?_ ?_))))))))
   .rw[room1 (by simp[b2_];omega) (by simp[b2_];omega),←Nat.add_assoc,bc_];rw[wd_hi (by omega)];rfl
   .show some (Step.next (w64 (((16+k:Nat):Int)+1),_))=_;rw[aw_ (by omega)];rfl
  .unfold e9_;exact ah_ (by simp) rfl
theorem bE_{n:Nat}(h:n<9223372036854775808):n<BIG:=Nat.lt_trans h (by decide)
def t1N(W:List Int)(i:Nat)(s:Xa):Int:=IntKind.u32.wrap ((IntKind.u32.wrap ((IntKind.u32.wrap ((IntKind.u32.wrap (s.a7_+(bd_ .u32 (bd_ .u32 (rot s.a4_ 6) (rot s.a4_ 11)) (rot s.a4_ 25))))+(bd_ .u32 (b4_ .u32 s.a4_ s.a5_) (b4_ .u32 (bd_ .u32 4294967295 s.a4_) s.a6_))))+ao_ glob0.l i))+ao_ W i)
def t2N(s:Xa):Int:=IntKind.u32.wrap ((bd_ .u32 (bd_ .u32 (rot s.a0_ 2) (rot s.a0_ 13)) (rot s.a0_ 22))+(bd_ .u32 (bd_ .u32 (b4_ .u32 s.a0_ s.a1_) (b4_ .u32 s.a0_ s.a2_)) (b4_ .u32 s.a1_ s.a2_)))
def rnd(W:List Int)(i:Nat)(s:Xa):Xa:=Xa.mk (IntKind.u32.wrap (t1N W i s+t2N s)) s.a0_ s.a1_ s.a2_ (IntKind.u32.wrap (s.a3_+t1N W i s)) s.a4_ s.a5_ s.a6_
def rnds(W:List Int)(s:Xa):Nat->Xa | 0=>s|i+1=>rnd W i (rnds W s i)
theorem glob_len:glob0.l.length=64:=by kernel_rfl
def mixS(s:Xa)(p:Str):Xa :=
 let v:=rnds (bc_ p 64) s 64
 Xa.mk (IntKind.u32.wrap (s.a0_+v.a0_)) (IntKind.u32.wrap (s.a1_+v.a1_)) (IntKind.u32.wrap (s.a2_+v.a2_)) (IntKind.u32.wrap (s.a3_+v.a3_)) (IntKind.u32.wrap (s.a4_+v.a4_)) (IntKind.u32.wrap (s.a5_+v.a5_)) (IntKind.u32.wrap (s.a6_+v.a6_)) (IntKind.u32.wrap (s.a7_+v.a7_))
theorem mix2_eq(v s:Xa):aj_ (nn_ v) BIG (0,s)=some (Xa.mk (IntKind.u32.wrap (s.a0_+v.a0_)) (IntKind.u32.wrap (s.a1_+v.a1_)) (IntKind.u32.wrap (s.a2_+v.a2_)) (IntKind.u32.wrap (s.a3_+v.a3_)) (IntKind.u32.wrap (s.a4_+v.a4_)) (IntKind.u32.wrap (s.a5_+v.a5_)) (IntKind.u32.wrap (s.a6_+v.a6_)) (IntKind.u32.wrap (s.a7_+v.a7_))):=by
 cases v
 cases s
 kernel_rfl
theorem mix_eq{p:Str}(hp:p.length=64)(s:Xa):lb_ s p=some (mixS s p):=by
 unfold lb_;have hW:(Yb.of (bc_ p 64)).l=bc_ p 64:=l_of64 (b2_ p 64);refine aa_ (schedule_eq hp) (aa_ (a:=rnds (bc_ p 64) s 64) ?_ (aa_ (mix2_eq _ _) rfl));refine bh_ (T:=λi=>((i:Int),rnds (bc_ p 64) s i)) 64 (by decide) (λi hi => ?_) ?_
 .unfold jV_;refine ai_ (by simp;omega) ?_;refine aa_ (right6 _) (aa_ (right11 _) (aa_ (right25 _) (aa_ (ja_ hi) (aa_ (hc_ (by rw[glob_len];exact hi)) (aa_ (ja_ hi) (aa_ (a:=ao_ (bc_ p 64) i) ?_ (aa_ (right2 _) (aa_ (right13 _) (aa_ (right22 _) ?_)))))))))
  .rw[hW];exact hc_ (by rw[b2_];exact hi)
  .rw[aw_ (by omega)];rfl
 .unfold jV_;exact ah_ (by simp) rfl
def tupN(s:Xa)(i:Nat)(K W:List Int):Int×Int×Int×Int×Int×Int×Int×Int×Int×(List Int)×(List Int):=(s.a0_,s.a1_,s.a2_,s.a3_,s.a4_,s.a5_,s.a6_,s.a7_,(i:Int),K,W)
theorem block_eq{p:Str}(hp:p.length=64)(s:Xa):hr_ s.l p=some (mixS s p).l:=by
 unfold hr_;refine aa_ (a:=glob0.l) (by kernel_rfl) (aa_ (pn_ hp) (aa_ (a:=s.a0_) rfl (aa_ (a:=s.a1_) rfl (aa_ (a:=s.a2_) rfl (aa_ (a:=s.a3_) rfl (aa_ (a:=s.a4_) rfl (aa_ (a:=s.a5_) rfl (aa_ (a:=s.a6_) rfl (aa_ (a:=s.a7_) rfl (aa_ (a:=let v:=rnds (bc_ p 64) s 64;(v.a0_,v.a1_,v.a2_,v.a3_,v.a4_,v.a5_,v.a6_,v.a7_)) ?_ (aa_ (a:=s.a0_) rfl (aa_ (a:=s.a1_) rfl (aa_ (a:=s.a2_) rfl (aa_ (a:=s.a3_) rfl (aa_ (a:=s.a4_) rfl (aa_ (a:=s.a5_) rfl (aa_ (a:=s.a6_) rfl (aa_ (a:=s.a7_) rfl rfl))))))))))))))))));refine bh_ (T:=λi=>tupN (rnds (bc_ p 64) s i) i glob0.l (bc_ p 64)) 64 (by decide) (λi hi => ?_) ?_
 .unfold g4_ tupN;refine ai_ (by simp;omega) ?_;refine aa_ (rotr6 _) (aa_ (rotr11 _) (aa_ (rotr25 _) (aa_ (hc_ (by rw[glob_len];exact hi)) (aa_ (hc_ (by rw[b2_];exact hi)) (aa_ (rotr2 _) (aa_ (rotr13 _) (aa_ (rotr22 _) ?_)))))));simp only[aw_ (show i<9223372036854775807 by omega)];rfl
 .unfold g4_ tupN;exact ah_ (by simp) rfl
theorem u8_toNat(b:UInt8):UInt8.ofNat ((b.toNat:Int)).toNat=b:=by simp
theorem bytesS_strI(s:Str):bytesS (cr_ s)=s:=by
 unfold bytesS cr_;rw[List.map_map]
 conv=>rhs;rw[←List.map_id s]
 exact List.map_congr_left λb _=>u8_toNat b
theorem fL_(a b:List Int):bytesS (a++b)=bytesS a++bytesS b:=List.map_append
theorem iw_(a:List Int):(bytesS a).length=a.length:=List.length_map _
theorem fW_(s:Str):(cr_ s).length=s.length:=List.length_map _
def b3_(n:Nat):Nat:=(119-n%64)%64
theorem mG_(n:Nat):(n+b3_ n)%64=55:=by unfold b3_;omega
theorem zeros_lt(n:Nat){k:Nat}(h:k<b3_ n):(n+k)%64≠55:=by unfold b3_ at h;omega
def lenL(n:Nat):List Int:=(List.range 8).map λj=>IntKind.u8.wrap ((IntKind.u64.wrap (8*(IntKind.u64.wrap (n:Int)))).fdiv (2^(56-8*j)))
def padL(s:Str):List Int:=cr_ s++[128]++List.replicate (b3_ s.length) 0
def padS(s:Str):Str:=bytesS (padL s++lenL s.length)
theorem lenL_take(n:Nat){k:Nat}(hk:k<8):(lenL n).take (k+1)=(lenL n).take k++[IntKind.u8.wrap ((IntKind.u64.wrap (8*(IntKind.u64.wrap (n:Int)))).fdiv (2^(56-8*k)))]:=by
 rw[List.take_add_one];simp[lenL,hk]
theorem n5_(s:Str):(padL s).length=s.length+1+b3_ s.length:=by
 simp[padL,fW_];omega
theorem n6_(s:Str):(padS s).length=s.length+9+b3_ s.length:=by
 unfold padS;rw[iw_,qLa,n5_];simp[lenL];omega
theorem padS_mod(s:Str):(padS s).length%64=0:=by
 rw[n6_];have:=mG_ s.length;omega
theorem tmod64(n:Nat):((n:Int).tmod 64 != 56)=decide (n%64≠56):=by
 have:(n:Int).tmod 64=((n%64:Nat):Int):=by rw[Int.tmod_eq_emod_of_nonneg (by omega)];rfl
 rw[this,Bool.eq_iff_iff];simp only[bne_iff_ne,ne_eq,qDe];omega
theorem pad_eq(s:Str)(hs:s.length<1099511627776):iY_ s=some (padS s):=by
 have hz:b3_ s.length<64:=by unfold b3_;omega
 unfold iY_;refine aa_ (a:=cr_ s) (by rw[room1 (by simp[fW_];omega) (by simp[fW_];omega)];rfl) (aa_ (a:=cr_ s++[128]) (room1 (by simp[fW_];omega) (by simp[fW_];omega)) (aa_ (a:=padL s) ?_ (aa_ (a:=padL s++lenL s.length) ?_ rfl)))
 .have h0:cr_ s++[128]=cr_ s++[128]++List.replicate 0 (0:Int):=by simp
  rw[h0];refine bh_ (T:=λk=>cr_ s++[128]++List.replicate k 0) (b3_ s.length) (Nat.lt_trans hz (by decide)) (λk hk => ?_) ?_
  .unfold jU_;have hl:(cr_ s++[128]++List.replicate k (0:Int)).length=s.length+1+k:=by simp[fW_];omega
   refine ai_ ?_ (aa_ (a:=cr_ s++[128]++List.replicate (k+1) 0) ?_ rfl)
   .rw[hl,tmod64];have:=zeros_lt s.length hk;simp only[qDe];omega
   .rw[room1 (by rw[hl];simp;omega) (by rw[hl];simp;omega),List.replicate_succ',List.append_assoc]
  .unfold jU_;refine ah_ ?_ rfl;have hl:(cr_ s++[128]++List.replicate (b3_ s.length) (0:Int)).length=s.length+1+b3_ s.length:=by simp[fW_];omega
   rw[hl,tmod64];have:=mG_ s.length;simp only[qDf];omega
 .have h0:padL s=padL s++(lenL s.length).take 0:=by simp
  have h1:lenL s.length=(lenL s.length).take 8:=by rw[List.take_of_length_le (by simp[lenL])]
  rw[h1];refine Eq.trans ?_ (bh_ (body:=hv_ s) (T:=λk=>((56:Int)-8*(k:Int),padL s++(lenL s.length).take k)) 8 (by decide) (λk hk => ?_) ?_)
  .rw[List.take_zero,List.append_nil];rfl
  .unfold hv_;refine ai_ (by simp;omega) (aa_ (a:=(IntKind.u64.wrap (8*(IntKind.u64.wrap (s.length:Int)))).fdiv (2^(56-8*k))) ?_ (aa_ (a:=padL s++(lenL s.length).take (k+1)) ?_ ?_))
   .rw[shrI_eq (by show(0:Int)<=56-8*(k:Int);omega) (by show(56:Int)-8*(k:Int)<=(64:Nat);omega)]
    congr 3
    show((56:Int)-8*(k:Int)).toNat=_;omega
   .have hl:=n5_ s;have hk8:((lenL s.length).take k).length<=8:=by simp[lenL];omega
    rw[room1 (by rw[qLa,hl];simp only[qLc,List.length_nil];omega) (by rw[qLa,hl];simp only[qLc,List.length_nil];omega),lenL_take _ hk,List.append_assoc]
   .show some (Step.next (w64 ((56:Int)-8*(k:Int)-8),_))=_;rw[an_ ⟨by omega,by omega⟩]
    congr 3
    omega
  .unfold hv_;exact ah_ (by simp) rfl
theorem big8(x:Int):ey_ x 8=some (let q:=λy:Int=>IntKind.u64.wrap (y.tdiv 256);let b:=λy:Int=>IntKind.u8.wrap (y.tmod 256);bytesS [b (q (q (q (q (q (q (q x))))))),b (q (q (q (q (q (q x)))))),b (q (q (q (q (q x))))),b (q (q (q (q x)))),b (q (q (q x))),b (q (q x)),b (q x),b x]):=by kernel_rfl
theorem big4(x:Int):ey_ x 4=some (let q:=λy:Int=>IntKind.u64.wrap (y.tdiv 256);let b:=λy:Int=>IntKind.u8.wrap (y.tmod 256);bytesS [b (q (q (q x))),b (q (q x)),b (q x),b x]):=by kernel_rfl
theorem q_eq{x:Int}(h0:0<=x)(h:x<18446744073709551616):IntKind.u64.wrap (x.tdiv 256)=x/256:=by
 rw[Int.tdiv_eq_ediv_of_nonneg h0,wu64];omega
theorem b_eq{x:Int}(h0:0<=x):IntKind.u8.wrap (x.tmod 256)=x%256:=by
 rw[Int.tmod_eq_emod_of_nonneg h0,wu8];omega
theorem fdiv_pos(x:Int)(n:Nat):x.fdiv (2^n)=x/2^n:=Int.fdiv_eq_ediv_of_nonneg _ (Int.le_of_lt (Int.pow_pos (by decide)))
theorem big8_eq{x:Int}(h0:0<=x)(h:x<18446744073709551616):ey_ x 8=some (bytesS ((List.range 8).map λj=>IntKind.u8.wrap (x.fdiv (2^(56-8*j))))):=by
 have hd:∀y:Int,0<=y->y<18446744073709551616->0<=y/256/\y/256<18446744073709551616:=λy h1 h2=>by omega
 have a1:=hd x h0 h;have a2:=hd _ a1.1 a1.2;have a3:=hd _ a2.1 a2.2;have a4:=hd _ a3.1 a3.2;have a5:=hd _ a4.1 a4.2;have a6:=hd _ a5.1 a5.2;have a7:=hd _ a6.1 a6.2;rw[big8];simp only[q_eq h0 h,q_eq a1.1 a1.2,q_eq a2.1 a2.2,q_eq a3.1 a3.2,q_eq a4.1 a4.2,q_eq a5.1 a5.2,q_eq a6.1 a6.2,b_eq h0,b_eq a1.1,b_eq a2.1,b_eq a3.1,b_eq a4.1,b_eq a5.1,b_eq a6.1,b_eq a7.1];have e:((List.range 8).map λj=>IntKind.u8.wrap (x.fdiv (2^(56-8*j))))=[x/72057594037927936%256,x/281474976710656%256,x/1099511627776%256,x/4294967296%256,x/16777216%256,x/65536%256,x/256%256,x/1%256]:=by
  simp only[wu8,fdiv_pos];rfl
 rw[e];have e2:x/256/256=x/65536:=by omega
 have e3:x/65536/256=x/16777216:=by omega
 have e4:x/16777216/256=x/4294967296:=by omega
 have e5:x/4294967296/256=x/1099511627776:=by omega
 have e6:x/1099511627776/256=x/281474976710656:=by omega
 have e7:x/281474976710656/256=x/72057594037927936:=by omega
 simp only[e2,e3,e4,e5,e6,e7,Int.ediv_one]
theorem padded_eq(s:Str)(hs:s.length<1099511627776):gn_ s=some (padS s):=by
 have hz:b3_ s.length<64:=by unfold b3_;omega
 have hlen:IntKind.u64.wrap ((IntKind.u64.wrap (s.length:Int))*8)=IntKind.u64.wrap (8*(IntKind.u64.wrap (s.length:Int))):=by rw[Int.mul_comm]
 have hP:bytesS (padL s)=s++[128]++List.replicate (b3_ s.length) 0:=by
  unfold padL;rw[fL_,fL_,bytesS_strI]
  congr 1
  simp[bytesS]
 have hl:∀k:Nat,(s++[128]++List.replicate k (0:UInt8)).length=s.length+1+k:=λk=>by simp;omega
 unfold gn_;refine aa_ (a:=s++[128]) (hO_ (by simp;omega)) (aa_ (a:=bytesS (padL s)) ?_ (aa_ (a:=bytesS (lenL s.length)) ?_ (aa_ (a:=padS s) ?_ rfl)))
 .rw[hP];rw[show aj_ do_ BIG (s++[128])=aj_ do_ BIG (s++[128]++List.replicate 0 (0:UInt8))by simp];refine bh_ (T:=λk=>s++[128]++List.replicate k (0:UInt8)) (b3_ s.length) (Nat.lt_trans hz (by decide)) (λk hk => ?_) ?_
  .unfold do_;refine ai_ ?_ (aa_ (a:=s++[128]++List.replicate (k+1) (0:UInt8)) ?_ rfl)
   .rw[hl,tmod64];have:=zeros_lt s.length hk;simp only[qDe];omega
   .rw[hO_ (by rw[hl];simp;omega),List.replicate_succ',List.append_assoc]
  .unfold do_;refine ah_ ?_ rfl;rw[hl,tmod64];have:=mG_ s.length;simp only[qDf];omega
 .rw[hlen];have hb:0<=IntKind.u64.wrap (8*(IntKind.u64.wrap (s.length:Int)))/\IntKind.u64.wrap (8*(IntKind.u64.wrap (s.length:Int)))<18446744073709551616:=by
   rw[wu64];omega
  rw[big8_eq hb.1 hb.2];rfl
 .unfold padS;rw[fL_];refine hO_ ?_;rw[iw_,iw_,n5_];simp[lenL];omega
def init:Xa:=Xa.mk 1779033703 3144134277 1013904242 2773480762 1359893119 2600822924 528734635 1541459225
def sums(t:Str):Nat->Xa | 0=>init|k+1=>mixS (sums t k) ((t.drop (64*k)).take 64)
def outL(h:Xa):List Int:=h.l.flatMap λx=>[IntKind.u8.wrap (x.fdiv (2^24)),IntKind.u8.wrap (x.fdiv (2^16)),IntKind.u8.wrap (x.fdiv (2^8)),IntKind.u8.wrap x]
def shaS(s:Str):Str:=bytesS (outL (sums (padS s) ((padS s).length/64)))
theorem out_eq(h:Xa):aj_ (no_ h) BIG (0,[])=some (outL h):=by
 cases h
 kernel_rfl
theorem Sum_eq(s:Str)(hs:s.length<1099511627776):lc_ s=some (shaS s):=by
 have hm:=padS_mod s;have hl:(padS s).length<1099511627900:=by
  rw[n6_];have hz:b3_ s.length<64:=by unfold b3_;omega
  omega
 unfold lc_;refine aa_ (pad_eq s hs) (aa_ (a:=sums (padS s) ((padS s).length/64)) ?_ (aa_ (a:=List.replicate 32 0) (by kernel_rfl) (aa_ (out_eq _) rfl)));generalize padS s=t at *
 have h0:(t,Xa.mk 1779033703 3144134277 1013904242 2773480762 1359893119 2600822924 528734635 1541459225)=(t.drop (64*0),sums t 0):=by simp[sums,init]
 rw[h0];refine bh_ (T:=λk=>(t.drop (64*k),sums t k)) (t.length/64) (bE_ (by omega)) (λk hk => ?_) ?_
 .unfold jW_;have hk':64*k+64<=t.length:=by omega
  have hd:(t.drop (64*k)).length=t.length-64*k:=List.length_drop;refine ai_ ?_ (aa_ (a:=(t.drop (64*k)).take 64) ?_ (aa_ (mix_eq (by rw[List.length_take,hd];omega) _) (aa_ (a:=t.drop (64*(k+1))) ?_ rfl)))
  .have:t.drop (64*k)≠[]:=λe=>by rw[e]at hd;simp at hd;omega
   cases h:t.drop (64*k)with
   | nil=>exact absurd h this
   | cons x l=>rfl
  .show bo_ (t.drop (64*k)) 0 64=_;rw[cP_ (by omega) (by omega) (by omega)];rfl
  .show bo_ (t.drop (64*k)) 64 ((t.drop (64*k)).length:Int)=_;rw[cP_ (by omega) (by omega) (by omega),qTn,List.take_length];show some ((t.drop (64*k)).drop 64)=_;rw[List.drop_drop];rfl
 .unfold jW_;have:t.drop (64*(t.length/64))=[]:=List.drop_of_length_le (by omega);rw[this];exact ah_ rfl rfl
theorem word_bound(h:Xa)(p:Str):∀x∈(mixS h p).l,0<=x/\x<4294967296:=by
 have hw:∀n:Int,0<=IntKind.u32.wrap n/\IntKind.u32.wrap n<4294967296:=λn=>by
  rw[IntKind.wrap_u32];omega
 intro x hx;simp only[mixS,Xa.l,List.mem_cons,List.not_mem_nil,or_false]at hx;rcases hx with rfl|rfl|rfl|rfl|rfl|rfl|rfl|rfl<;>exact hw _
theorem sums_bound(t:Str):∀k,∀x∈(sums t k).l,0<=x/\x<4294967296
 | 0=>by
  intro x hx;simp only[sums,init,Xa.l,List.mem_cons,List.not_mem_nil,or_false]at hx;omega
 | k+1=>word_bound _ _
theorem big4_eq{x:Int}(h0:0<=x)(h:x<4294967296):ey_ (IntKind.u64.wrap x) 4=some (bytesS [IntKind.u8.wrap (x.fdiv (2^24)),IntKind.u8.wrap (x.fdiv (2^16)),IntKind.u8.wrap (x.fdiv (2^8)),IntKind.u8.wrap x]):=by
 have hx:IntKind.u64.wrap x=x:=by rw[wu64];omega
 have hd:∀y:Int,0<=y->y<18446744073709551616->0<=y/256/\y/256<18446744073709551616:=λy h1 h2=>by omega
 have a1:=hd x h0 (by omega);have a2:=hd _ a1.1 a1.2;have a3:=hd _ a2.1 a2.2;rw[hx,big4];simp only[q_eq h0 (show x<18446744073709551616 by omega),q_eq a1.1 a1.2,q_eq a2.1 a2.2,b_eq h0,b_eq a1.1,b_eq a2.1,b_eq a3.1];have e:[IntKind.u8.wrap (x.fdiv (2^24)),IntKind.u8.wrap (x.fdiv (2^16)),IntKind.u8.wrap (x.fdiv (2^8)),IntKind.u8.wrap x]=[x/16777216%256,x/65536%256,x/256%256,x%256]:=by
  simp only[wu8,fdiv_pos];rfl
 rw[e];have e2:x/256/256=x/65536:=by omega
 have e3:x/65536/256=x/16777216:=by omega
 simp only[e2,e3]
theorem ref_Sum_eq(s:Str)(hs:s.length<1099511627776):js_ s=some (shaS s):=by
 have hm:=padS_mod s;have hl:(padS s).length<1099511627900:=by
  rw[n6_];have hz:b3_ s.length<64:=by unfold b3_;omega
  omega
 unfold js_ shaS;refine aa_ (padded_eq s hs) ?_;generalize padS s=t at *
 refine aa_ (a:=(sums t (t.length/64)).l) ?_ (aa_ (a:=bytesS (outL (sums t (t.length/64)))) ?_ rfl)
 .refine bh_ (T:=λk=>(((64*k:Nat):Int),(sums t k).l)) (t.length/64) (bE_ (by omega)) (λk hk => ?_) ?_
  .unfold iU_;have e64:w64 (((64*k:Nat):Int)+64)=((64*(k+1):Nat):Int):=by rw[an_ ⟨by omega,by omega⟩];omega
   refine ai_ (by simp;omega) (aa_ (a:=(t.drop (64*k)).take 64) ?_ (aa_ (block_eq (by rw[List.length_take,List.length_drop];omega) _) (by rw[e64];rfl)));show bo_ t ((64*k:Nat):Int) (w64 (((64*k:Nat):Int)+64))=_;rw[e64,cP_ (by omega) (by omega) (by omega),qTn,qTn,List.drop_take]
   congr 2
   omega
  .unfold iU_;exact ah_ (by simp;omega) rfl
 .have hb:=sums_bound t (t.length/64);generalize sums t (t.length/64)=h at *
  refine bh_ (T:=λk=>(bytesS ((h.l.take k).flatMap λx=>[IntKind.u8.wrap (x.fdiv (2^24)),IntKind.u8.wrap (x.fdiv (2^16)),IntKind.u8.wrap (x.fdiv (2^8)),IntKind.u8.wrap x]),(k:Int),h.l)) 8 (by decide) (λk hk => ?_) ?_
  .unfold iV_;have hl8:h.l.length=8:=rfl;have hk8:k<h.l.length:=by omega
   have hx:=hb h.l[k] (List.getElem_mem hk8);refine ai_ (by simp;omega) (aa_ (as_ hk8) (aa_ (big4_eq hx.1 hx.2) (aa_ (a:=bytesS ((h.l.take (k+1)).flatMap λx=>[IntKind.u8.wrap (x.fdiv (2^24)),IntKind.u8.wrap (x.fdiv (2^16)),IntKind.u8.wrap (x.fdiv (2^8)),IntKind.u8.wrap x])) ?_ (by rw[aw_ (by omega)]))));rw[List.take_add_one,List.getElem?_eq_getElem hk8,List.flatMap_append,fL_];have hle:(bytesS ((h.l.take k).flatMap λx=>[IntKind.u8.wrap (x.fdiv (2^24)),IntKind.u8.wrap (x.fdiv (2^16)),IntKind.u8.wrap (x.fdiv (2^8)),IntKind.u8.wrap x])).length<=32:=by
    rw[iw_];have hf:∀l:List Int,(l.flatMap λx=>[IntKind.u8.wrap (x.fdiv (2^24)),IntKind.u8.wrap (x.fdiv (2^16)),IntKind.u8.wrap (x.fdiv (2^8)),IntKind.u8.wrap x]).length=4*l.length:=λl=>by
     induction l with
     | nil=>rfl
     | cons a l ih=>rw[List.flatMap_cons,qLa,ih];simp;omega
    rw[hf,List.length_take];omega
   rw[hO_ (by
    have h4:(bytesS [IntKind.u8.wrap (h.l[k].fdiv (2^24)),IntKind.u8.wrap (h.l[k].fdiv (2^16)),IntKind.u8.wrap (h.l[k].fdiv (2^8)),IntKind.u8.wrap h.l[k]]).length=4:=rfl;exact Nat.le_trans (Nat.add_le_add hle (Nat.le_of_eq h4)) (by decide))]
   rfl
  .unfold iV_;refine ah_ (by simp) ?_;rfl
def kx_(k:Int)(d:Str):Str:=shaS (bytesS [IntKind.u8.wrap k]++d)
theorem Score_eq(k:Int){d:Str}(hd:d.length<=1073741824):it_ k d=some (kx_ k d):=by
 unfold it_;have h1:(bytesS [IntKind.u8.wrap k]).length=1:=rfl;exact aa_ (hO_ (by rw[h1];omega)) (aa_ (Sum_eq _ (by rw[qLa,h1];omega)) rfl)
theorem ref_Score_eq{k:Int}(h0:0<=k)(h4:k<256){d:Str}(hd:d.length<=1073741824):hs_ k d=some (kx_ k d):=by
 unfold hs_;have e:(w64 (k.tmod 256+256)).tmod 256=k:=by
  rw[Int.tmod_eq_emod_of_nonneg h0,an_ ⟨by omega,by omega⟩,Int.tmod_eq_emod_of_nonneg (by omega)];omega
 rw[e];have h1:(bytesS [IntKind.u8.wrap k]).length=1:=rfl;exact aa_ (hO_ (by rw[h1];omega)) (aa_ (ref_Sum_eq _ (by rw[qLa,h1];omega)) rfl)
def mk(k:Int)(d:Str):Xi:=Xi.mk (kx_ k d) k d
theorem made_eq(k:Int){d:Str}(hd:d.length<=1073741824):gu_ k d=some (mk k d):=by
 unfold gu_;exact aa_ (Score_eq k hd) rfl
def cG_(sc:Str)(b:Xi):Bool:=b.Xc==sc
theorem at_loop{l:List Xi}(sc:Str)(hl:l.length<=9223372036854775807):iT_ l sc=some (at_ (cG_ sc) l):=by
 unfold iT_;have h:=aZ_ (body:=hq_ l sc) l (λi x=>if cG_ sc x then some ((i:Nat):Int)else none) (Nat.lt_of_le_of_lt hl (by decide)) (λi hi => ?_) ?_
 .rw[ba_ h (λr=>rfl) (x := -1) rfl,ha_]
 .unfold hq_;refine ai_ (bi_ hi) (aa_ (as_ hi) ?_);unfold cG_;cases hb:l[i].Xc==sc with
  | true=>rfl
  | false =>
   rw[aw_ (by omega)];rfl
 .unfold hq_;exact ah_ (bx_ _) rfl
theorem index_eq{s:Xx}(sc:Str)(hl:s.Xh.length<=9223372036854775807):fr_ s sc=some (at_ (cG_ sc) s.Xh):=by
 unfold fr_;refine aa_ (a:=at_ (cG_ sc) s.Xh) ?_ rfl;unfold bQ_;generalize s.Xh=l at *
 have h:=aZ_ (body:=bf_ l (λ(u1:Xi)=>Option.bind (hY_ u1 sc) λ(v1:Bool)=>some v1)) l (λi x=>if cG_ sc x then some ((i:Nat):Int)else none) (Nat.lt_of_le_of_lt hl (by decide)) (λi hi => ?_) ?_
 .rw[ba_ h (λr=>rfl) (x := -1) rfl,ha_]
 .unfold bf_;refine ai_ (bi_ hi) (aa_ (as_ hi) (aa_ (a:=cG_ sc l[i]) rfl ?_));cases hb:cG_ sc l[i]with
  | true=>rfl
  | false =>
   rw[aw_ (by omega)];rfl
 .unfold bf_;exact ah_ (bx_ _) rfl
def ix_(s:Xx)(sc:Str):Option Xi:=s.Xh.find? (cG_ sc)
theorem lp_{s:Xx}{sc:Str}{b:Xi}(h:ix_ s sc=some b):b∈s.Xh/\b.Xc=sc:=by
 unfold ix_ at h;refine⟨List.mem_of_find?_eq_some h,?_⟩;have:=List.find?_some h;unfold cG_ at this;exact eq_of_beq this
theorem at_ge{l:List Xi}(sc:Str):decide (at_ (cG_ sc) l>=0)=(l.find? (cG_ sc)).isSome:=by
 rcases kr_ (cG_ sc) l with⟨h1,h2⟩|⟨i,x,h1,h2,_⟩
 .rw[h1,h2];rfl
 .rw[h1,h2];simp
def getB(s:Xx)(sc:Str)(k:Int):Str×Int:=match ix_ s sc with|none=>([],35)|some b=>if b.Ya≠k then([],1)else if kx_ k b.Xl=sc then(b.Xl,0)else([],34)
theorem Get_eq{s:Xx}{k:Int}{sc:Str}(hs:s.Xh.length<=1073741824)(hd:∀b∈s.Xh,b.Xl.length<=1073741824):jw_ s sc k=some (getB s sc k):=by
 unfold jw_ getB;refine aa_ (index_eq sc (by omega)) ?_;rw[ks_];show(bif(ix_ s sc).isNone then _ else _)=_;cases hf:ix_ s sc with
 | none=>exact ai_ rfl rfl
 | some b =>
  obtain⟨h1,h2⟩:=lp_ hf;have hg:ak_ s.Xh (at_ (cG_ sc) s.Xh)=some b:=by
   rw[at_get (cG_ sc) s.Xh (by show(ix_ s sc).isNone=false;rw[hf];rfl)];exact hf
  refine ah_ rfl (aa_ hg ?_);simp only;by_cases hk:b.Ya≠k
  .rw[if_pos hk];exact ai_ (by simpa using hk) rfl
  .rw[if_neg hk];refine ah_ (by simpa using hk) (aa_ hg (aa_ hg (aa_ (made_eq k (hd b h1)) ?_)));have hk':b.Ya=k:=Classical.not_not.1 hk;by_cases hc:kx_ k b.Xl=sc
   .rw[if_pos hc];refine ah_ ?_ (aa_ hg rfl);have:b=mk k b.Xl:=by
     cases b
     simp only[mk,Xi.mk.injEq]at *
     exact⟨h2.trans hc.symm,hk',trivial⟩
    simp[←this]
   .rw[if_neg hc];refine ai_ ?_ rfl;have:b≠mk k b.Xl:=λe=>hc (by
     have:=congrArg Xi.Xc e;rw[h2]at this;exact this.symm)
    simp[this]
theorem ref_Get_eq{s:Xx}{k:Int}{sc:Str}(hk:0<=k/\k<256)(hs:s.Xh.length<=1073741824)(hd:∀b∈s.Xh,b.Xl.length<=1073741824):jt_ s sc k=some (getB s sc k):=by
 unfold jt_ getB;refine aa_ (at_loop sc (by omega)) ?_;rw[ks_];show(bif(ix_ s sc).isNone then _ else _)=_;cases hf:ix_ s sc with
 | none=>exact ai_ rfl rfl
 | some b =>
  obtain⟨h1,h2⟩:=lp_ hf;have hg:ak_ s.Xh (at_ (cG_ sc) s.Xh)=some b:=by
   rw[at_get (cG_ sc) s.Xh (by show(ix_ s sc).isNone=false;rw[hf];rfl)];exact hf
  refine ah_ rfl (aa_ hg ?_);simp only;by_cases hk':b.Ya≠k
  .rw[if_pos hk'];exact ai_ (by simpa using hk') rfl
  .rw[if_neg hk'];refine ah_ (by simpa using hk') (aa_ (ref_Score_eq hk.1 hk.2 (hd b h1)) ?_);by_cases hc:kx_ k b.Xl=sc
   .rw[if_pos hc];exact ah_ (by simp[hc]) rfl
   .rw[if_neg hc];exact ai_ (by simp[hc]) rfl
def BlOK(b:Xi):Prop:=1<=b.Ya/\b.Ya<=4/\b.Xl.length<=1024/\b.Xc.length=32
structure StOK(s:Xx):Prop where
 cap1:1<=s.Yr
 cap2:s.Yr<=4096
 len:(s.Xh.length:Int)<=s.Yr
 all:∀b∈s.Xh,BlOK b
 nd:(s.Xh.map (·.Xc)).Nodup
theorem StOK.size{s:Xx}(h:StOK s):s.Xh.length<=4096:=by
 have:=h.len;have:=h.cap2;omega
def badB(l:List Xi)(i:Nat)(b:Xi):Bool:=((!(decide (b.Ya>=1)&&decide (b.Ya<=4)))||decide ((b.Xl.length:Int)>1024))||((b.Xc.length:Int) != 32)||decide (at_ (cG_ b.Xc) (l.take i)>=0)
theorem pp_{s:Xx}(hl:s.Xh.length<=9223372036854775807):fn_ s=some (!(decide (s.Yr<1)||decide (s.Yr>4096)||decide ((s.Xh.length:Int)>s.Yr))&&((aB_ (λi b=>if badB s.Xh i b then some false else none) 0 s.Xh).getD true)):=by
 unfold fn_;cases hc:(decide (s.Yr<1)||decide (s.Yr>4096)||decide ((s.Xh.length:Int)>s.Yr))with
 | true=>rfl
 | false =>
  refine ah_ rfl ?_;have h:=aZ_ (body:=eP_ s) s.Xh (λi b=>if badB s.Xh i b then some false else none) (Nat.lt_of_le_of_lt hl (by decide)) (λi hi => ?_) ?_
  .rw[ba_ h (λr=>rfl) (x:=true) rfl];simp
  .unfold eP_;refine ai_ (bi_ hi) (aa_ (as_ hi) (aa_ (a:=decide (s.Xh[i].Ya>=1)&&decide (s.Xh[i].Ya<=4)) rfl ?_));refine aa_ (a:=badB s.Xh i s.Xh[i]) ?_ ?_
   .unfold badB;cases hc2:((!(decide (s.Xh[i].Ya>=1)&&decide (s.Xh[i].Ya<=4)))||decide ((s.Xh[i].Xl.length:Int)>1024))||((s.Xh[i].Xc.length:Int) != 32)with
    | true=>rfl
    | false =>
     refine ah_ rfl (aa_ (a:=s.Xh.take i) ?_ (aa_ (at_loop _ (by rw[List.length_take];omega)) rfl));rw[cP_ (by omega) (by omega) (by omega)];rfl
   .cases hb:badB s.Xh i s.Xh[i]with
    | true=>rfl
    | false =>
     rw[aw_ (by omega)];rfl
  .unfold eP_;exact ah_ (bx_ _) rfl
theorem nodup_iff{α:Type}{l:List α}:l.Nodup↔∀i x,l[i]? = some x->x∉l.take i:=by
  constructor
  .intro h i x hx hm;obtain⟨j,hj,e⟩:=List.getElem_of_mem hm;rw[List.length_take]at hj;rw[List.getElem_take]at e;have hi:i<l.length:=by
    rcases Nat.lt_or_ge i l.length with h'|h'
    .exact h'
    .rw[List.getElem?_eq_none h']at hx;cases hx
   rw[List.getElem?_eq_getElem hi]at hx;have:=(List.nodup_iff_pairwise_ne.1 h);have h2:=List.pairwise_iff_getElem.1 this j i (by omega) hi (by omega);exact h2 (e.trans (qSj hx).symm)
  .intro h;refine List.nodup_iff_pairwise_ne.2 (List.pairwise_iff_getElem.2 λi j hi hj hij e => ?_);refine h j l[j] (List.getElem?_eq_getElem hj) ?_;rw[←e];have:i<(l.take j).length:=by rw[List.length_take];omega
   have h3:=List.getElem_mem this
   rwa [List.getElem_take]at h3
theorem Right_iff{s:Xx}(hl:s.Xh.length<=9223372036854775807):∃b,fn_ s=some b/\(b=true↔StOK s):=by
 refine⟨_,pp_ hl,?_⟩;have hs:(aB_ (λi b=>if badB s.Xh i b then some false else none) 0 s.Xh).getD true=true↔∀i x,s.Xh[i]? = some x->badB s.Xh i x=false:=by
  cases h:aB_ (λi b=>if badB s.Xh i b then some false else none) 0 s.Xh with
  | none =>
   refine⟨λ_ i x hx => ?_,λ_=>rfl⟩;have:=scan_none.1 h i x hx;rw[Nat.zero_add]at this;cases hb:badB s.Xh i x with
   | false=>rfl
   | true=>rw[hb]at this;simp at this
  | some r =>
   obtain⟨i,x,h1,h2,_⟩:=mx_ h;rw[Nat.zero_add]at h2;refine⟨λe => ?_,λh' => ?_⟩
   .split at h2
    .obtain rfl:=qSj h2;cases e
    .cases h2
   .rw[h' i x h1]at h2;simp at h2
 rw[qAn,hs];have hbad:∀i x,badB s.Xh i x=false↔BlOK x/\x.Xc∉(s.Xh.take i).map (·.Xc):=λi x=>by
  unfold badB BlOK;rw[at_ge];have hf:((s.Xh.take i).find? (cG_ x.Xc)).isSome=false↔x.Xc∉(s.Xh.take i).map (·.Xc):=by
   rw[←Bool.not_eq_true,List.find?_isSome];simp only[cG_,List.mem_map,beq_iff_eq]
  rw[Bool.or_eq_false_iff,hf];refine and_congr ?_ Iff.rfl;simp only[Bool.or_eq_false_iff,Bool.not_eq_false',qAn,qDe,qDf,bne_eq_false_iff_eq];omega
 simp only[hbad];constructor
 .intro⟨h1,h2⟩;simp only[Bool.not_eq_true',Bool.or_eq_false_iff,qDf]at h1;refine⟨by omega,by omega,by omega,λb hb => ?_,nodup_iff.2 λi x hx => ?_⟩
  .obtain⟨i,hi,e⟩:=List.getElem_of_mem hb;exact(h2 i b (by rw[List.getElem?_eq_getElem hi,e])).1
  .rw[List.getElem?_map]at hx;cases hy:s.Xh[i]? with
   | none=>rw[hy]at hx;cases hx
   | some y =>
    rw[hy]at hx;obtain rfl:=qSj hx;rw[←List.map_take];exact(h2 i y hy).2
 .intro h;refine⟨?_,λi x hx=>⟨h.all x (List.mem_of_getElem? hx),?_⟩⟩
  .have:=h.cap1;have:=h.cap2;have:=h.len;simp only[Bool.not_eq_true',Bool.or_eq_false_iff,qDf];omega
  .have:=nodup_iff.1 h.nd i x.Xc (by rw[List.getElem?_map,hx];rfl)
   rwa [←List.map_take]at this
def nP(n:Nat):Nat:=max 1 ((n+1023)/1024)
theorem gB_{σ β:Type}{body:σ->Option (Step σ β)}{b:β}:∀{n m:Nat} {s:σ},aj_ body n s=some b->n<=m->aj_ body m s=some b
 | 0,_,_,h,_=>by cases h
 | n+1,0,_,_,hm=>by omega
 | n+1,m+1,s,h,hm=>by
  simp only[aj_]at h ⊢;cases hb:body s with
  | none=>rw[hb]at h;cases h
  | some x =>
   rw[hb]at h;cases x with
   | done b'=>exact h
   | next s'=>exact gB_ (n:=n) (m:=m) (s:=s') h (by omega)
def bA:Nat->Nat->Nat|n,0=>n|n,l+1=>(bA n l+31)/32
theorem lq_{n:Nat}(h:n<=1073741824):∀l,bA n l<=1073741824
 | 0=>h
 | l+1=>by have:=lq_ h l;unfold bA;omega
theorem quo32{n:Nat}(h:n<=1073741824):IntKind.i64.wrap ((w64 ((w64 ((n:Int)+32))-1)).tdiv 32)=(((n+31)/32:Nat):Int):=by
 rw[an_ (n:=(n:Int)+32) ⟨by omega,by omega⟩,an_ ⟨by omega,by omega⟩,Int.tdiv_eq_ediv_of_nonneg (by omega),g8_ ⟨by omega,by omega⟩];omega
theorem quo1024{n:Nat}(h:n<=1073741824):IntKind.i64.wrap ((w64 ((w64 ((n:Int)+1024))-1)).tdiv 1024)=(((n+1023)/1024:Nat):Int):=by
 rw[an_ (n:=(n:Int)+1024) ⟨by omega,by omega⟩,an_ ⟨by omega,by omega⟩,Int.tdiv_eq_ediv_of_nonneg (by omega),g8_ ⟨by omega,by omega⟩];omega
theorem max_nP(n:Nat):bV_ 1 (((n+1023)/1024:Nat):Int)=((nP n:Nat):Int):=by
 unfold bV_ nP;split<;>omega
theorem j3_{n:Nat}(hn:n<=1073741824){l:Nat}(hl:l<=1073741824):db_ (n:Int) (l:Int)=some ((bA (nP n) l:Nat):Int):=by
 unfold db_;rw[quo1024 hn,max_nP];have hb:=lq_ (n:=nP n) (by unfold nP;omega);refine aa_ (a:=((bA (nP n) l:Nat):Int)) ?_ rfl;refine bh_ (T:=λi=>(((bA (nP n) i:Nat):Int),(i:Int))) l (bE_ (by omega)) (λi hi => ?_) ?_
 .unfold ec_;refine ai_ (by simp;omega) ?_;show some (Step.next (IntKind.i64.wrap ((w64 ((w64 (((bA (nP n) i:Nat):Int)+32))-1)).tdiv 32),w64 ((i:Int)+1)))=_;rw[quo32 (hb i),aw_ (by omega)];rfl
 .unfold ec_;exact ah_ (by simp) rfl
def hN(n:Nat):Nat:=if n<=1 then 0 else if n<=32 then 1 else 2
theorem nP_le{n:Nat}(h:n<=1048576):1<=nP n/\nP n<=1024:=by unfold nP;omega
theorem bA_gt{n i:Nat}(h:n<=1024)(hi:i<hN n):1<bA n i:=by
 unfold hN at hi;split at hi
 .omega
 .split at hi
  .obtain rfl:i=0:=by omega
   show 1<n;omega
  .have:i=0\/i=1:=by omega
   rcases this with rfl|rfl
   .show 1<n;omega
   .show 1<(n+31)/32;omega
theorem bA_one{n:Nat}(h1:1<=n)(h:n<=1024):bA n (hN n)=1:=by
 unfold hN;split
 .show n=1;omega
 .split
  .show(n+31)/32=1;omega
  .show((n+31)/32+31)/32=1;omega
theorem hN_le(n:Nat):hN n<=2:=by unfold hN;split<;>(try split)<;>omega
theorem height_eq{n:Nat}(hn:n<=1048576):dK_ (n:Int)=some ((hN (nP n):Nat):Int):=by
 unfold dK_;obtain⟨n1,n2⟩:=nP_le hn;have h2:=hN_le (nP n);refine aa_ (a:=((hN (nP n):Nat):Int)) ?_ rfl;refine bh_ (T:=λi=>(i:Int)) (hN (nP n)) (bE_ (by omega)) (λi hi => ?_) ?_
 .unfold fb_;refine aa_ (j3_ (by omega) (by omega)) (ai_ ?_ (by rw[aw_ (by omega)]));have:=bA_gt n2 hi;simp only[qDe];omega
 .unfold fb_;refine aa_ (j3_ (by omega) (by omega)) (ah_ ?_ rfl);rw[bA_one n1 n2];rfl
theorem levels_ref{n:Nat}(hn:n<=1048576):gp_ (n:Int)=some ((hN (nP n):Nat):Int):=by
 unfold gp_;rw[quo1024 (by omega),max_nP];obtain⟨n1,n2⟩:=nP_le hn;have h2:=hN_le (nP n);refine aa_ (a:=((hN (nP n):Nat):Int)) ?_ rfl;refine bh_ (T:=λi=>(((bA (nP n) i:Nat):Int),(i:Int))) (hN (nP n)) (bE_ (by omega)) (λi hi => ?_) ?_
 .unfold go_;have:=bA_gt n2 hi;refine ai_ (by simp only[qDe];omega) ?_;have hb:=lq_ (n:=nP n) (by omega) i;simp only[quo32 hb,aw_ (show i<9223372036854775807 by omega)];rfl
 .unfold go_;refine ah_ ?_ rfl;simp only[bA_one n1 n2];rfl
def bS_{α σ ε:Type}(f:σ->α->σ ⊕ ε):σ->List α->σ ⊕ ε
 | s,[] => .inl s
 | s,x::l=>match f s x with
  | .inl s'=>bS_ f s' l
  | .inr e => .inr e
def outS{σ ε β:Type}(fin:σ->β)(err:ε->β):σ ⊕ ε->β | .inl s=>fin s | .inr e=>err e
def stepS{σ ε τ β:Type}(mk:σ->τ)(err:ε->β):σ ⊕ ε->Step τ β | .inl s => .next (mk s) | .inr e => .done (err e)
theorem loop_runS{α σ ε τ β:Type}{body:τ->Option (Step τ β)}(xs:List α)(f:σ->α->σ ⊕ ε)(mk:Nat->σ->τ)(Inv:Nat->σ->Prop)(fin:σ->β)(err:ε->β)(s0:σ)(hn:xs.length<BIG)(h0:Inv 0 s0)
  (hb:∀i s (h:i<xs.length),Inv i s->body (mk i s)=some (stepS (mk (i+1)) err (f s xs[i]))/\∀s',f s xs[i] = .inl s'->Inv (i+1) s')
  (he:∀s,Inv xs.length s->body (mk xs.length s)=some (.done (fin s))):aj_ body BIG (mk 0 s0)=some (outS fin err (bS_ f s0 xs)):=by
 refine dx_ (J:=λi t b=>∃s,Inv i s/\t=mk i s/\b=outS fin err (bS_ f s (xs.drop i))) xs.length hn (λt b hJ => ?_) (λi t b hi hJ => ?_) ⟨s0,h0,rfl,by simp⟩
 .obtain⟨s,hI,rfl,rfl⟩:=hJ;rw[he s hI];simp[bS_,outS]
 .obtain⟨s,hI,rfl,rfl⟩:=hJ;obtain⟨h1,h2⟩:=hb i s hi hI;rw[List.drop_eq_getElem_cons hi];simp only[bS_];cases hf:f s xs[i]with
  | inl s' =>
   rw[hf]at h1;exact .inr ⟨_,h1,s',h2 s' hf,rfl,rfl⟩
  | inr b =>
   rw[hf]at h1;exact .inl h1
theorem runS_inv'{σ ε:Type}{f:σ->Nat->σ ⊕ ε}(Inv:Nat->σ->Prop)(Q:ε->Prop):∀{m k:Nat} {s0:σ},Inv k s0->(∀i s,k<=i->i<k+m->Inv i s->(∀s',f s i = .inl s'->Inv (i+1) s')/\∀e,f s i = .inr e->Q e) ->
  (∀s,bS_ f s0 (List.range' k m) = .inl s->Inv (k+m) s)/\∀e,bS_ f s0 (List.range' k m) = .inr e->Q e
 | 0,k,s0,h0,_=>⟨λs e=>by simp only[List.range',bS_,Sum.inl.injEq]at e;subst e;exact h0,λe h=>by simp[bS_]at h⟩
 | m+1,k,s0,h0,h=>by
  obtain⟨h1,h2⟩:=h k s0 (Nat.le_refl _) (by omega) h0;simp only[List.range'_succ,bS_];cases hf:f s0 k with
  | inl s' =>
   obtain⟨i1,i2⟩:=runS_inv' Inv Q (m:=m) (h1 s' hf) λi s hi hi2=>h i s (by omega) (by omega)
   refine⟨λs e => ?_,i2⟩;have:=i1 s e
   rwa [show k+1+m=k+(m+1)by omega]at this
  | inr e =>
   refine⟨λs e'=>(by cases e'),λe' h' => ?_⟩;obtain rfl:=Sum.inr.inj h';exact h2 e hf
theorem n7_{σ ε:Type}{f:σ->Nat->σ ⊕ ε}(Inv:Nat->σ->Prop)(Q:ε->Prop){n:Nat}{s0:σ}(h0:Inv 0 s0)(h:∀i s,i<n->Inv i s->(∀s',f s i = .inl s'->Inv (i+1) s')/\∀e,f s i = .inr e->Q e) :
  (∀s,bS_ f s0 (List.range n) = .inl s->Inv n s)/\∀e,bS_ f s0 (List.range n) = .inr e->Q e:=by
 have:=runS_inv' (f:=f) Inv Q (m:=n) (k:=0) (s0:=s0) h0 λi s _ hi=>h i s (by omega)
 rwa [Nat.zero_add,←List.range_eq_range']at this
def blk(s:Xx)(sc:Str)(k:Int):Str×Int:=if(getB s sc k).2=1 then([],2)else getB s sc k
theorem ky_{s:Xx}(hs:StOK s)(sc:Str)(k:Int):(blk s sc k).1.length<=1024:=by
 unfold blk;split
 .simp
 .unfold getB;split
  .simp
  .rename_i b hb;split
   .simp
   .split
    .exact(hs.all b (lp_ hb).1).2.2.1
    .simp
theorem jb_{s:Xx}(hs:StOK s)(sc:Str){k:Int}(hk:0<=k/\k<256):d6_ s sc k=some (blk s sc k):=by
 unfold d6_ blk;refine aa_ (ref_Get_eq hk (by have:=hs.size;omega) λb hb=>by have:=(hs.all b hb).2.2.1;omega) ?_;by_cases h:(getB s sc k).2=1
 .rw[if_pos h];exact ai_ (by simp[h]) rfl
 .rw[if_neg h];exact ah_ (by simp[h]) rfl
theorem ep_{s:Xx}(hs:StOK s)(sc:Str)(k:Int){seen:List Str}(hn:seen.length<=1073741824) :
  bN_ (Xj.mk s seen) sc k=some (if(blk s sc k).2=0 then((blk s sc k).1,0,Xj.mk s (seen++[sc]))else([],(blk s sc k).2,Xj.mk s seen)):=by
 unfold bN_;refine aa_ (Get_eq (by have:=hs.size;show s.Xh.length<=_;omega) λb hb=>by have:=(hs.all b hb).2.2.1;omega) (aa_ (a:=(blk s sc k).2) ?_ ?_)
 .unfold blk;by_cases h:(getB s sc k).2=1
  .rw[if_pos h];exact ai_ (by simp[h]) rfl
  .rw[if_neg h];exact ah_ (by simp[h]) rfl
 .by_cases h:(blk s sc k).2=0
  .rw[if_pos h];refine ah_ (by simp[h]) (aa_ (dj_ (by simp;omega) (by simp;omega)) ?_);have:(getB s sc k).1=(blk s sc k).1:=by
    unfold blk at h ⊢;split
    .rename_i h1;rw[if_pos h1]at h;cases h
    .rfl
   rw[this]
  .rw[if_neg h];exact ai_ (by simp[h]) rfl
def ae_(l:Nat):Nat:=1024*32^l
theorem mH_(l:Nat):1024<=ae_ l:=by
 unfold ae_;have:1<=32^l:=Nat.pos_of_ne_zero (by simp);omega
theorem pr_(l:Nat):ae_ (l+1)=32*ae_ l:=by unfold ae_;rw[Nat.pow_succ];omega
abbrev Rd:=Str×List Str×Int
def ap_(u len i:Nat):Nat:=min u (len-i*u)
def fRd(rec:Str->Nat->Nat->Nat->Rd)(d:Str)(u len a b:Nat)(acc:Str×List Str)(i:Nat):(Str×List Str) ⊕ Rd :=
 if min (b-i*u) (ap_ u len i)<=min (a-i*u) (ap_ u len i)then .inl acc else
  (λr:Rd=>if r.2.2=0 then .inl (acc.1++r.1,acc.2++r.2.1)else .inr ([],acc.2++r.2.1,r.2.2)) (rec ((d.drop (32*i)).take 32) (ap_ u len i) (min (a-i*u) (ap_ u len i)) (min (b-i*u) (ap_ u len i)))
def rdF(s:Xx)(k:Int):Nat->Str->Nat->Nat->Nat->Rd | 0,sc,len,a,b=>if(blk s sc k).2=0 then(if(blk s sc k).1.length=len then(((blk s sc k).1.take b).drop a,[sc],0)else([],[sc],2))else([],[],(blk s sc k).2)|l+1,sc,len,a,b=>if(blk s sc 2).2=0 then(if(blk s sc 2).1.length=32*((len+ae_ l-1)/ae_ l)then outS (λacc=>(acc.1,acc.2,0)) (λr=>r) (bS_ (fRd (rdF s k l) (blk s sc 2).1 (ae_ l) len a b) ([],[sc]) (List.range ((len+ae_ l-1)/ae_ l)))else([],[sc],2))else([],[],(blk s sc 2).2)
def b8_:Nat->Nat | 0=>1|l+1=>1+32*b8_ l
theorem jD_ {s:Xx} (hs:StOK s) (k:Int):∀(l:Nat) (sc:Str) (len a b:Nat),(rdF s k l sc len a b).1.length<=ae_ l/\(rdF s k l sc len a b).2.1.length<=b8_ l
 | 0,sc,len,a,b=>by
  have:=ky_ hs sc k;unfold rdF;split
  .split
   .simp only[List.length_drop,List.length_take,List.length_singleton,b8_];unfold ae_;omega
   .simp[b8_]
  .simp[b8_]
 | l + 1,sc,len,a,b=>by
  have hb:=ky_ hs sc 2;unfold rdF;split
  .split
   .rename_i hl;have hn:(len+ae_ l-1)/ae_ l<=32:=by omega
    generalize(len+ae_ l-1)/ae_ l=n at *
    have h:=n7_ (f:=fRd (rdF s k l) (blk s sc 2).1 (ae_ l) len a b) (λi acc=>acc.1.length<=i*ae_ l/\acc.2.length<=1+i*b8_ l) (λr=>r.1.length<=ae_ (l+1)/\r.2.1.length<=b8_ (l+1)) (n:=n) (s0:=([],[sc])) ⟨by simp,by simp⟩ λi acc hi ⟨h3,h4⟩ => ?_
    .obtain⟨h1,h2⟩:=h;cases hr:bS_ (fRd (rdF s k l) (blk s sc 2).1 (ae_ l) len a b) ([],[sc]) (List.range n)with
     | inl acc =>
      obtain⟨h3,h4⟩:=h1 acc hr;simp only[outS,pr_,b8_];exact⟨Nat.le_trans h3 (Nat.mul_le_mul_right _ hn),Nat.le_trans h4 (Nat.add_le_add_left (Nat.mul_le_mul_right _ hn) 1)⟩
     | inr r=>exact h2 r hr
    .obtain⟨r1,r2⟩:=jD_ hs k l (((blk s sc 2).1.drop (32*i)).take 32) (ap_ (ae_ l) len i) (min (a-i*ae_ l) (ap_ (ae_ l) len i)) (min (b-i*ae_ l) (ap_ (ae_ l) len i));have e1:(i+1)*ae_ l=i*ae_ l+ae_ l:=Nat.succ_mul _ _;have e2:(i+1)*b8_ l=i*b8_ l+b8_ l:=Nat.succ_mul _ _;have e3:(i+1)*b8_ l<=32*b8_ l:=Nat.mul_le_mul_right _ (by omega);unfold fRd;refine⟨λs' he => ?_,λe he => ?_⟩
     .split at he
      .obtain rfl:=Sum.inl.inj he;constructor<;>omega
      .simp only at he;split at he
       .obtain rfl:=Sum.inl.inj he;simp only[qLa];constructor<;>omega
       .cases he
     .split at he
      .cases he
      .simp only at he;split at he
       .cases he
       .obtain rfl:=Sum.inr.inj he;simp only[qLa,List.length_nil,b8_];constructor<;>omega
   .simp only[List.length_nil,List.length_singleton,b8_];omega
  .simp[b8_]
theorem unit_eq{l:Nat}(hl:l<=2):eR_ (l:Int)=some ((ae_ l:Nat):Int):=by
 have:l=0\/l=1\/l=2:=by omega
 rcases this with rfl|rfl|rfl
 .exact(by kernel_rfl:eR_ 0=some 1024)
 .exact(by kernel_rfl:eR_ 1=some 32768)
 .exact(by kernel_rfl:eR_ 2=some 1048576)
theorem n8_{l:Nat}(hl:l<=2):bM_ (l:Int)=some ((ae_ l:Nat):Int):=by
 have:l=0\/l=1\/l=2:=by omega
 rcases this with rfl|rfl|rfl
 .exact(by kernel_rfl:bM_ 0=some 1024)
 .exact(by kernel_rfl:bM_ 1=some 32768)
 .exact(by kernel_rfl:bM_ 2=some 1048576)
theorem n9_{l:Nat}(hl:l<=2):ae_ l<=1048576:=by
 have:l=0\/l=1\/l=2:=by omega
 rcases this with rfl|rfl|rfl<;>decide
theorem kz_(a b:Nat):bH_ (a:Int) (b:Int)=((min a b:Nat):Int):=by
 unfold bH_;split<;>omega
theorem max_sub(a b:Nat):bV_ ((a:Int)-(b:Int)) 0=((a-b:Nat):Int):=by
 unfold bV_;split<;>omega
theorem nw_ {s:Xx} (hs:StOK s) {k:Int} (hk:0<=k/\k<256) (whole:Bool):∀(l n:Nat) {sc:Str} {len a b:Nat},l<=2->l<n->len<=1048576->a<=b->b<=len->(whole=true->a=0/\b=len) ->
  dp_ n s sc k (l:Int) (len:Int) (a:Int) (b:Int) whole=some ((rdF s k l sc len a b).1,(rdF s k l sc len a b).2.2)
 | 0,n,sc,len,a,b,_,hn,hlen,hab,hb,hw=>by
  obtain⟨n,rfl⟩:∃m,n=m+1:=⟨n-1,by omega⟩;show dI_ (dp_ n) s sc k 0 len a b whole=_;unfold dI_ rdF;refine ai_ rfl (aa_ (jb_ hs sc hk) ?_);by_cases h:(blk s sc k).2=0
  .rw[if_pos h];refine ah_ (by simp[h]) ?_;by_cases h2:(blk s sc k).1.length=len
   .rw[if_pos h2];refine ah_ (by simp[h2]) (aa_ (cP_ (by omega) (by omega) (by omega)) ?_);rw[qTn,qTn]
   .rw[if_neg h2];exact ai_ (by simp;omega) rfl
  .rw[if_neg h];exact ai_ (by simp[h]) rfl
 | l + 1,n,sc,len,a,b,hl,hn,hlen,hab,hb,hw=>by
  obtain⟨n,rfl⟩:∃m,n=m+1:=⟨n-1,by omega⟩;show dI_ (dp_ n) s sc k ((l+1:Nat):Int) len a b whole=_;have hu:=n9_ (l:=l) (by omega);have hu1:=mH_ l;have hd:=ky_ hs sc 2;have el:w64 (((l+1:Nat):Int)-1)=(l:Int):=by rw[an_ ⟨by omega,by omega⟩];omega
  have eq:quoI .i64 (w64 ((w64 ((len:Int)+((ae_ l:Nat):Int)))-1)) ((ae_ l:Nat):Int)=some ((((len+ae_ l-1)/ae_ l:Nat)):Int):=by
   unfold quoI;rw[if_neg (by omega),an_ (n:=(len:Int)+((ae_ l:Nat):Int)) ⟨by omega,by omega⟩,an_ ⟨by omega,by omega⟩,Int.tdiv_eq_ediv_of_nonneg (by omega)];have e:((len:Int)+((ae_ l:Nat):Int)-1)=((len+ae_ l-1:Nat):Int):=by omega
   have:(len+ae_ l-1)/ae_ l<=len+ae_ l-1:=Nat.div_le_self _ _;rw[e,←Int.natCast_ediv];generalize(len+ae_ l-1)/ae_ l=q at *
   rw[g8_ ⟨by omega,by omega⟩]
  unfold dI_;rw[rdF];refine ah_ (by simp;omega) (aa_ (jb_ hs sc (by omega)) ?_);by_cases h:(blk s sc 2).2=0
  .rw [if_pos h];refine ah_ (by simp[h]) (aa_ (by rw[el];exact unit_eq (by omega)) (aa_ eq ?_));have hnb:(len+ae_ l-1)/ae_ l<=1048576:=by
    have h3:(len+ae_ l-1)/ae_ l<=(len+ae_ l-1)/1024:=Nat.div_le_div_left hu1 (by omega);omega
   have e32:w64 (32*(((len+ae_ l-1)/ae_ l:Nat):Int))=((32*((len+ae_ l-1)/ae_ l):Nat):Int):=by
    generalize(len+ae_ l-1)/ae_ l=q at *
    rw[an_ ⟨by omega,by omega⟩];omega
   by_cases h2:(blk s sc 2).1.length=32*((len+ae_ l-1)/ae_ l)
   .rw [if_pos h2];refine ah_ (by rw[e32,h2];simp) ?_;have hn32:(len+ae_ l-1)/ae_ l<=32:=by omega
    have hcov:∀i,i<(len+ae_ l-1)/ae_ l->i*ae_ l<len:=λi hi=>by
     have h3:(i+1)*ae_ l<=len+ae_ l-1:=Nat.le_trans (Nat.mul_le_mul_right _ (by omega:i+1<=(len+ae_ l-1)/ae_ l)) (Nat.div_mul_le_self _ _);rw[Nat.succ_mul]at h3;omega
    generalize(len+ae_ l-1)/ae_ l=N at *
    have hsz:∀i,i<N->bH_ ((ae_ l:Nat):Int) (w64 ((len:Int)-w64 ((i:Int)*((ae_ l:Nat):Int))))=((ap_ (ae_ l) len i:Nat):Int)/\1<=ap_ (ae_ l) len i/\ap_ (ae_ l) len i<=len:=λi hi=>by
     have h3:=hcov i hi;have e1:(i:Int)*((ae_ l:Nat):Int)=((i*ae_ l:Nat):Int):=by simp
     rw[e1,an_ (n:=((i*ae_ l:Nat):Int)) ⟨by omega,by omega⟩,an_ ⟨by omega,by omega⟩];have e2:(len:Int)-((i*ae_ l:Nat):Int)=((len-i*ae_ l:Nat):Int):=by omega
     rw[e2,kz_];unfold ap_;exact⟨rfl,by omega,by omega⟩
    have hcl:∀i,i<N->∀c:Nat,c<=len->bH_ (bV_ (w64 ((c:Int)-w64 ((i:Int)*((ae_ l:Nat):Int)))) 0) (bH_ ((ae_ l:Nat):Int) (w64 ((len:Int)-w64 ((i:Int)*((ae_ l:Nat):Int)))))=((min (c-i*ae_ l) (ap_ (ae_ l) len i):Nat):Int):=λi hi c hc=>by
     have h3:=hcov i hi;rw[(hsz i hi).1];have e1:(i:Int)*((ae_ l:Nat):Int)=((i*ae_ l:Nat):Int):=by simp
     rw[e1,an_ (n:=((i*ae_ l:Nat):Int)) ⟨by omega,by omega⟩,an_ ⟨by omega,by omega⟩,max_sub,kz_]
    have hrec:=λ(i:Nat) (hi:i<N)=>nw_ hs hk whole l n (sc:=((blk s sc 2).1.drop (32*i)).take 32) (len:=ap_ (ae_ l) len i) (a:=min (a-i*ae_ l) (ap_ (ae_ l) len i)) (b:=min (b-i*ae_ l) (ap_ (ae_ l) len i)) (by omega) (by omega) (by have:=(hsz i hi).2.2;omega) (by omega) (by omega)
     (λhw'=>by
      obtain⟨w1,w2⟩:=hw hw';have h3:=hcov i hi;subst w1;subst w2;unfold ap_;omega)
    have hlp:=loop_runS (body:=fy_ ((N:Nat):Int) (a:Int) ((ae_ l:Nat):Int) (len:Int) (b:Int) whole ((blk s sc 2)) (dp_ n) s k ((l+1:Nat):Int)) (List.range N) (fRd (rdF s k l) (blk s sc 2).1 (ae_ l) len a b) (λi acc=>(acc.1,(i:Int))) (λi acc=>acc.1.length<=i*ae_ l) (λacc=>Out.fall acc.1) (λr=>Out.ret (([]:Str),r.2.2)) ([],[sc]) (bE_ (by simp;omega)) (by simp) (λi acc hi hI => ?_) (λacc hI => ?_)
    .refine aa_ hlp ?_;have hq:=n7_ (f:=fRd (rdF s k l) (blk s sc 2).1 (ae_ l) len a b) (λ_ _=>True) (λr=>r.1=[]) (n:=N) (s0:=([],[sc])) trivial λi acc hi _=>⟨λ_ _=>trivial,λe he=>by
      unfold fRd at he;split at he
      .cases he
      .simp only at he;split at he
       .cases he
       .obtain rfl:=Sum.inr.inj he;rfl⟩
     cases hr:bS_ (fRd (rdF s k l) (blk s sc 2).1 (ae_ l) len a b) ([],[sc]) (List.range N)with
     | inl acc=>rfl
     | inr r =>
      simp only[outS];rw[hq.2 r hr]
    .have hi':i<N:=by simpa using hi
     rw[List.getElem_range];obtain⟨z1,z2,z3⟩:=hsz i hi';obtain⟨r1,_⟩:=jD_ hs k l (((blk s sc 2).1.drop (32*i)).take 32) (ap_ (ae_ l) len i) (min (a-i*ae_ l) (ap_ (ae_ l) len i)) (min (b-i*ae_ l) (ap_ (ae_ l) len i));have e1:(i+1)*ae_ l=i*ae_ l+ae_ l:=Nat.succ_mul _ _;have e2:i*ae_ l<=32*ae_ l:=Nat.mul_le_mul_right _ (by omega);constructor
     .unfold fy_;refine ai_ (by simp;omega) ?_;rw[hcl i hi' a (by omega),hcl i hi' b hb,z1];unfold fRd;by_cases hsk:min (b-i*ae_ l) (ap_ (ae_ l) len i)<=min (a-i*ae_ l) (ap_ (ae_ l) len i)
      .rw[if_pos hsk];have hwf:whole=false:=by
        cases hwh:whole with
        | false=>rfl
        | true =>
         obtain⟨w1,w2⟩:=hw hwh;have h3:=hcov i hi';subst w1;subst w2;unfold ap_ at hsk;omega
       refine aa_ (a:=Out.fall acc.1) (ai_ (by rw[hwf];simp;omega) rfl) ?_;show some (Step.next (acc.1,w64 ((i:Int)+1)))=_;rw[aw_ (by omega)];rfl
      .rw[if_neg hsk];have es:w64 (32*(i:Int))=((32*i:Nat):Int):=by rw[an_ ⟨by omega,by omega⟩];omega
       have es2:w64 (((32*i:Nat):Int)+32)=((32*i+32:Nat):Int):=by rw[an_ ⟨by omega,by omega⟩];omega
       have hsub:bo_ (blk s sc 2).1 (w64 (32*(i:Int))) (w64 ((w64 (32*(i:Int)))+32))=some (((blk s sc 2).1.drop (32*i)).take 32):=by
        rw[es,es2,cP_ (by omega) (by omega) (by omega),qTn,qTn,List.drop_take,Nat.add_sub_cancel_left]
       have hb1:∀X:Option (Out Str (Str×Int)),(bif(decide (((min (a-i*ae_ l) (ap_ (ae_ l) len i):Nat):Int)>=((min (b-i*ae_ l) (ap_ (ae_ l) len i):Nat):Int)) && !whole)then some (Out.fall acc.1)else X)=X:=λX=>ah_ (by simp;omega) rfl
       rw[hb1];have hr:=hrec i hi';generalize rdF s k l (((blk s sc 2).1.drop (32*i)).take 32) (ap_ (ae_ l) len i) (min (a-i*ae_ l) (ap_ (ae_ l) len i)) (min (b-i*ae_ l) (ap_ (ae_ l) len i))=r at *
       have hl1:w64 (((l+1:Nat):Int)-1)=(l:Int):=el;rw[hl1];by_cases he:r.2.2=0
       .simp only[if_pos he];refine aa_ (a:=Out.fall (acc.1++r.1)) (aa_ hsub (aa_ hr (ah_ (by simp[he]) (aa_ (hO_ ?_) rfl)))) ?_
        .show acc.1.length+r.1.length<=_;omega
        .show some (Step.next (acc.1++r.1,w64 ((i:Int)+1)))=_;rw[aw_ (by omega)];rfl
       .simp only[if_neg he];exact aa_ (a:=Out.ret ([],r.2.2)) (aa_ hsub (aa_ hr (ai_ (by simp[he]) rfl))) rfl
     .intro s' he;unfold fRd at he;split at he
      .obtain rfl:=Sum.inl.inj he;omega
      .simp only at he;split at he
       .obtain rfl:=Sum.inl.inj he;simp only[qLa];omega
       .cases he
    .unfold fy_;exact ah_ (by simp) rfl
   .rw[if_neg h2];refine ai_ ?_ rfl;rw[e32];simp only[bne_iff_ne,ne_eq];omega
  .rw[if_neg h];exact ai_ (by simp[h]) rfl
theorem exp_eq{l L i:Nat}(hl:l<=1)(h1:1<=L)(h2:L<=1048576)(hi:i*ae_ (l+1)<L):min 32 (bA (nP L) l-32*i)=(ap_ (ae_ (l+1)) L i+ae_ l-1)/ae_ l/\32*i<bA (nP L) l:=by
 have hl:l=0\/l=1:=by omega
 rcases hl with rfl|rfl
 .have e1:ae_ 1=32768:=rfl;have e0:ae_ 0=1024:=rfl;rw[e1]at hi;simp only[e1,e0,ap_,bA,nP];omega
 .have e1:ae_ 2=1048576:=rfl;have e0:ae_ 1=32768:=rfl;rw[e1]at hi;simp only[e1,e0,ap_,bA,nP];omega
theorem cntN_le{l:Nat}(hl:l<=2):b8_ l<=1057:=by
 have:l=0\/l=1\/l=2:=by omega
 rcases this with rfl|rfl|rfl<;>decide
def hV_(s:Xx)(k:Int)(l:Nat)(sc:Str)(L lo hi i:Nat):Rd:=rdF s k l sc (ap_ (ae_ l) L i) (min (lo-i*ae_ l) (ap_ (ae_ l) L i)) (min (hi-i*ae_ l) (ap_ (ae_ l) L i))
theorem part_eq {s:Xx} (hs:StOK s) (k:Int) {L lo hi:Nat} (hL:L<=1048576) (h1:lo<hi) (h2:hi<=L):∀(l n:Nat) {sc:Str} {i:Nat} {seen:List Str},l<=2->l<n->i*ae_ l<hi->lo<i*ae_ l+ae_ l->seen.length+b8_ l<=1073741824 ->
  bn_ n (Xj.mk s seen) (Yt.mk k (L:Int) (lo:Int) (hi:Int)) sc (l:Int) (i:Int)=some ((hV_ s k l sc L lo hi i).1,(hV_ s k l sc L lo hi i).2.2,Xj.mk s (seen++(hV_ s k l sc L lo hi i).2.1))
 | 0,n,sc,i,seen,_,hn,h3,h4,h5=>by
  obtain⟨n,rfl⟩:∃m,n=m+1:=⟨n-1,by omega⟩;show bG_ (bn_ n) (Xj.mk s seen) _ sc 0 (i:Int)=_;have e0:ae_ 0=1024:=rfl;rw[e0]at h3 h4;have ei:w64 ((i:Int)*1024)=((i*1024:Nat):Int):=by rw[an_ ⟨by omega,by omega⟩];omega
  have hexp:bF_ (Yt.mk k (L:Int) (lo:Int) (hi:Int)) 0 (i:Int)=some ((ap_ 1024 L i:Nat):Int):=by
   unfold bF_;refine ai_ rfl ?_;show some (bH_ 1024 (w64 ((L:Int)-w64 ((i:Int)*1024))))=_;have e2:(L:Int)-((i*1024:Nat):Int)=((L-i*1024:Nat):Int):=by omega
   rw[ei,e2,an_ ⟨by omega,by omega⟩];exact congrArg some (kz_ 1024 (L-i*1024))
  unfold bG_ hV_ rdF;rw[e0];refine aa_ (a:=k) (ai_ rfl rfl) (aa_ (ep_ hs sc k (by simp[b8_]at h5;omega)) ?_);by_cases h:(blk s sc k).2=0
  .simp only[if_pos h];refine ah_ rfl (aa_ hexp ?_);by_cases h6:(blk s sc k).1.length=ap_ 1024 L i
   .rw[if_pos h6];refine ah_ (by simp[h6]) (aa_ (a:=1024) (by kernel_rfl) (ai_ rfl (aa_ (a:=((blk s sc k).1.take (min (hi-i*1024) (ap_ 1024 L i))).drop (min (lo-i*1024) (ap_ 1024 L i))) ?_ rfl)));show bo_ (blk s sc k).1 (bV_ 0 (w64 ((lo:Int)-w64 ((i:Int)*1024)))) (bH_ ((blk s sc k).1.length:Int) (w64 ((hi:Int)-w64 ((i:Int)*1024))))=_;have e3:bV_ 0 ((lo:Int)-((i*1024:Nat):Int))=((lo-i*1024:Nat):Int):=by
     unfold bV_;split<;>omega
    have e4:(hi:Int)-((i*1024:Nat):Int)=((hi-i*1024:Nat):Int):=by omega
    rw[ei,an_ (n:=(lo:Int)-((i*1024:Nat):Int)) ⟨by omega,by omega⟩,e3,e4,an_ ⟨by omega,by omega⟩,kz_,h6];have e5:min (lo-i*1024) (ap_ 1024 L i)=lo-i*1024:=by unfold ap_;omega
    rw[e5,Nat.min_comm,cP_ (by omega) (by unfold ap_;omega) (by rw[h6];omega),qTn,qTn]
   .rw[if_neg h6];exact ai_ (by simp;omega) rfl
  .simp only[if_neg h];refine ai_ (by simp[h]) ?_;rw[List.append_nil]
 | l + 1,n,sc,i,seen,hl,hn,h3,h4,h5=>by
  obtain⟨n,rfl⟩:∃m,n=m+1:=⟨n-1,by omega⟩;show bG_ (bn_ n) (Xj.mk s seen) _ sc ((l+1:Nat):Int) (i:Int)=_;have hu:=n9_ (l:=l) (by omega);have hu1:=mH_ l;have hus:=pr_ l;have hc:=cntN_le (l:=l) (by omega);have hd:=ky_ hs sc 2;have el:w64 (((l+1:Nat):Int)-1)=(l:Int):=by rw[an_ ⟨by omega,by omega⟩];omega
  obtain⟨x1,x2⟩:=exp_eq (l:=l) (L:=L) (i:=i) (by omega) (by omega) hL (by omega);have hiL:i<=i*ae_ (l+1):=Nat.le_mul_of_pos_right i (by omega);have hbb:=lq_ (n:=nP L) (by unfold nP;omega) l;have hexp:bF_ (Yt.mk k (L:Int) (lo:Int) (hi:Int)) ((l+1:Nat):Int) (i:Int)=some ((32*((ap_ (ae_ (l+1)) L i+ae_ l-1)/ae_ l):Nat):Int):=by
   unfold bF_;refine ah_ (by simp;omega) (aa_ (by rw[el];exact j3_ (by omega) (by omega)) ?_);have e1:w64 ((i:Int)*32)=((i*32:Nat):Int):=by rw[an_ ⟨by omega,by omega⟩];omega
   have e2:((bA (nP L) l:Nat):Int)-((i*32:Nat):Int)=((bA (nP L) l-32*i:Nat):Int):=by omega
   rw[e1,e2,an_ (n:=((bA (nP L) l-32*i:Nat):Int)) ⟨by omega,by omega⟩];have e3:bH_ 32 ((bA (nP L) l-32*i:Nat):Int)=((min 32 (bA (nP L) l-32*i):Nat):Int):=kz_ 32 _;have hle:(ap_ (ae_ (l+1)) L i+ae_ l-1)/ae_ l<=32:=by rw[←x1];omega
   rw[e3,x1];generalize(ap_ (ae_ (l+1)) L i+ae_ l-1)/ae_ l=q at *
   rw[an_ ⟨by omega,by omega⟩];rfl
  unfold bG_ hV_;rw[rdF];refine aa_ (a:=2) (ah_ (by simp;omega) rfl) (aa_ (ep_ hs sc 2 (by simp[b8_]at h5;omega)) ?_);by_cases h:(blk s sc 2).2=0
  .simp only[if_pos h];refine ah_ rfl (aa_ hexp ?_);by_cases h6:(blk s sc 2).1.length=32*((ap_ (ae_ (l+1)) L i+ae_ l-1)/ae_ l)
   .rw [if_pos h6];refine ah_ (by rw[h6];simp) (aa_ (n8_ hl) (ah_ (by simp;omega) ?_));have hlen:ap_ (ae_ (l+1)) L i=min (32*ae_ l) (L-i*ae_ (l+1)):=by unfold ap_;rw[hus]
    have hcov:∀j,j<(ap_ (ae_ (l+1)) L i+ae_ l-1)/ae_ l->j*ae_ l<ap_ (ae_ (l+1)) L i:=λj hj=>by
     have h7:(j+1)*ae_ l<=ap_ (ae_ (l+1)) L i+ae_ l-1:=Nat.le_trans (Nat.mul_le_mul_right _ (by omega:j+1<=(ap_ (ae_ (l+1)) L i+ae_ l-1)/ae_ l)) (Nat.div_mul_le_self _ _);rw[Nat.succ_mul]at h7;omega
    have hN:(ap_ (ae_ (l+1)) L i+ae_ l-1)/ae_ l<=32:=by rw[←x1];omega
    generalize hlenG:ap_ (ae_ (l+1)) L i=len at *
    generalize(len+ae_ l-1)/ae_ l=N at *
    have hfrom:(32*i)*ae_ l=i*ae_ (l+1):=by rw[hus,Nat.mul_comm 32 i,Nat.mul_assoc]
    have hat:∀j,(32*i+j)*ae_ l=i*ae_ (l+1)+j*ae_ l:=λj=>by rw[Nat.add_mul,hfrom]
    have hju:∀j,j<N->j*ae_ l+ae_ l<=32*ae_ l:=λj hj=>by
     have:(j+1)*ae_ l<=32*ae_ l:=Nat.mul_le_mul_right _ (by omega)
     rwa [Nat.succ_mul]at this
    -- what a part of the part is
    have hsub:∀j,j<N->ap_ (ae_ l) len j=ap_ (ae_ l) L (32*i+j):=λj hj=>by
     have:=hju j hj;unfold ap_;rw[hat j];omega
    have hab:∀j,j<N->∀c,min (min (c-i*ae_ (l+1)) len-j*ae_ l) (ap_ (ae_ l) len j)=min (c-(32*i+j)*ae_ l) (ap_ (ae_ l) L (32*i+j)):=λj hj c=>by
     have:=hju j hj;rw[←hsub j hj,hat j];unfold ap_;omega
    have hskip:∀j,j<N->(min (hi-(32*i+j)*ae_ l) (ap_ (ae_ l) L (32*i+j))<=min (lo-(32*i+j)*ae_ l) (ap_ (ae_ l) L (32*i+j))↔hi<=(32*i+j)*ae_ l\/(32*i+j)*ae_ l+ae_ l<=lo):=λj hj=>by
     have h7:=hcov j hj;have h8:=hsub j hj;have h9:(32*i+j)*ae_ l<L:=by rw[hat j];omega
     unfold ap_;omega
    have hlp:=loop_runS (body:=cD_ ((blk s sc 2).1,0,Xj.mk s (seen++[sc])) ((l+1:Nat):Int) (i:Int) (Yt.mk k (L:Int) (lo:Int) (hi:Int)) (bn_ n)) (List.range N) (fRd (rdF s k l) (blk s sc 2).1 (ae_ l) len (min (lo-i*ae_ (l+1)) len) (min (hi-i*ae_ (l+1)) len)) (λj acc=>(acc.1,(j:Int),s.Yr,s.Xh,seen++acc.2)) (λj acc=>acc.1.length<=j*ae_ l/\acc.2.length<=1+j*b8_ l) (λacc=>Out.fall (acc.1,s.Yr,s.Xh,seen++acc.2)) (λr=>Out.ret (([]:Str),r.2.2,Xj.mk s (seen++r.2.1))) ([],[sc]) (bE_ (by simp;omega)) (by simp) (λj acc hj hI => ?_) (λacc hI => ?_)
    .refine aa_ hlp ?_;have hq:=n7_ (f:=fRd (rdF s k l) (blk s sc 2).1 (ae_ l) len (min (lo-i*ae_ (l+1)) len) (min (hi-i*ae_ (l+1)) len)) (λ_ _=>True) (λr=>r.1=[]) (n:=N) (s0:=([],[sc])) trivial λi acc hi _=>⟨λ_ _=>trivial,λe he=>by
      unfold fRd at he;split at he
      .cases he
      .simp only at he;split at he
       .cases he
       .obtain rfl:=Sum.inr.inj he;rfl⟩
     cases hr:bS_ (fRd (rdF s k l) (blk s sc 2).1 (ae_ l) len (min (lo-i*ae_ (l+1)) len) (min (hi-i*ae_ (l+1)) len)) ([],[sc]) (List.range N)with
     | inl acc=>rfl
     | inr r =>
      simp only[outS];rw[hq.2 r hr]
    .have hj':j<N:=by simpa using hj
     rw[List.getElem_range];obtain⟨hI1,hI2⟩:=hI;have hjl:j*b8_ l+b8_ l<=32*b8_ l:=by
      have:(j+1)*b8_ l<=32*b8_ l:=Nat.mul_le_mul_right _ (by omega)
      rwa [Nat.succ_mul]at this
     have e1:(j+1)*ae_ l=j*ae_ l+ae_ l:=Nat.succ_mul _ _;have e1c:(j+1)*b8_ l=j*b8_ l+b8_ l:=Nat.succ_mul _ _;have hjj:=hju j hj';have hc5:seen.length+(1+32*b8_ l)<=1073741824:=h5;have hatL:(32*i+j)*ae_ l<=2097152:=by
      have h7:=hcov j hj';rw[hat j];omega
     have hrec:=λ(h8:(32*i+j)*ae_ l<hi) (h9:lo<(32*i+j)*ae_ l+ae_ l)=>part_eq hs k hL h1 h2 l n (sc:=((blk s sc 2).1.drop (32*j)).take 32) (i:=32*i+j) (seen:=seen++acc.2) (by omega) (by omega) h8 h9 (by rw[qLa];omega)
     obtain⟨r1,r2⟩:=jD_ hs k l (((blk s sc 2).1.drop (32*j)).take 32) (ap_ (ae_ l) len j) (min (min (lo-i*ae_ (l+1)) len-j*ae_ l) (ap_ (ae_ l) len j)) (min (min (hi-i*ae_ (l+1)) len-j*ae_ l) (ap_ (ae_ l) len j));have hwj:w64 (w64 ((i:Int)*32)+(j:Int))=((32*i+j:Nat):Int):=by
      rw[an_ (n:=(i:Int)*32) ⟨by omega,by omega⟩,an_ ⟨by omega,by omega⟩];omega
     have hwat:w64 (((32*i+j:Nat):Int)*((ae_ l:Nat):Int))=(((32*i+j)*ae_ l:Nat):Int):=by
      rw[←Int.natCast_mul,an_ ⟨by omega,by omega⟩]
     constructor
     .unfold cD_;have hquo:IntKind.i64.wrap (((blk s sc 2).1.length:Int).tdiv 32)=((N:Nat):Int):=by
       rw[h6,Int.tdiv_eq_ediv_of_nonneg (by omega),g8_ ⟨by omega,by omega⟩];omega
      refine ai_ (by simp only[hquo,qDe];omega) ?_;simp only[el,hwj];have hskipB:∀X:Option (Out (Str×Int×List Xi×List Str) (Str×Int×Xj)),((bM_ (l:Int)).bind λy11=>Option.bind (bif decide (w64 (((32*i+j:Nat):Int)*y11)>=(hi:Int))then some true else(bM_ (l:Int)).bind λy12=>some (decide (w64 (w64 (((32*i+j:Nat):Int)*y11)+y12)<=(lo:Int)))) λ(y13:Bool)=>bif y13 then some (Out.fall (acc.1,s.Yr,s.Xh,seen++acc.2))else X)=if hi<=(32*i+j)*ae_ l\/(32*i+j)*ae_ l+ae_ l<=lo then some (Out.fall (acc.1,s.Yr,s.Xh,seen++acc.2))else X:=λX=>by
       refine aa_ (n8_ (by omega)) ?_;rw[hwat,n8_ (by omega)];have e7:w64 ((((32*i+j)*ae_ l:Nat):Int)+((ae_ l:Nat):Int))=(((32*i+j)*ae_ l+ae_ l:Nat):Int):=by rw[an_ ⟨by omega,by omega⟩];omega
       simp only[qBs,e7];by_cases h8:hi<=(32*i+j)*ae_ l
       .rw[if_pos (.inl h8)];exact aa_ (a:=true) (ai_ (by simp only[qDe];omega) rfl) rfl
       .by_cases h9:(32*i+j)*ae_ l+ae_ l<=lo
        .rw[if_pos (.inr h9)];exact aa_ (a:=true) (ah_ (by simp only[qDf];omega) (by congr 1;simp only[qDe];omega)) rfl
        .rw[if_neg (by omega)];exact aa_ (a:=false) (ah_ (by simp only[qDf];omega) (by congr 1;simp only[qDf];omega)) rfl
      rw[hskipB];unfold fRd;rw[hab j hj' hi,hab j hj' lo];by_cases hsk:min (hi-(32*i+j)*ae_ l) (ap_ (ae_ l) L (32*i+j))<=min (lo-(32*i+j)*ae_ l) (ap_ (ae_ l) L (32*i+j))
      .rw[if_pos ((hskip j hj').1 hsk)];rw[hsub j hj',if_pos hsk];show some (Step.next (acc.1,w64 ((j:Int)+1),s.Yr,s.Xh,seen++acc.2))=_;rw[aw_ (by omega)];rfl
      .have hsk':=λh=>hsk ((hskip j hj').2 h)
       rw[if_neg hsk'];rw[hsub j hj',if_neg hsk];have es:w64 ((j:Int)*32)=((32*j:Nat):Int):=by rw[an_ ⟨by omega,by omega⟩];omega
       have es2:w64 (w64 ((j:Int)+1)*32)=((32*j+32:Nat):Int):=by rw[aw_ (by omega),an_ ⟨by omega,by omega⟩];omega
       have hsubI:bo_ (blk s sc 2).1 (w64 ((j:Int)*32)) (w64 (w64 ((j:Int)+1)*32))=some (((blk s sc 2).1.drop (32*j)).take 32):=by
        rw[es,es2,cP_ (by omega) (by omega) (by omega),qTn,qTn,List.drop_take,Nat.add_sub_cancel_left]
       have hr:=hrec (Nat.lt_of_not_le λh=>hsk' (.inl h)) (Nat.lt_of_not_le λh=>hsk' (.inr h));have hrr:hV_ s k l (((blk s sc 2).1.drop (32*j)).take 32) L lo hi (32*i+j)=rdF s k l (((blk s sc 2).1.drop (32*j)).take 32) (ap_ (ae_ l) L (32*i+j)) (min (lo-(32*i+j)*ae_ l) (ap_ (ae_ l) L (32*i+j))) (min (hi-(32*i+j)*ae_ l) (ap_ (ae_ l) L (32*i+j))):=rfl;rw[hrr]at hr;rw[hab j hj' hi,hab j hj' lo,hsub j hj']at r1 r2;generalize rdF s k l (((blk s sc 2).1.drop (32*j)).take 32) (ap_ (ae_ l) L (32*i+j)) (min (lo-(32*i+j)*ae_ l) (ap_ (ae_ l) L (32*i+j))) (min (hi-(32*i+j)*ae_ l) (ap_ (ae_ l) L (32*i+j)))=r at *
       by_cases he:r.2.2=0
       .simp only[if_pos he];refine aa_ (a:=Out.fall (acc.1++r.1,s.Yr,s.Xh,seen++(acc.2++r.2.1))) (aa_ hsubI (aa_ hr (ah_ (by simp[he]) (aa_ (hO_ ?_) ?_)))) ?_
        .show acc.1.length+r.1.length<=_;omega
        .rw[List.append_assoc]
        .show some (Step.next (acc.1++r.1,w64 ((j:Int)+1),s.Yr,s.Xh,seen++(acc.2++r.2.1)))=_;rw[aw_ (by omega)];rfl
       .simp only[if_neg he];refine aa_ (a:=Out.ret ([],r.2.2,Xj.mk s (seen++(acc.2++r.2.1)))) (aa_ hsubI (aa_ hr (ai_ (by simp[he]) ?_))) rfl;rw[List.append_assoc]
     .intro s' he;unfold fRd at he;split at he
      .obtain rfl:=Sum.inl.inj he;omega
      .simp only at he;split at he
       .obtain rfl:=Sum.inl.inj he;simp only[qLa];omega
       .cases he
    .have hquo:IntKind.i64.wrap (((blk s sc 2).1.length:Int).tdiv 32)=((N:Nat):Int):=by
      rw[h6,Int.tdiv_eq_ediv_of_nonneg (by omega),g8_ ⟨by omega,by omega⟩];omega
     unfold cD_;refine ah_ ?_ rfl;simp only[hquo,List.length_range,qDf];omega
   .rw[if_neg h6];refine ai_ ?_ rfl;simp only[bne_iff_ne,ne_eq];omega
  .simp only[if_neg h];refine ai_ (by simp[h]) ?_;rw[List.append_nil]
def d3_(r:Xr):Bool:=(((r.Xc.length:Int)==32)&&decide (r.Yj>=0))&&decide (r.Yj<=1048576)&&(r.Yu==((hN (nP r.Yj.toNat):Nat):Int))
theorem valid_eq(r:Xr):fD_ r=some (d3_ r):=by
 unfold fD_ d3_;cases h:(((r.Xc.length:Int)==32)&&decide (r.Yj>=0))&&decide (r.Yj<=1048576)with
 | false=>rfl
 | true =>
  simp only[qAn,qDe]at h;refine aa_ (a:=(r.Yu==((hN (nP r.Yj.toNat):Nat):Int))) (ai_ rfl ?_) rfl;have e:r.Yj=((r.Yj.toNat:Nat):Int):=by omega
  have hh:=height_eq (n:=r.Yj.toNat) (by omega);rw[←e]at hh;exact aa_ hh rfl
theorem jc_(r:Xr):fo_ r=some (d3_ r):=by
 unfold fo_ d3_;cases h:(((r.Xc.length:Int)==32)&&decide (r.Yj>=0))&&decide (r.Yj<=1048576)with
 | false=>rfl
 | true =>
  simp only[qAn,qDe]at h;refine aa_ (a:=(r.Yu==((hN (nP r.Yj.toNat):Nat):Int))) (ai_ rfl ?_) rfl;have e:r.Yj=((r.Yj.toNat:Nat):Int):=by omega
  have hh:=levels_ref (n:=r.Yj.toNat) (by omega);rw[←e]at hh;exact aa_ hh rfl
theorem ps_{r:Xr}(h:d3_ r=true):∃n:Nat,r.Yj=(n:Int)/\n<=1048576/\r.Yu=((hN (nP n):Nat):Int)/\r.Xc.length=32:=by
 unfold d3_ at h;simp only[qAn,qDe,beq_iff_eq]at h;exact⟨r.Yj.toNat,by omega,by omega,h.2,by omega⟩
def az_(s:Xx)(k:Int)(r:Xr):Rd:=if d3_ r then rdF s k (hN (nP r.Yj.toNat)) r.Xc r.Yj.toNat 0 r.Yj.toNat else([],[],2)
theorem hN_zero:hN (nP 0)=0:=by decide
theorem top_size{n:Nat}(hn:n<=1048576):ap_ (ae_ (hN (nP n))) n 0=n:=by
 have:n<=ae_ (hN (nP n)):=by
  unfold hN nP;split
  .show n<=1024;omega
  .split
   .show n<=32768;omega
   .exact hn
 unfold ap_;omega
theorem contents_eq{s:Xx}(hs:StOK s)(k:Int)(r:Xr){seen:List Str}(hn:seen.length<=1073000000) :
  cn_ (Xj.mk s seen) r k=some ((az_ s k r).1,(az_ s k r).2.2,Xj.mk s (seen++(az_ s k r).2.1)):=by
 unfold cn_ az_;refine aa_ (valid_eq r) ?_;by_cases hr:d3_ r=true
 .rw [hr,if_pos rfl];obtain⟨n,e1,e2,e3,e4⟩:=ps_ hr;refine ah_ rfl ?_;have hl2:=hN_le (nP n);by_cases hz:n=0
  .subst hz;have hq:rdF s k (hN (nP r.Yj.toNat)) r.Xc r.Yj.toNat 0 r.Yj.toNat=rdF s k 0 r.Xc 0 0 0:=by rw[e1,qTn,hN_zero]
   refine ai_ (by rw[e1];rfl) ?_;rw[hq];unfold rdF;refine aa_ (ep_ hs r.Xc k (by omega)) ?_;by_cases h:(blk s r.Xc k).2=0
   .simp only[if_pos h];by_cases h6:(blk s r.Xc k).1.length=0
    .rw[if_pos h6];have h7:(blk s r.Xc k).1=[]:=List.length_eq_zero_iff.1 h6;refine aa_ (a:=0) (ah_ (by rw[h7];rfl) rfl) ?_;rw[h7];rfl
    .rw[if_neg h6];refine aa_ (a:=2) (ai_ ?_ rfl) rfl;have h7:(blk s r.Xc k).1≠[]:=λe=>h6 (by rw[e];rfl)
     simp[h7]
   .simp only[if_neg h];refine aa_ (a:=(blk s r.Xc k).2) (ah_ (by simp) rfl) ?_;rw[List.append_nil]
  .refine ah_ (by rw[e1];simp;omega) ?_;rw[e1,e3,qTn];have hc:=cntN_le hl2;have h:=part_eq hs k (L:=n) (lo:=0) (hi:=n) e2 (by omega) (Nat.le_refl _) (hN (nP n)) BIG (sc:=r.Xc) (i:=0) (seen:=seen) hl2 (bE_ (by omega)) (by omega) (by have:=mH_ (hN (nP n));omega) (by omega);have hp:hV_ s k (hN (nP n)) r.Xc n 0 n 0=rdF s k (hN (nP n)) r.Xc n 0 n:=by
    unfold hV_;rw[top_size e2];simp
   rw[hp]at h;exact aa_ h rfl
 .rw[if_neg hr];have:d3_ r=false:=by simpa using hr
  rw[this];refine ai_ rfl ?_;rw[List.append_nil]
theorem jE_{s:Xx}(hs:StOK s){k:Int}(hk:0<=k/\k<256)(r:Xr):cu_ s k r=some ((az_ s k r).1,(az_ s k r).2.2):=by
 unfold cu_ az_;refine aa_ (jc_ r) ?_;by_cases hr:d3_ r=true
 .rw[hr,if_pos rfl];obtain⟨n,e1,e2,e3,e4⟩:=ps_ hr;have hl2:=hN_le (nP n);refine ah_ rfl ?_;rw[e1,e3,qTn];exact aa_ (nw_ hs hk true (hN (nP n)) BIG (len:=n) (a:=0) (b:=n) hl2 (bE_ (by omega)) e2 (Nat.zero_le _) (Nat.le_refl _) λ_=>⟨rfl,rfl⟩) rfl
 .rw[if_neg hr];have:d3_ r=false:=by simpa using hr
  rw[this];exact ai_ rfl rfl
theorem OkT.name{l:List Xq}{next:Int}(h:OkT l next){n:Xq}(hn:n∈l):n.Xv.length<=64:=by
 by_cases h1:n.Id_=1
 .obtain⟨r,q,rfl,h2,_,h3,_⟩:=h.root;have:n=r:=id_inj h.srt hn List.mem_cons_self (by rw[h1,h2]);rw[this,h3]
  decide
 .have:=h.nam n hn h1;unfold dO_ at this;simp only[qAn,qDe]at this;exact this.1.1.1.2
theorem mI_{α σ ε:Type}{f:σ->α->σ ⊕ ε}(Inv:Nat->σ->Prop)(Q:ε->Prop):∀{xs:List α} {k:Nat} {s0:σ},Inv k s0->(∀i s x,x∈xs->Inv i s->(∀s',f s x = .inl s'->Inv (i+1) s')/\∀e,f s x = .inr e->Q e) ->
  (∀s,bS_ f s0 xs = .inl s->Inv (k+xs.length) s)/\∀e,bS_ f s0 xs = .inr e->Q e
 | [],k,s0,h0,_=>⟨λs e=>by simp only[bS_,Sum.inl.injEq]at e;subst e;exact h0,λe h=>by simp[bS_]at h⟩
 | x::l,k,s0,h0,h=>by
  obtain⟨h1,h2⟩:=h k s0 x List.mem_cons_self h0;simp only[bS_];cases hf:f s0 x with
  | inl s' =>
   obtain⟨i1,i2⟩:=mI_ Inv Q (xs:=l) (h1 s' hf) λi s y hy=>h i s y (List.mem_cons_of_mem _ hy)
   refine⟨λs e => ?_,i2⟩;have:=i1 s e
   rwa [show k+1+l.length=k+(x::l).length by simp;omega]at this
  | inr e =>
   refine⟨λs e'=>(by cases e'),λe' h' => ?_⟩;obtain rfl:=Sum.inr.inj h';exact h2 e hf
def nD(s:Str)(w a:Nat):Option (Int×Nat):=if s.length-a<w\/leV (win s a w)>9223372036854775807 then none else some ((leV (win s a w):Int),a+w)
def tD(s:Str)(a:Nat):Option (Str×Nat):=takeT s a
def sD(s:Str)(a:Nat):Option (Str×Nat):=if s.length-a<32 then none else some (win s a 32,a+32)
theorem hB_{s:Str}{w a a':Nat}{v:Int}(ha:a<=s.length)(h:nD s w a=some (v,a')):a'<=s.length/\a'=a+w/\0<=v/\v<=9223372036854775807:=by
 unfold nD at h;split at h
 .cases h
 .simp only[qOi,Prod.mk.injEq]at h;omega
theorem sD_le{s t:Str}{a a':Nat}(ha:a<=s.length)(h:sD s a=some (t,a')):a'<=s.length/\a'=a+32/\t.length=32:=by
 unfold sD at h;split at h
 .cases h
 .simp only[qOi,Prod.mk.injEq]at h;obtain⟨h1,h2⟩:=h;refine⟨by omega,by omega,?_⟩;rw[←h1,f8_ (by omega)]
def DS(s:Str)(o:Option Nat)(d:Xs):Prop:=d.s_=s/\d.Zz=o.isNone/\∃a:Nat,d.at_=(a:Int)/\a<=s.length/\∀b,o=some b->a=b
def RS(s:Str)(o:Option Nat)(d:Yv):Prop:=d.S_=s/\d.Zj=o.isNone/\∃a:Nat,d.At_=(a:Int)/\a<=s.length/\∀b,o=some b->a=b
theorem hC_{s:Str}(hs:s.length<=2000000){o:Option Nat}{d:Xs}(h:DS s o d){w:Nat}(h1:1<=w)(h8:w<=8) :
  ∃v d',av_ d (w:Int)=some (v,d')/\DS s (o.bind λa=>(nD s w a).map (·.2)) d'/\∀a q,o=some a->nD s w a=some q->v=q.1:=by
 obtain⟨e1,e2,a,e3,e4,e5⟩:=h;unfold av_;rw[e1,e3];have hg:=get_eq s a w h1 h8 e4 (by omega);cases o with
 | none =>
  refine⟨_,_,aa_ hg (ai_ (by rw[e2];rfl) rfl),⟨rfl,rfl,a,rfl,e4,λb hb=>by cases hb⟩,λa q ha=>by cases ha⟩
 | some b =>
  obtain rfl:=e5 b rfl;simp only[qBs];unfold nD;by_cases c1:s.length-a<w
  .rw[if_pos c1]at hg;rw[if_pos (.inl c1)];exact⟨_,_,aa_ hg (ai_ (by rw[e2];rfl) rfl),⟨rfl,rfl,a,rfl,e4,λb hb=>by cases hb⟩,λa q ha hq=>by
    obtain rfl:=qSj ha;rw[if_pos (.inl c1)]at hq;cases hq⟩
  .rw[if_neg c1]at hg;by_cases c2:leV (win s a w)>9223372036854775807
   .rw[if_pos c2]at hg;rw[if_pos (.inr c2)];exact⟨_,_,aa_ hg (ai_ (by rw[e2];rfl) rfl),⟨rfl,rfl,a,rfl,e4,λb hb=>by cases hb⟩,λa q ha hq=>by
     obtain rfl:=qSj ha;rw[if_pos (.inr c2)]at hq;cases hq⟩
   .rw[if_neg c2]at hg;rw[if_neg (by omega)];exact⟨_,_,aa_ hg (ah_ (by rw[e2];rfl) rfl),⟨rfl,e2,a+w,rfl,by omega,λb hb=>(qSj hb).symm▸rfl⟩,λa q ha hq=>by
     obtain rfl:=qSj ha;rw[if_neg (by omega)]at hq;obtain rfl:=qSj hq;rfl⟩
theorem d_text{s:Str}(hs:s.length<=2000000){o:Option Nat}{d:Xs}(h:DS s o d) :
  ∃v d',bw_ d=some (v,d')/\DS s (o.bind λa=>(tD s a).map (·.2)) d'/\∀a q,o=some a->tD s a=some q->v=q.1:=by
 obtain⟨e1,e2,a,e3,e4,e5⟩:=h;unfold bw_;rw[e1,e3];have hg:=gettext_eq s a e4 hs;cases o with
 | none =>
  refine⟨_,_,aa_ hg (ai_ (by rw[e2];rfl) rfl),⟨rfl,rfl,a,rfl,e4,λb hb=>by cases hb⟩,λa q ha=>by cases ha⟩
 | some b =>
  obtain rfl:=e5 b rfl;simp only[qBs];unfold tD;cases ht:takeT s a with
  | none =>
   rw[ht]at hg;exact⟨_,_,aa_ hg (ai_ (by rw[e2];rfl) rfl),⟨rfl,rfl,a,rfl,e4,λb hb=>by cases hb⟩,λa q ha hq=>by
    obtain rfl:=qSj ha;rw[ht]at hq;cases hq⟩
  | some p =>
   obtain⟨t,p⟩:=p;rw[ht]at hg;exact⟨_,_,aa_ hg (ah_ (by rw[e2];rfl) rfl),⟨rfl,e2,p,rfl,(i9_ ht).1,λb hb=>qSj hb⟩,λa q ha hq=>by
    obtain rfl:=qSj ha;rw[ht]at hq;obtain rfl:=qSj hq;rfl⟩
theorem d_score{s:Str}(hs:s.length<=2000000){o:Option Nat}{d:Xs}(h:DS s o d) :
  ∃v d',cN_ d=some (v,d')/\DS s (o.bind λa=>(sD s a).map (·.2)) d'/\∀a q,o=some a->sD s a=some q->v=q.1:=by
 obtain⟨e1,e2,a,e3,e4,e5⟩:=h;unfold cN_;rw[e1,e3];have el:w64 ((s.length:Int)-(a:Int))=((s.length-a:Nat):Int):=by rw[an_ ⟨by omega,by omega⟩];omega
 rw[el];cases o with
 | none =>
  refine⟨_,_,ai_ (by rw[e2];rfl) rfl,⟨rfl,rfl,a,rfl,e4,λb hb=>by cases hb⟩,λa q ha=>by cases ha⟩
 | some b =>
  obtain rfl:=e5 b rfl;simp only[qBs];unfold sD;by_cases c1:s.length-a<32
  .rw[if_pos c1];exact⟨_,_,ai_ (by rw[e2];simp;omega) rfl,⟨rfl,rfl,a,rfl,e4,λb hb=>by cases hb⟩,λa q ha hq=>by
    obtain rfl:=qSj ha;rw[if_pos c1]at hq;cases hq⟩
  .rw[if_neg c1];have w1:w64 ((a:Int)+32)=((a+32:Nat):Int):=by rw[an_ ⟨by omega,by omega⟩];rfl
   have w2:w64 (((a+32:Nat):Int)-32)=(a:Int):=by rw[an_ ⟨by omega,by omega⟩];omega
   have hsub:bo_ s (w64 ((w64 ((a:Int)+32))-32)) (w64 ((a:Int)+32))=some (win s a 32):=by
    rw[w1,w2,cP_ (by omega) (by omega) (by omega),qTn,qTn,List.drop_take,Nat.add_sub_cancel_left];rfl
   exact⟨_,_,ah_ (by rw[e2];simp;omega) (aa_ hsub rfl),⟨rfl,e2,a+32,w1,by omega,λb hb=>qSj hb⟩,λa q ha hq=>by
    obtain rfl:=qSj ha;rw[if_neg c1]at hq;obtain rfl:=qSj hq;rfl⟩
theorem gC_{s:Str}(hs:s.length<=2000000){o:Option Nat}{d:Yv}(h:RS s o d){w:Nat}(h1:1<=w)(h8:w<=8) :
  ∃v d',ar_ d (w:Int)=some (v,d')/\RS s (o.bind λa=>(nD s w a).map (·.2)) d'/\∀a q,o=some a->nD s w a=some q->v=q.1:=by
 obtain⟨e1,e2,a,e3,e4,e5⟩:=h;unfold ar_;have el:w64 ((s.length:Int)-(a:Int))=((s.length-a:Nat):Int):=by rw[an_ ⟨by omega,by omega⟩];omega
 cases o with
 | none =>
  refine⟨_,_,ai_ (by rw[e2];rfl) rfl,⟨e1,rfl,a,e3,e4,λb hb=>by cases hb⟩,λa q ha=>by cases ha⟩
 | some b =>
  obtain rfl:=e5 b rfl;simp only[qBs];by_cases c1:s.length-a<w
  .unfold nD;rw[if_pos (.inl c1)];exact⟨_,_,ai_ (by rw[e1,e2,e3,el];simp;omega) rfl,⟨e1,rfl,a,e3,e4,λb hb=>by cases hb⟩,λa q ha hq=>by
    obtain rfl:=qSj ha;rw[if_pos (.inl c1)]at hq;cases hq⟩
  .have h:a+w<=s.length:=by omega
   have hc:(d.Zj||decide ((w64 ((d.S_.length:Int)-d.At_))<(w:Int)))=false:=by rw[e1,e2,e3,el];simp;omega
   have hdl:∀j,j<=w->((win s a w).drop (w-j)).length=j:=λj hj=>by rw[List.length_drop,f8_ h];omega
   have hlv:∀j,j<=w->leV ((win s a w).drop (w-j))<2^(8*j):=λj hj=>by
    have:=leV_lt ((win s a w).drop (w-j))
    rwa [hdl j hj]at this
   have hstep:∀j,j<w->leV ((win s a w).drop (w-j))<36028797018963968->bv_ d (((leV ((win s a w).drop (w-j)):Nat):Int),(w:Int)-1-(j:Int))=some (.next (((leV ((win s a w).drop (w-(j+1))):Nat):Int),(w:Int)-1-((j+1:Nat):Int))):=λj hj hlt=>by
    unfold bv_;refine ai_ (by simp;omega) (ah_ (by simp;omega) ?_);have ei:w64 (d.At_+((w:Int)-1-(j:Int)))=((a+(w-1-j):Nat):Int):=by
     rw[e3,an_ ⟨by omega,by omega⟩];omega
    show Option.bind (bB_ d.S_ (w64 (d.At_+((w:Int)-1-(j:Int))))) _=_;rw[ei,e1];refine aa_ (g9_ (by omega)) ?_;rw[ll_ h hj];simp only[leV];generalize s[a+(w-1-j)]'(by omega)=b;have hb:=b.toNat_lt;generalize leV ((win s a w).drop (w-j))=v at hlt ⊢;show some (Step.next (w64 ((w64 ((v:Int)*256))+(w64 (b.toNat:Int))),w64 ((w:Int)-1-(j:Int)-1)))=_;rw[an_ (n:=(v:Int)*256) ⟨by omega,by omega⟩,an_ (n:=(b.toNat:Int)) ⟨by omega,by omega⟩,an_ (n:=(v:Int)*256+(b.toNat:Int)) ⟨by omega,by omega⟩,an_ ⟨by omega,by omega⟩]
    congr 3
    .omega
    .omega
   have hsmall:∀j,j<w->j<=6->leV ((win s a w).drop (w-j))<36028797018963968:=λj hj h6=>by
    have:=hlv j (by omega);have hp:2^(8*j)<=2^48:=Nat.pow_le_pow_right (by omega) (by omega);omega
   have hfull:(win s a w).drop (w-w)=win s a w:=by simp
   have e0:(win s a w).drop (w-0)=[]:=List.drop_eq_nil_of_le (by rw[f8_ h];omega);have estart:((0:Int),w64 ((w:Int)-1))=(((leV ((win s a w).drop (w-0)):Nat):Int),(w:Int)-1-((0:Nat):Int)):=by
    rw[e0,an_ ⟨by omega,by omega⟩];simp[leV]
   by_cases c2:leV (win s a w)>9223372036854775807
   .
    have hw8:w=8:=by
     have:=hlv w (Nat.le_refl _);rw[hfull]at this;rcases Nat.lt_or_ge w 8 with h'|h'
     .have hp:2^(8*w)<=2^56:=Nat.pow_le_pow_right (by omega) (by omega);omega
     .omega
    subst hw8;have h7:¬leV ((win s a 8).drop (8-7))<36028797018963968:=by
     have hd:=ll_ (s:=s) (at_:=a) (w:=8) (j:=7) h (by omega);have e8:(win s a 8).drop (8-(7+1))=win s a 8:=by simp
     rw[e8]at hd;rw[hd]at c2;simp only[leV]at c2;have:=(s[a+(8-1-7)]'(by omega)).toNat_lt;omega
    have hl:aj_ (bv_ d) BIG (0,w64 (((8:Nat):Int)-1))=some (.ret (0,Yv.mk d.S_ d.At_ true)):=by
     rw[estart];refine bh_ (T:=λj=>(((leV ((win s a 8).drop (8-j)):Nat):Int),((8:Nat):Int)-1-(j:Int))) 7 (by decide) (λj hj=>hstep j (by omega) (hsmall j (by omega) (by omega))) ?_;unfold bv_;exact ai_ (by show decide (((8:Nat):Int)-1-((7:Nat):Int)>=0)=true;decide) (ai_ (by show decide (((leV ((win s a 8).drop (8-7)):Nat):Int)>=36028797018963968)=true;simp only[qDe];omega) rfl)
    unfold nD;rw[if_pos (.inr c2)];exact⟨_,_,ah_ hc (aa_ hl rfl),⟨e1,rfl,a,e3,e4,λb hb=>by cases hb⟩,λa q ha hq=>by
     obtain rfl:=qSj ha;rw[if_pos (.inr c2)]at hq;cases hq⟩
   .have hl:aj_ (bv_ d) BIG (0,w64 ((w:Int)-1))=some (.fall ((leV (win s a w):Nat):Int)):=by
     rw[estart];refine bh_ (T:=λj=>(((leV ((win s a w).drop (w-j)):Nat):Int),(w:Int)-1-(j:Int))) w (bE_ (by omega)) (λj hj=>hstep j hj ?_) ?_
     .rcases Nat.lt_or_ge 6 j with h6|h6
      .have:j=7/\w=8:=by omega
       obtain⟨rfl,rfl⟩:=this;have hd:=ll_ (s:=s) (at_:=a) (w:=8) (j:=7) h (by omega);have e8:(win s a 8).drop (8-(7+1))=win s a 8:=by simp
       rw[e8]at hd;rw[hd]at c2;simp only[leV]at c2;omega
      .exact hsmall j hj h6
     .unfold bv_;refine ah_ (by simp;omega) ?_;rw[hfull]
    unfold nD;rw[if_neg (by omega)];refine⟨_,_,ah_ hc (aa_ hl rfl),⟨e1,e2,a+w,?_,by omega,λb hb=>qSj hb⟩,λa q ha hq=>by
     obtain rfl:=qSj ha;rw[if_neg (by omega)]at hq;obtain rfl:=qSj hq;rfl⟩
    show w64 (d.At_+(w:Int))=_;rw[e3,an_ ⟨by omega,by omega⟩];rfl
theorem r_text{s:Str}(hs:s.length<=2000000){o:Option Nat}{d:Yv}(h:RS s o d)(n:Nat)(hn:n<=1000000) :
  ∃v d',be_ d (n:Int)=some (v,d')/\RS s (o.bind λa=>if s.length-a<n then none else some (a+n)) d'/\∀a,o=some a->¬s.length-a<n->v=win s a n:=by
 obtain⟨e1,e2,a,e3,e4,e5⟩:=h;unfold be_;have el:w64 ((s.length:Int)-(a:Int))=((s.length-a:Nat):Int):=by rw[an_ ⟨by omega,by omega⟩];omega
 rw[e1,e3,el];cases o with
 | none =>
  exact⟨_,_,ai_ (by rw[e2];rfl) rfl,⟨rfl,rfl,a,rfl,e4,λb hb=>by cases hb⟩,λa ha=>by cases ha⟩
 | some b =>
  obtain rfl:=e5 b rfl;simp only[qBs];by_cases c1:s.length-a<n
  .rw[if_pos c1];exact⟨_,_,ai_ (by rw[e2];simp;omega) rfl,⟨rfl,rfl,a,rfl,e4,λb hb=>by cases hb⟩,λa ha hq=>by
    obtain rfl:=qSj ha;exact absurd c1 hq⟩
  .rw[if_neg c1];have w1:w64 ((a:Int)+(n:Int))=((a+n:Nat):Int):=by rw[an_ ⟨by omega,by omega⟩];rfl
   have w2:w64 (((a+n:Nat):Int)-(n:Int))=(a:Int):=by rw[an_ ⟨by omega,by omega⟩];omega
   have hsub:bo_ s (w64 ((w64 ((a:Int)+(n:Int)))-(n:Int))) (w64 ((a:Int)+(n:Int)))=some (win s a n):=by
    rw[w1,w2,cP_ (by omega) (by omega) (by omega),qTn,qTn,List.drop_take,Nat.add_sub_cancel_left];rfl
   exact⟨_,_,ah_ (by rw[e2];simp;omega) (aa_ hsub rfl),⟨rfl,e2,a+n,w1,by omega,λb hb=>qSj hb⟩,λa ha hq=>by
    obtain rfl:=qSj ha;rfl⟩
theorem jF_{s:Str}(hs:s.length<=2000000){o:Option Nat}{d:Yv}(h:RS s o d) :
  ∃v d' t d2,ar_ d 2=some (v,d')/\be_ d' v=some (t,d2)/\RS s (o.bind λa=>(tD s a).map (·.2)) d2/\∀a q,o=some a->tD s a=some q->t=q.1:=by
 obtain⟨v,d',h1,h2,h3⟩:=gC_ hs h (w:=2) (by omega) (by omega);cases o with
 | none =>
  obtain⟨e1,e2,a,e3,e4,e5⟩:=h2;have hbad:d'.Zj=true:=e2;refine⟨v,d',[],Yv.mk d'.S_ d'.At_ true,h1,?_,⟨e1,rfl,a,e3,e4,λb hb=>by cases hb⟩,λa q ha=>by cases ha⟩;unfold be_;exact ai_ (by rw[hbad];rfl) rfl
 | some a =>
  have ha:a<=s.length:=by
   obtain⟨_,_,a',_,e4,e5⟩:=h;have:=e5 a rfl;omega
  simp only[qBs]at h2 ⊢;unfold tD takeT;by_cases c1:s.length<a+2
  .rw[if_pos c1];have hn:nD s 2 a=none:=by unfold nD;rw[if_pos (.inl (by omega))]
   rw[hn]at h2;obtain⟨e1,e2,b,e3,e4,e5⟩:=h2;have hbad:d'.Zj=true:=e2;refine⟨v,d',[],Yv.mk d'.S_ d'.At_ true,h1,?_,⟨e1,rfl,b,e3,e4,λb hb=>by cases hb⟩,λa' q ha' hq=>by
    obtain rfl:=qSj ha';rw[if_pos c1]at hq;cases hq⟩
   unfold be_;exact ai_ (by rw[hbad];rfl) rfl
  .rw[if_neg c1];have hv2:=leV_two s a (by omega);have hn:nD s 2 a=some ((leV (win s a 2):Int),a+2):=by unfold nD;rw[if_neg (by omega)]
   rw[hn]at h2;have hv:v=(leV (win s a 2):Int):=h3 a _ rfl hn;subst hv;obtain⟨t,d2,g1,g2,g3⟩:=r_text hs h2 (leV (win s a 2)) (by omega);simp only[Option.map_some,qBs]at g2 g3;refine⟨_,d',t,d2,h1,g1,?_,λa' q ha' hq => ?_⟩
   .by_cases c2:s.length<a+2+leV (win s a 2)
    .rw[if_pos c2];rw[if_pos (by omega)]at g2;exact g2
    .rw[if_neg c2];rw[if_neg (by omega)]at g2;exact g2
   .obtain rfl:=qSj ha';rw[if_neg c1]at hq;split at hq
    .cases hq
    .rename_i c2;obtain rfl:=qSj hq;exact g3 (a+2) rfl (by omega)
def entD(s:Str)(a:Nat):Option (Xq×Xr×Nat):=(nD s 4 a).bind λq1=>(nD s 4 q1.2).bind λq2=>(nD s 4 q2.2).bind λq3=>(nD s 4 q3.2).bind λq4=>(nD s 8 q4.2).bind λq5=>(nD s 8 q5.2).bind λq6=>(tD s q6.2).bind λq7=>(tD s q7.2).bind λq8=>(tD s q8.2).bind λq9=>(tD s q9.2).bind λq10=>(nD s 4 q10.2).bind λq11=>(nD s 1 q11.2).bind λq12=>(sD s q12.2).bind λq13=>some (Xq.mk q1.1 q2.1 q3.1 q7.1 q4.1 q8.1 q9.1 q10.1 q5.1 q6.1 [],Xr.mk q13.1 q11.1 q12.1,q13.2)
theorem ent_steps (s:Str) (o:Option Nat):(o.bind λa=>(entD s a).map (·.2.2))=((((((((((((((o.bind λa=>(nD s 4 a).map (·.2)).bind λa=>(nD s 4 a).map (·.2)).bind λa=>(nD s 4 a).map (·.2)).bind λa=>(nD s 4 a).map (·.2)).bind λa=>(nD s 8 a).map (·.2)).bind λa=>(nD s 8 a).map (·.2)).bind λa=>(tD s a).map (·.2)).bind λa=>(tD s a).map (·.2)).bind λa=>(tD s a).map (·.2)).bind λa=>(tD s a).map (·.2)).bind λa=>(nD s 4 a).map (·.2)).bind λa=>(nD s 1 a).map (·.2)).bind λa=>(sD s a).map (·.2))):=by
 cases o with
 | none=>rfl
 | some a =>
  simp only[qBs];unfold entD;cases nD s 4 a with
  | none=>rfl
  | some q1 =>
   simp only[qBs,Option.map_some];cases nD s 4 q1.2 with
   | none=>rfl
   | some q2 =>
    simp only[qBs,Option.map_some];cases nD s 4 q2.2 with
    | none=>rfl
    | some q3 =>
     simp only[qBs,Option.map_some];cases nD s 4 q3.2 with
     | none=>rfl
     | some q4 =>
      simp only[qBs,Option.map_some];cases nD s 8 q4.2 with
      | none=>rfl
      | some q5 =>
       simp only[qBs,Option.map_some];cases nD s 8 q5.2 with
       | none=>rfl
       | some q6 =>
        simp only[qBs,Option.map_some];cases tD s q6.2 with
        | none=>rfl
        | some q7 =>
         simp only[qBs,Option.map_some];cases tD s q7.2 with
         | none=>rfl
         | some q8 =>
          simp only[qBs,Option.map_some];cases tD s q8.2 with
          | none=>rfl
          | some q9 =>
           simp only[qBs,Option.map_some];cases tD s q9.2 with
           | none=>rfl
           | some q10 =>
            simp only[qBs,Option.map_some];cases nD s 4 q10.2 with
            | none=>rfl
            | some q11 =>
             simp only[qBs,Option.map_some];cases nD s 1 q11.2 with
             | none=>rfl
             | some q12 =>
              simp only[qBs,Option.map_some];cases sD s q12.2<;>rfl
theorem d_entry{s:Str}(hs:s.length<=2000000){o:Option Nat}{d:Xs}(h:DS s o d) :
  ∃x d',b0_ d=some (x,d')/\DS s (o.bind λa=>(entD s a).map (·.2.2)) d'/\∀a q,o=some a->entD s a=some q->x=Xn.mk q.1 q.2.1:=by
 obtain⟨v1,d1,a1,b1,c1⟩:=hC_ hs h (w:=4) (by omega) (by omega);obtain⟨v2,d2,a2,b2,c2⟩:=hC_ hs b1 (w:=4) (by omega) (by omega);obtain⟨v3,d3,a3,b3,c3⟩:=hC_ hs b2 (w:=4) (by omega) (by omega);obtain⟨v4,d4,a4,b4,c4⟩:=hC_ hs b3 (w:=4) (by omega) (by omega);obtain⟨v5,d5,a5,b5,c5⟩:=hC_ hs b4 (w:=8) (by omega) (by omega);obtain⟨v6,d6,a6,b6,c6⟩:=hC_ hs b5 (w:=8) (by omega) (by omega);obtain⟨v7,d7,a7,b7,c7⟩:=d_text hs b6;obtain⟨v8,d8,a8,b8,c8⟩:=d_text hs b7;obtain⟨v9,d9,a9,b9,c9⟩:=d_text hs b8;obtain⟨v10,d10,a10,b10,c10⟩:=d_text hs b9;obtain⟨v11,d11,a11,b11,c11⟩:=hC_ hs b10 (w:=4) (by omega) (by omega);obtain⟨v12,d12,a12,b12,c12⟩:=hC_ hs b11 (w:=1) (by omega) (by omega)
 obtain⟨v13,d13,a13,b13,c13⟩:=d_score hs b12;refine⟨_,d13,aa_ a1 (aa_ a2 (aa_ a3 (aa_ a4 (aa_ a5 (aa_ a6 (aa_ a7 (aa_ a8 (aa_ a9 (aa_ a10 (aa_ a11 (aa_ a12 (aa_ a13 rfl)))))))))))),?_,?_⟩
 .rw[ent_steps s o];exact b13
 .intro a q ha hq;subst ha;unfold entD at hq;obtain⟨q1,p1,hq⟩:=qOb.1 hq;obtain⟨q2,p2,hq⟩:=qOb.1 hq;obtain⟨q3,p3,hq⟩:=qOb.1 hq;obtain⟨q4,p4,hq⟩:=qOb.1 hq;obtain⟨q5,p5,hq⟩:=qOb.1 hq;obtain⟨q6,p6,hq⟩:=qOb.1 hq;obtain⟨q7,p7,hq⟩:=qOb.1 hq;obtain⟨q8,p8,hq⟩:=qOb.1 hq;obtain⟨q9,p9,hq⟩:=qOb.1 hq;obtain⟨q10,p10,hq⟩:=qOb.1 hq;obtain⟨q11,p11,hq⟩:=qOb.1 hq;obtain⟨q12,p12,hq⟩:=qOb.1 hq;obtain⟨q13,p13,hq⟩:=qOb.1 hq;obtain rfl:=qSj hq;have f1:=c1 a q1 rfl p1;have f2:=c2 q1.2 q2 (by simp[p1]) p2;have f3:=c3 q2.2 q3 (by simp[p1,p2]) p3;have f4:=c4 q3.2 q4 (by simp[p1,p2,p3]) p4;have f5:=c5 q4.2 q5 (by simp[p1,p2,p3,p4]) p5
  have f6:=c6 q5.2 q6 (by simp[p1,p2,p3,p4,p5]) p6;have f7:=c7 q6.2 q7 (by simp[p1,p2,p3,p4,p5,p6]) p7;have f8:=c8 q7.2 q8 (by simp[p1,p2,p3,p4,p5,p6,p7]) p8;have f9:=c9 q8.2 q9 (by simp[p1,p2,p3,p4,p5,p6,p7,p8]) p9;have f10:=c10 q9.2 q10 (by simp[p1,p2,p3,p4,p5,p6,p7,p8,p9]) p10;have f11:=c11 q10.2 q11 (by simp[p1,p2,p3,p4,p5,p6,p7,p8,p9,p10]) p11;have f12:=c12 q11.2 q12 (by simp[p1,p2,p3,p4,p5,p6,p7,p8,p9,p10,p11]) p12;have f13:=c13 q12.2 q13 (by simp[p1,p2,p3,p4,p5,p6,p7,p8,p9,p10,p11,p12]) p13;rw[f1,f2,f3,f4,f5,f6,f7,f8,f9,f10,f11,f12,f13]
theorem sD_text{s:Str}{a:Nat}:(sD s a).map (·.2)=if s.length-a<32 then none else some (a+32):=by
 unfold sD;split<;>rfl
theorem r_entry{s:Str}(hs:s.length<=2000000){o:Option Nat}{d:Yv}(h:RS s o d) :
  ∃n r d',c9_ d=some (n,r,d')/\RS s (o.bind λa=>(entD s a).map (·.2.2)) d'/\∀a q,o=some a->entD s a=some q->n=q.1/\r=q.2.1:=by
 obtain⟨v1,d1,a1,b1,c1⟩:=gC_ hs h (w:=4) (by omega) (by omega);obtain⟨v2,d2,a2,b2,c2⟩:=gC_ hs b1 (w:=4) (by omega) (by omega);obtain⟨v3,d3,a3,b3,c3⟩:=gC_ hs b2 (w:=4) (by omega) (by omega);obtain⟨v4,d4,a4,b4,c4⟩:=gC_ hs b3 (w:=4) (by omega) (by omega);obtain⟨v5,d5,a5,b5,c5⟩:=gC_ hs b4 (w:=8) (by omega) (by omega);obtain⟨v6,d6,a6,b6,c6⟩:=gC_ hs b5 (w:=8) (by omega) (by omega);obtain⟨_,_,v7,d7,a7,a7',b7,c7⟩:=jF_ hs b6;obtain⟨_,_,v8,d8,a8,a8',b8,c8⟩:=jF_ hs b7;obtain⟨_,_,v9,d9,a9,a9',b9,c9⟩:=jF_ hs b8;obtain⟨_,_,v10,d10,a10,a10',b10,c10⟩:=jF_ hs b9;obtain⟨v11,d11,a11,b11,c11⟩:=gC_ hs b10 (w:=4) (by omega) (by omega)
 obtain⟨v12,d12,a12,b12,c12⟩:=gC_ hs b11 (w:=1) (by omega) (by omega);obtain⟨v13,d13,a13,b13,c13⟩:=r_text hs b12 32 (by omega);refine⟨_,_,d13,aa_ a1 (aa_ a2 (aa_ a3 (aa_ a4 (aa_ a5 (aa_ a6 (aa_ a7 (aa_ a7' (aa_ a8 (aa_ a8' (aa_ a9 (aa_ a9' (aa_ a10 (aa_ a10' (aa_ a11 (aa_ a12 (aa_ a13 rfl)))))))))))))))),?_,?_⟩
 .have e:(o.bind λa=>(entD s a).map (·.2.2))=((((((((((((((o.bind λa=>(nD s 4 a).map (·.2)).bind λa=>(nD s 4 a).map (·.2)).bind λa=>(nD s 4 a).map (·.2)).bind λa=>(nD s 4 a).map (·.2)).bind λa=>(nD s 8 a).map (·.2)).bind λa=>(nD s 8 a).map (·.2)).bind λa=>(tD s a).map (·.2)).bind λa=>(tD s a).map (·.2)).bind λa=>(tD s a).map (·.2)).bind λa=>(tD s a).map (·.2)).bind λa=>(nD s 4 a).map (·.2)).bind λa=>(nD s 1 a).map (·.2)).bind λa=>if s.length-a<32 then none else some (a+32))):=by
   simp only[←sD_text];exact ent_steps s o
  rw[e];exact b13
 .intro a q ha hq;subst ha;unfold entD at hq;obtain⟨q1,p1,hq⟩:=qOb.1 hq;obtain⟨q2,p2,hq⟩:=qOb.1 hq;obtain⟨q3,p3,hq⟩:=qOb.1 hq;obtain⟨q4,p4,hq⟩:=qOb.1 hq;obtain⟨q5,p5,hq⟩:=qOb.1 hq;obtain⟨q6,p6,hq⟩:=qOb.1 hq;obtain⟨q7,p7,hq⟩:=qOb.1 hq;obtain⟨q8,p8,hq⟩:=qOb.1 hq;obtain⟨q9,p9,hq⟩:=qOb.1 hq;obtain⟨q10,p10,hq⟩:=qOb.1 hq;obtain⟨q11,p11,hq⟩:=qOb.1 hq;obtain⟨q12,p12,hq⟩:=qOb.1 hq;obtain⟨q13,p13,hq⟩:=qOb.1 hq;obtain rfl:=qSj hq;have f1:=c1 a q1 rfl p1;have f2:=c2 q1.2 q2 (by simp[p1]) p2;have f3:=c3 q2.2 q3 (by simp[p1,p2]) p3;have f4:=c4 q3.2 q4 (by simp[p1,p2,p3]) p4;have f5:=c5 q4.2 q5 (by simp[p1,p2,p3,p4]) p5
  have f6:=c6 q5.2 q6 (by simp[p1,p2,p3,p4,p5]) p6;have f7:=c7 q6.2 q7 (by simp[p1,p2,p3,p4,p5,p6]) p7;have f8:=c8 q7.2 q8 (by simp[p1,p2,p3,p4,p5,p6,p7]) p8;have f9:=c9 q8.2 q9 (by simp[p1,p2,p3,p4,p5,p6,p7,p8]) p9;have f10:=c10 q9.2 q10 (by simp[p1,p2,p3,p4,p5,p6,p7,p8,p9]) p10;have f11:=c11 q10.2 q11 (by simp[p1,p2,p3,p4,p5,p6,p7,p8,p9,p10]) p11;have f12:=c12 q11.2 q12 (by simp[p1,p2,p3,p4,p5,p6,p7,p8,p9,p10,p11]) p12;have h13:¬s.length-q12.2<32/\q13=(win s q12.2 32,q12.2+32):=by
   unfold sD at p13;split at p13
   .cases p13
   .rename_i hh;exact⟨hh,(qSj p13).symm⟩
  have f13:=c13 q12.2 (by simp[p1,p2,p3,p4,p5,p6,p7,p8,p9,p10,p11,p12]) h13.1;rw[f1,f2,f3,f4,f5,f6,f7,f8,f9,f10,f11,f12,f13,h13.2];exact⟨rfl,rfl⟩
theorem m5_{s:Str}{a:Nat}{q:Xq×Xr×Nat}(ha:a<=s.length)(h:entD s a=some q):q.2.2<=s.length/\a+77<=q.2.2/\q.1.Xp<=9223372036854775807/\q.1.Xv.length<=s.length:=by
 unfold entD at h;obtain⟨q1,p1,h⟩:=qOb.1 h;obtain⟨q2,p2,h⟩:=qOb.1 h;obtain⟨q3,p3,h⟩:=qOb.1 h;obtain⟨q4,p4,h⟩:=qOb.1 h;obtain⟨q5,p5,h⟩:=qOb.1 h;obtain⟨q6,p6,h⟩:=qOb.1 h;obtain⟨q7,p7,h⟩:=qOb.1 h;obtain⟨q8,p8,h⟩:=qOb.1 h;obtain⟨q9,p9,h⟩:=qOb.1 h;obtain⟨q10,p10,h⟩:=qOb.1 h;obtain⟨q11,p11,h⟩:=qOb.1 h;obtain⟨q12,p12,h⟩:=qOb.1 h;obtain⟨q13,p13,h⟩:=qOb.1 h;obtain rfl:=qSj h;have b1:=hB_ ha p1;have b2:=hB_ b1.1 p2;have b3:=hB_ b2.1 p3;have b4:=hB_ b3.1 p4;have b5:=hB_ b4.1 p5;have b6:=hB_ b5.1 p6;have b7:=i9_ p7;have b8:=i9_ p8;have b9:=i9_ p9;have b10:=i9_ p10;have b11:=hB_ b10.1 p11;have b12:=hB_ b11.1 p12
 have b13:=sD_le b12.1 p13;simp only;omega
def eq_(s:Str):Nat->Nat->Option (List (Xq×Xr)) | 0,_=>none|f+1,a=>if a<s.length then(entD s a).bind λq=>(eq_ s f q.2.2).map λl=>(q.1,q.2.1)::l else some []
def ds_(q:Xq×Xr):Xn:=Xn.mk q.1 q.2
theorem P_entries{s:Str}(hs:s.length<=2000000):∀(f a:Nat) (out:List Xn) {d:Xs},DS s (some a) d->a<=s.length->s.length-a<f->out.length<=a ->
  ∃o,aj_ (b1_ s) (f+1) (d,out)=some o/\match eq_ s f a with|some l=>o.1.Zz=false/\o.2=out++l.map ds_|none=>o.1.Zz=true
 | 0,a,out,d,_,_,hf,_=>by omega
 | f + 1,a,out,d,hd,ha,hf,ho=>by
  obtain⟨e1,e2,a',e3,_,e5⟩:=id hd;obtain rfl:=e5 a rfl;unfold eq_;by_cases hlt:a'<s.length
  .rw[if_pos hlt];obtain⟨x,d',h1,h2,h3⟩:=d_entry hs hd;have hstep:b1_ s (d,out)=some (.next (d',out++[x])):=by
    unfold b1_;refine ai_ (by simp only[e2,e3];simp;omega) (aa_ h1 (aa_ (dj_ (by simp;omega) (by simp;omega)) rfl))
   cases hq:entD s a' with
   | none =>
    simp only[qBs,hq,Option.map_none]at h2;have hb:d'.Zz=true:=h2.2.1;refine⟨(d',out++[x]),e1_ hstep (bO_ (n:=f) ?_),hb⟩;unfold b1_;exact ah_ (by simp[hb]) rfl
   | some q =>
    obtain⟨l1,l2,_⟩:=m5_ ha hq;simp only[qBs,hq,Option.map_some]at h2 ⊢;obtain⟨o,g1,g2⟩:=P_entries hs f q.2.2 (out++[x]) h2 l1 (by omega) (by simp;omega);refine⟨o,e1_ hstep g1,?_⟩;have hx:=h3 a' q rfl hq;cases hl:eq_ s f q.2.2 with
    | none=>rw[hl]at g2;exact g2
    | some l =>
     rw[hl]at g2;refine⟨g2.1,?_⟩;rw[g2.2,hx];simp[ds_]
  .rw[if_neg hlt];refine⟨(d,out),bO_ ?_,e2,by simp⟩;unfold b1_;exact ah_ (by simp only[e3];simp;omega) rfl
def e3_(s:Str)(id:Int)(f a:Nat):Option (List (Xq×Xr)):=(eq_ s f a).bind λl=>if l.all (λq=>q.1.Xw==id)then some l else none
theorem R_entries{s:Str}(hs:s.length<=2000000)(n:Xq)(e:Int):∀(f a:Nat) (ns:List Xq) (rs:List Xr) {d:Yv},RS s (some a) d->a<=s.length->s.length-a<f->ns.length<=a->rs.length<=a ->
  aj_ (bJ_ (s,e) n) f (ns,rs,d)=some (match e3_ s n.Id_ f a with|some l => .fall (ns++l.map (·.1),rs++l.map (·.2))|none => .ret ([],2))
 | 0,a,ns,rs,d,_,_,hf,_,_=>by omega
 | f + 1,a,ns,rs,d,hd,ha,hf,hn,hr=>by
  obtain⟨e1,e2,a',e3,_,e5⟩:=id hd;obtain rfl:=e5 a rfl;unfold e3_ eq_;by_cases hlt:a'<s.length
  .rw [if_pos hlt];obtain⟨m,r,d',h1,h2,h3⟩:=r_entry hs hd;cases hq:entD s a' with
   | none =>
    simp only[qBs,hq,Option.map_none]at h2;have hb:d'.Zj=true:=h2.2.1;refine bO_ ?_;unfold bJ_;exact ai_ (by simp only[e3];simp;omega) (aa_ h1 (ai_ (by simp[hb]) rfl))
   | some q =>
    obtain⟨l1,l2,_⟩:=m5_ ha hq;simp only[qBs,hq,Option.map_some]at h2 ⊢;obtain⟨rfl,rfl⟩:=h3 a' q rfl hq;have hb:d'.Zj=false:=h2.2.1;by_cases hp:q.1.Xw=n.Id_
    .have hstep:bJ_ (s,e) n (ns,rs,d)=some (.next (ns++[q.1],rs++[q.2.1],d')):=by
      unfold bJ_;exact ai_ (by simp only[e3];simp;omega) (aa_ h1 (ah_ (by simp[hb,hp]) (aa_ (dj_ (by simp;omega) (by simp;omega)) (aa_ (dj_ (by simp;omega) (by simp;omega)) rfl))))
     have ih:=R_entries hs n e f q.2.2 (ns++[q.1]) (rs++[q.2.1]) h2 l1 (by omega) (by simp;omega) (by simp;omega);refine e1_ hstep (ih.trans ?_);unfold e3_;cases eq_ s f q.2.2 with
     | none=>rfl
     | some l =>
      simp only[qBs,Option.map_some,List.all_cons,hp,beq_self_eq_true,Bool.true_and];cases hall:l.all (λq=>q.1.Xw==n.Id_)with
      | true=>simp
      | false=>simp
    .have hz:((Option.map (λl=>(q.1,q.2.1)::l) (eq_ s f q.2.2)).bind λl=>if l.all (λq=>q.1.Xw==n.Id_)then some l else none)=none:=by
      cases eq_ s f q.2.2 with
      | none=>rfl
      | some l=>simp[hp]
     rw[hz];refine bO_ ?_;unfold bJ_;exact ai_ (by simp only[e3];simp;omega) (aa_ h1 (ai_ (by simp[hp]) rfl))
  .rw[if_neg hlt];refine bO_ ?_;unfold bJ_;refine ah_ (by simp only[e3];simp;omega) ?_;simp
abbrev Gn:=List Xq×List Str×Int
def fG(rec:Xq->Xr->Int->Gn)(left:Int)(acc:List Xq×List Str)(q:Xq×Xr):(List Xq×List Str) ⊕ Gn:=if(rec q.1 q.2 (left-(acc.1.length:Int))).2.2=0 then .inl (acc.1++(rec q.1 q.2 (left-(acc.1.length:Int))).1,acc.2++(rec q.1 q.2 (left-(acc.1.length:Int))).2.1)else .inr ([],acc.2++(rec q.1 q.2 (left-(acc.1.length:Int))).2.1,(rec q.1 q.2 (left-(acc.1.length:Int))).2.2)
def m6_(n:Xq)(d:Str):Xq:=Xq.mk n.Id_ n.Xw n.Yz n.Xv n.Xp n.Yf n.Ym n.Yy n.Xo n.Yx d
def aJ_(n:Xq):Int:=if n.Xp>=2147483648 then 3 else 1
def bm_ (s:Xx):Nat->Xq->Xr->Int->Gn
 | 0,_,_,_=>([],[],2)
 | f + 1,n,r,left=>if left<1 then([],[],2)else
   if (az_ s (aJ_ n) r).2.2=0 then
    (if n.Xp>=2147483648 then
     (match e3_ (az_ s (aJ_ n) r).1 n.Id_ ((az_ s (aJ_ n) r).1.length+1) 0 with
      | none=>([],(az_ s (aJ_ n) r).2.1,2)
      | some l=>outS (λacc=>(acc.1,acc.2,0)) (λe=>e) (bS_ (fG (bm_ s f) left) ([n],(az_ s (aJ_ n) r).2.1) l))
    else([m6_ n (az_ s (aJ_ n) r).1],(az_ s (aJ_ n) r).2.1,0))
   else([],(az_ s (aJ_ n) r).2.1,(az_ s (aJ_ n) r).2.2)
theorem hD_{s:Xx}(hs:StOK s)(k:Int)(r:Xr):(az_ s k r).1.length<=1048576/\(az_ s k r).2.1.length<=1057:=by
 unfold az_;split
 .have h2:=hN_le (nP r.Yj.toNat);obtain⟨h3,h4⟩:=jD_ hs k (hN (nP r.Yj.toNat)) r.Xc r.Yj.toNat 0 r.Yj.toNat;exact⟨Nat.le_trans h3 (n9_ h2),Nat.le_trans h4 (cntN_le h2)⟩
 .simp
theorem iy_ {s:Xx} (hs:StOK s):∀(f:Nat) {n:Xq} {r:Xr} {left:Int},(bm_ s f n r left).2.2=0->1<=(bm_ s f n r left).1.length/\((bm_ s f n r left).1.length:Int)<=left/\(bm_ s f n r left).2.1.length<=1057*(bm_ s f n r left).1.length
 | 0,n,r,left,h=>by cases h
 | f + 1,n,r,left,h=>by
  obtain⟨_,hb⟩:=hD_ hs (aJ_ n) r;unfold bm_ at h ⊢;split at h
  .cases h
  .rename_i hl;rw[if_neg hl];split at h
   .rename_i hc;rw[if_pos hc];split at h
    .rename_i hd;rw[if_pos hd];split at h
     .cases h
     .rename_i l _;have hi:=mI_ (f:=fG (bm_ s f) left) (λ_ acc=>1<=acc.1.length/\(acc.1.length:Int)<=left/\acc.2.length<=1057*acc.1.length) (λe=>e.2.2≠0) (xs:=l) (k:=0) (s0:=([n],(az_ s (aJ_ n) r).2.1)) ⟨by simp,by simp;omega,by simp;omega⟩ λi acc q _ ⟨a1,a2,a3⟩=>by
       unfold fG;refine⟨λs' he => ?_,λe he => ?_⟩
       .split at he
        .rename_i h0;obtain⟨b1,b2,b3⟩:=iy_ hs f h0;obtain rfl:=Sum.inl.inj he;simp only[qLa];omega
        .cases he
       .split at he
        .cases he
        .rename_i h0;obtain rfl:=Sum.inr.inj he;exact h0
      cases hr:bS_ (fG (bm_ s f) left) ([n],(az_ s (aJ_ n) r).2.1) l with
      | inl acc=>exact hi.1 acc hr
      | inr e =>
       rw[hr]at h;exact absurd h (hi.2 e hr)
    .rename_i hd;rw[if_neg hd];simp only[List.length_singleton];omega
   .rename_i hc;exact absurd h hc
theorem oa_(n:Xq):cl_ n=some (decide (n.Xp>=2147483648)):=rfl
theorem add_kids{l:List (Xq×Xr)}{n:Xq}{r:Xr}(h:l.length<=1073741824):aE_ (l.map ds_) (λ(u1:Xn)=>Option.bind (bK_ u1 (Xn.mk n r)) λ(v1:Bool)=>some v1)=some (!(l.all λq=>q.1.Xw==n.Id_)):=by
 unfold aE_;generalize hp:(λ(u:Xn)=>u.Yh.Xw != n.Id_)=p;refine aa_ (a:=at_ p (l.map ds_)) ?_ ?_
 .unfold br_;have h:=aZ_ (body:=aR_ (l.map ds_) (λ(u1:Xn)=>Option.bind (bK_ u1 (Xn.mk n r)) λ(v1:Bool)=>some v1)) (l.map ds_) (λi x=>if p x then some ((i:Nat):Int)else none) (bE_ (by simp;omega)) (λi hi => ?_) ?_
  .rw[ba_ h (λr=>rfl) (x := -1) rfl,ha_]
  .unfold aR_;refine ai_ (bi_ hi) (aa_ (as_ hi) (aa_ (a:=p (l.map ds_)[i]) (by rw[←hp];rfl) ?_));cases p (l.map ds_)[i]with
   | true=>rfl
   | false =>
    rw[aw_ (by simp at hi;omega)];rfl
  .unfold aR_;exact ah_ (bx_ _) rfl
 .congr 1
  rcases kr_ p (l.map ds_)with⟨h1,h2⟩|⟨i,x,h1,h2,h3,h4,_⟩
  .rw[h2];have:l.all (λq=>q.1.Xw==n.Id_)=true:=by
    rw[List.all_eq_true];intro q hq;have:=List.find?_eq_none.1 h1 (ds_ q) (List.mem_map.2 ⟨q,hq,rfl⟩);rw[←hp]at this;simpa[ds_]using this
   rw[this];rfl
  .rw[h2];have:l.all (λq=>q.1.Xw==n.Id_)=false:=by
    rw[←Bool.not_eq_true,List.all_eq_true];intro hall;obtain⟨q,hq,rfl⟩:=List.mem_map.1 (List.mem_of_getElem? h3);have:=hall q hq;rw[←hp]at h4;simp only[ds_,bne_iff_ne,ne_eq,beq_iff_eq]at h4 this;exact h4 this
   rw[this];simp
theorem mJ_(n:Xq){R:Type}(k:Int->Option R):(Option.bind ((cl_ n).bind λy1=>bif y1 then some 3 else some 1) k)=k (aJ_ n):=by
 rw[oa_];unfold aJ_;by_cases h:n.Xp>=2147483648
 .simp[h]
 .simp[h]
theorem mK_{α:Type}{l:List α}{i:Nat}{x:α}{ys:List α}(h:l.drop i=x::ys):l[i]? = some x/\l.drop (i+1)=ys/\i<l.length:=by
 have hi:i<l.length:=by
  rcases Nat.lt_or_ge i l.length with h'|h'
  .exact h'
  .rw[List.drop_of_length_le h']at h;cases h
 rw[List.drop_eq_getElem_cons hi]at h;injection h with h1 h2;exact⟨by rw[List.getElem?_eq_getElem hi,h1],h2,hi⟩
theorem mL_(s:Str):∀(f a:Nat) {l:List (Xq×Xr)},eq_ s f a=some l->l.length<=f
 | 0,a,l,h=>by cases h
 | f+1,a,l,h=>by
  unfold eq_ at h;split at h
  .obtain⟨q,_,h⟩:=qOb.1 h;obtain⟨l',h1,rfl⟩:=Option.map_eq_some_iff.1 h;have:=mL_ s f _ h1;simp;omega
  .obtain rfl:=qSj h;simp
theorem add_P {s:Xx} (hs:StOK s):∀(f m:Nat) {ns:List Xq} {seen:List Str} {most:Int} {n:Xq} {r:Xr},f<=m->(most-(ns.length:Int)).toNat<f->most<=1024->seen.length<=1057*ns.length+2 ->
  ∃e b rd,aL_ m (Xb.mk ns most) (Xj.mk s seen) (Xn.mk n r)=some (e,b,rd)/\e=(bm_ s f n r (most-(ns.length:Int))).2.2/\(e=0->b=Xb.mk (ns++(bm_ s f n r (most-(ns.length:Int))).1) most/\rd=Xj.mk s (seen++(bm_ s f n r (most-(ns.length:Int))).2.1))
 | 0,_,ns,seen,most,n,r,_,hf,_,_=>by omega
 | f + 1, m,ns,seen,most,n,r,hm,hf,hmost,hseen=>by
  obtain⟨m,rfl⟩:∃m',m=m'+1:=⟨m-1,by omega⟩;show ∃e b rd,aU_ (aL_ m) _ _ _=some (e,b,rd)/\_;unfold bm_;by_cases hl:most-(ns.length:Int)<1
  .rw[if_pos hl];refine⟨2,Xb.mk ns most,Xj.mk s seen,?_,rfl,λe=>by cases e⟩;unfold aU_;exact ai_ (by simp only[qDe];omega) rfl
  .rw [if_neg hl];obtain⟨hb1,hb2⟩:=hD_ hs (aJ_ n) r;have hcond:∀{R:Type} (X Y:R),(bif(decide ((ns.length:Int)>=most))then X else Y)=Y:=λX Y=>by
    have:decide ((ns.length:Int)>=most)=false:=by simp only[qDf];omega
    rw[this];rfl
   have hcon:=contents_eq hs (aJ_ n) r (seen:=seen) (by omega);by_cases hc:(az_ s (aJ_ n) r).2.2=0
   .rw [if_pos hc];by_cases hd:n.Xp>=2147483648
    .rw [if_pos hd];have hdir:cl_ n=some true:=by rw[oa_];simp[hd]
     -- the entries
     obtain⟨o,o1,o2⟩:=P_entries (s:=(az_ s (aJ_ n) r).1) (by omega) ((az_ s (aJ_ n) r).1.length+1) 0 [] (d:=Xs.mk (az_ s (aJ_ n) r).1 0 false) ⟨rfl,rfl,0,rfl,Nat.zero_le _,λb hb=>qSj hb⟩ (Nat.zero_le _) (by omega) (by simp);have hents:ek_ (az_ s (aJ_ n) r).1=some (o.2,!o.1.Zz):=by
      unfold ek_;exact aa_ (gB_ o1 (Nat.le_of_lt (bE_ (by omega)))) rfl
     have hroom:room 128 ns [n]=some (ns++[n]):=dj_ (by simp;omega) (by simp;omega);have hpre:∀{R:Option (Int×Xb×Xj)},(Option.bind (bif(!(!o.1.Zz))then some true else(aE_ o.2 (λ(u1:Xn)=>Option.bind (bK_ u1 (Xn.mk n r)) λ(v1:Bool)=>some v1)).bind λy7=>some y7) λ(y8:Bool)=>bif y8 then some ((2,(Xb.mk (ns++[n]) most),Xj.mk s (seen++(az_ s (aJ_ n) r).2.1)))else(aj_ (bk_ (o.2,!o.1.Zz) (aL_ m)) BIG (0,most,s.Yr,s.Xh,seen++(az_ s (aJ_ n) r).2.1,ns++[n],o.2)).bind λwo2=>match wo2 with
       | .ret r2=>some r2
       | .fall o2=>some ((0,(Xb.mk o2.2.2.2.2 o2.1),(Xj.mk (Xx.mk o2.2.1 o2.2.2.1) o2.2.2.2.1))))=R->aU_ (aL_ m) (Xb.mk ns most) (Xj.mk s seen) (Xn.mk n r)=R:=λhR=>by
      unfold aU_;simp only[hcond,mJ_];refine aa_ hcon (ah_ (by simp[hc]) (aa_ hdir (ah_ rfl (aa_ hroom (aa_ hents hR)))))
     cases hE:eq_ (az_ s (aJ_ n) r).1 ((az_ s (aJ_ n) r).1.length+1) 0 with
     | none =>
      rw[hE]at o2;have hk:e3_ (az_ s (aJ_ n) r).1 n.Id_ ((az_ s (aJ_ n) r).1.length+1) 0=none:=by unfold e3_;rw[hE];rfl
      rw[hk];exact⟨_,_,_,hpre (aa_ (a:=true) (ai_ (by rw[o2];rfl) rfl) (ai_ rfl rfl)),rfl,λe=>by cases e⟩
     | some l =>
      rw[hE]at o2;obtain⟨o3,o4⟩:=o2;rw[List.nil_append]at o4;have hll:=mL_ _ _ _ hE;have hkids:=add_kids (l:=l) (n:=n) (r:=r) (by omega);cases hall:l.all (λq=>q.1.Xw==n.Id_)with
      | false =>
       have hk:e3_ (az_ s (aJ_ n) r).1 n.Id_ ((az_ s (aJ_ n) r).1.length+1) 0=none:=by unfold e3_;rw[hE];simp[hall]
       rw[hk];rw[hall]at hkids;refine⟨_,_,_,hpre (aa_ (a:=true) (ah_ (by rw[o3];rfl) ?_) (ai_ rfl rfl)),rfl,λe=>by cases e⟩;rw[o4];exact aa_ hkids rfl
      | true =>
       have hk:e3_ (az_ s (aJ_ n) r).1 n.Id_ ((az_ s (aJ_ n) r).1.length+1) 0=some l:=by unfold e3_;rw[hE];simp[hall]
       rw[hk];rw[hall]at hkids;have hloop:∀(ys:List (Xq×Xr)) (i:Nat) (acc:List Xq×List Str),l.drop i=ys->i<=l.length->1<=acc.1.length->(acc.1.length:Int)<=most-(ns.length:Int)->acc.2.length<=1057*acc.1.length ->
         ∃w,aj_ (bk_ (l.map ds_,true) (aL_ m)) (ys.length+1) ((i:Int),most,s.Yr,s.Xh,seen++acc.2,ns++acc.1,l.map ds_)=some w/\(match bS_ (fG (bm_ s f) (most-(ns.length:Int))) acc ys with
          | .inl a=>w = .fall (most,s.Yr,s.Xh,seen++a.2,ns++a.1)
          | .inr e=>e.2.2≠0/\∃b rd,w = .ret (e.2.2,b,rd)):=by
        intro ys
        induction ys with
        | nil =>
         intro i acc hdr hi _ _ _;have:i=l.length:=by
          have:=congrArg List.length hdr;simp at this;omega
         subst this;refine⟨.fall (most,s.Yr,s.Xh,seen++acc.2,ns++acc.1),bO_ ?_,by simp[bS_]⟩;unfold bk_;exact ah_ (by simp) rfl
        | cons q ys ih =>
         intro i acc hdr hi a1 a2 a3;obtain⟨g1,g2,g3⟩:=mK_ hdr;obtain⟨e,b,rd,k1,k2,k3⟩:=add_P hs f m (ns:=ns++acc.1) (seen:=seen++acc.2) (most:=most) (n:=q.1) (r:=q.2) (by omega) (by simp;omega) hmost (by simp;omega);have hleft:most-((ns++acc.1).length:Int)=most-(ns.length:Int)-(acc.1.length:Int):=by simp;omega
         rw[hleft]at k2 k3;have hget:ak_ (l.map ds_) (i:Int)=some (Xn.mk q.1 q.2):=by rw[eC_,List.getElem?_map,g1];rfl
         simp only[bS_];unfold fG;by_cases h0:(bm_ s f q.1 q.2 (most-(ns.length:Int)-(acc.1.length:Int))).2.2=0
         .rw[if_pos h0];obtain⟨k4,k5⟩:=k3 (k2.trans h0);obtain⟨c1,c2,c3⟩:=iy_ hs f h0;obtain⟨w,w1,w2⟩:=ih (i+1) (acc.1++(bm_ s f q.1 q.2 (most-(ns.length:Int)-(acc.1.length:Int))).1,acc.2++(bm_ s f q.1 q.2 (most-(ns.length:Int)-(acc.1.length:Int))).2.1) g2 (by omega) (by simp;omega) (by simp;omega) (by simp;omega);refine⟨w,e1_ ?_ w1,w2⟩;unfold bk_;refine ai_ (by simp;omega) (aa_ hget (aa_ k1 (ah_ (by rw[k2,h0];rfl) ?_)));rw[k4,k5,aw_ (by omega),List.append_assoc,List.append_assoc]
         .rw[if_neg h0];refine⟨.ret (e,b,rd),bO_ ?_,h0,b,rd,by rw[k2]⟩;unfold bk_;exact ai_ (by simp;omega) (aa_ hget (aa_ k1 (ai_ (by rw[k2];simpa using h0) rfl)))
       obtain⟨w,w1,w2⟩:=hloop l 0 ([n],(az_ s (aJ_ n) r).2.1) (by simp) (Nat.zero_le _) (by simp) (by simp;omega) (by simp;omega);have w1':=gB_ w1 (show l.length+1<=BIG from Nat.le_of_lt (bE_ (by omega)));have hgo:∀{R},((some w:Option (Out (Int×Int×List Xi×List Str×List Xq) (Int×Xb×Xj))).bind λwo2=>match wo2 with
         | .ret r2=>some r2
         | .fall o2=>some ((0,(Xb.mk o2.2.2.2.2 o2.1),(Xj.mk (Xx.mk o2.2.1 o2.2.2.1) o2.2.2.2.1))))=R->aU_ (aL_ m) (Xb.mk ns most) (Xj.mk s seen) (Xn.mk n r)=R:=λhR=>by
        refine hpre (aa_ (a:=false) (ah_ (by rw[o3];rfl) ?_) (ah_ rfl ?_))
        .rw[o4];exact aa_ hkids rfl
        .rw[o4,o3];have w1'':aj_ (bk_ (l.map ds_,!false) (aL_ m)) BIG (0,most,s.Yr,s.Xh,seen++(az_ s (aJ_ n) r).2.1,ns++[n],l.map ds_)=some w:=w1';rw[w1''];exact hR
       cases hr:bS_ (fG (bm_ s f) (most-(ns.length:Int))) ([n],(az_ s (aJ_ n) r).2.1) l with
       | inl a =>
        rw[hr]at w2;subst w2;simp only[hr,outS];exact⟨_,_,_,hgo rfl,rfl,λ_=>⟨rfl,rfl⟩⟩
       | inr e =>
        rw[hr]at w2;obtain⟨h0,b,rd,rfl⟩:=w2;simp only[hr,outS];exact⟨_,_,_,hgo rfl,rfl,λe0=>absurd e0 h0⟩
    .rw[if_neg hd];have hdir:cl_ n=some false:=by rw[oa_];simp[hd]
     refine⟨0,Xb.mk (ns++[m6_ n (az_ s (aJ_ n) r).1]) most,Xj.mk s (seen++(az_ s (aJ_ n) r).2.1),?_,rfl,λ_=>⟨rfl,rfl⟩⟩;unfold aU_;simp only[hcond,mJ_];exact aa_ hcon (ah_ (by simp[hc]) (aa_ hdir (ai_ rfl (aa_ (dj_ (by simp;omega) (by simp;omega)) rfl))))
   .rw[if_neg hc];refine⟨(az_ s (aJ_ n) r).2.2,Xb.mk ns most,Xj.mk s (seen++(az_ s (aJ_ n) r).2.1),?_,rfl,λe=>absurd e hc⟩;unfold aU_;simp only[hcond,mJ_];exact aa_ hcon (ai_ (by simpa using hc) rfl)
theorem get_R {s:Xx} (hs:StOK s):∀(f m:Nat) {n:Xq} {r:Xr} {left:Int},f<=m->left.toNat<f->left<=1024 ->
  ∃q,bT_ m s n r left=some q/\q.2=(bm_ s f n r left).2.2/\(q.2=0->q.1=(bm_ s f n r left).1)
 | 0,_,n,r,left,_,hf,_=>by omega
 | f + 1, m,n,r,left,hm,hf,hmost=>by
  obtain⟨m,rfl⟩:∃m',m=m'+1:=⟨m-1,by omega⟩;show ∃q,cf_ (bT_ m) s n r left=some q/\_;unfold bm_;by_cases hl:left<1
  .rw[if_pos hl];refine⟨([],2),?_,rfl,λe=>by cases e⟩;unfold cf_;exact aa_ (a:=true) (ai_ (by simpa using hl) rfl) (ai_ rfl rfl)
  .rw [if_neg hl];obtain⟨hb1,hb2⟩:=hD_ hs (aJ_ n) r;cases hok:d3_ r with
   | false =>
    have hfr:az_ s (aJ_ n) r=([],[],2):=by unfold az_;rw[hok];rfl
    rw[hfr];refine⟨([],2),?_,rfl,λe=>by cases e⟩;unfold cf_;exact aa_ (a:=true) (ah_ (by simpa using hl) (aa_ (jc_ r) (by rw[hok];rfl))) (ai_ rfl rfl)
   | true =>
    have hpre:∀{R},((b9_ n.Xp).bind λy3=>(bif(!y3)then(cu_ s 1 r).bind λy4=>some (([m6_ n y4.1],y4.2))else(cu_ s 3 r).bind λy5=>(bif(y5.2 != 0)then some (([],y5.2))else Option.bind (aj_ (bJ_ y5 n) BIG ([],[],(Yv.mk y5.1 0 false))) λ(wo1:Out ((List Xq)×(List Xr)) ((List Xq)×Int))=>match wo1 with
      | .ret r1=>some r1
      | .fall o1=>(aj_ (cv_ (bT_ m) s left) BIG (0,o1.1,o1.2,[n])).bind λwo2=>match wo2 with
       | .ret r2=>some r2
       | .fall o2=>some ((o2,0)))))=R->cf_ (bT_ m) s n r left=R:=λhR=>by
     unfold cf_;exact aa_ (a:=false) (ah_ (by simpa using hl) (aa_ (jc_ r) (by rw[hok];rfl))) (ah_ rfl hR)
    by_cases hd:n.Xp>=2147483648
    .have hk:aJ_ n=3:=if_pos hd;have hdir:b9_ n.Xp=some true:=by unfold b9_;simp[hd]
     rw[hk]at hb1 hb2 ⊢;have hcon:=jE_ hs (k:=3) (by omega) r;by_cases hc:(az_ s 3 r).2.2=0
     .rw [if_pos hc,if_pos hd];have hen:=gB_ (R_entries (s:=(az_ s 3 r).1) (by omega) n (az_ s 3 r).2.2 ((az_ s 3 r).1.length+1) 0 [] [] (d:=Yv.mk (az_ s 3 r).1 0 false) ⟨rfl,rfl,0,rfl,Nat.zero_le _,λb hb=>qSj hb⟩ (Nat.zero_le _) (by omega) (by simp) (by simp)) (show(az_ s 3 r).1.length+1<=BIG from Nat.le_of_lt (bE_ (by omega)));cases hkd:e3_ (az_ s 3 r).1 n.Id_ ((az_ s 3 r).1.length+1) 0 with
      | none =>
       rw[hkd]at hen;exact⟨([],2),hpre (aa_ hdir (ah_ rfl (aa_ hcon (ah_ (by simp[hc]) (aa_ hen rfl))))),rfl,λe=>by cases e⟩
      | some l =>
       rw[hkd]at hen;have hll:l.length<=(az_ s 3 r).1.length+1:=by
        unfold e3_ at hkd;obtain⟨l',h1,h2⟩:=qOb.1 hkd;split at h2
        .obtain rfl:=qSj h2;exact mL_ _ _ _ h1
        .cases h2
       have hloop:∀(ys:List (Xq×Xr)) (i:Nat) (acc:List Xq×List Str),l.drop i=ys->i<=l.length->1<=acc.1.length->(acc.1.length:Int)<=left ->
         ∃w,aj_ (cv_ (bT_ m) s left) (ys.length+1) ((i:Int),l.map (·.1),l.map (·.2),acc.1)=some w/\(match bS_ (fG (bm_ s f) left) acc ys with
          | .inl a=>w = .fall a.1
          | .inr e=>e.2.2≠0/\w = .ret ([],e.2.2)):=by
        intro ys
        induction ys with
        | nil =>
         intro i acc hdr hi _ _;have:i=l.length:=by
          have:=congrArg List.length hdr;simp at this;omega
         subst this;refine⟨.fall acc.1,bO_ ?_,by simp[bS_]⟩;unfold cv_;exact ah_ (by simp) rfl
        | cons q ys ih =>
         intro i acc hdr hi a1 a2;obtain⟨g1,g2,g3⟩:=mK_ hdr;have hleft:w64 (left-(acc.1.length:Int))=left-(acc.1.length:Int):=an_ ⟨by omega,by omega⟩;obtain⟨p,k1,k2,k3⟩:=get_R hs f m (n:=q.1) (r:=q.2) (left:=left-(acc.1.length:Int)) (by omega) (by omega) (by omega);have hget1:ak_ (l.map (·.1)) (i:Int)=some q.1:=by rw[eC_,List.getElem?_map,g1];rfl
         have hget2:ak_ (l.map (·.2)) (i:Int)=some q.2:=by rw[eC_,List.getElem?_map,g1];rfl
         simp only[bS_];unfold fG;by_cases h0:(bm_ s f q.1 q.2 (left-(acc.1.length:Int))).2.2=0
         .rw[if_pos h0];have k4:=k3 (k2.trans h0);obtain⟨c1,c2,c3⟩:=iy_ hs f h0;obtain⟨w,w1,w2⟩:=ih (i+1) (acc.1++(bm_ s f q.1 q.2 (left-(acc.1.length:Int))).1,acc.2++(bm_ s f q.1 q.2 (left-(acc.1.length:Int))).2.1) g2 (by omega) (by simp;omega) (by simp;omega);refine⟨w,e1_ ?_ w1,w2⟩;unfold cv_;refine ai_ (by simp;omega) (aa_ hget1 (aa_ hget2 (aa_ (by rw[hleft];exact k1) (ah_ (by rw[k2,h0];rfl) (aa_ (a:=acc.1++(bm_ s f q.1 q.2 (left-(acc.1.length:Int))).1) (by rw[k4];exact dj_ (show acc.1.length+_<=_ by omega) (show(acc.1.length+_)*128<=_ by omega)) ?_)))));rw[aw_ (by omega)]
         .rw[if_neg h0];refine⟨.ret ([],p.2),bO_ ?_,h0,by rw[k2]⟩;unfold cv_;exact ai_ (by simp;omega) (aa_ hget1 (aa_ hget2 (aa_ (by rw[hleft];exact k1) (ai_ (by rw[k2];simpa using h0) rfl))))
       obtain⟨w,w1,w2⟩:=hloop l 0 ([n],(az_ s 3 r).2.1) (by simp) (Nat.zero_le _) (by simp) (by simp;omega);have w1':=gB_ w1 (show l.length+1<=BIG from Nat.le_of_lt (bE_ (by omega)));cases hr:bS_ (fG (bm_ s f) left) ([n],(az_ s 3 r).2.1) l with
       | inl a =>
        rw[hr]at w2;subst w2;simp only[hr,outS];exact⟨(a.1,0),hpre (aa_ hdir (ah_ rfl (aa_ hcon (ah_ (by simp[hc]) (aa_ hen (aa_ w1' rfl)))))),rfl,λ_=>rfl⟩
       | inr e =>
        rw[hr]at w2;obtain⟨h0,rfl⟩:=w2;simp only[hr,outS];exact⟨([],e.2.2),hpre (aa_ hdir (ah_ rfl (aa_ hcon (ah_ (by simp[hc]) (aa_ hen (aa_ w1' rfl)))))),rfl,λe0=>absurd e0 h0⟩
     .rw[if_neg hc];exact⟨([],(az_ s 3 r).2.2),hpre (aa_ hdir (ah_ rfl (aa_ hcon (ai_ (by simpa using hc) rfl)))),rfl,λe=>absurd e hc⟩
    .have hk:aJ_ n=1:=if_neg hd;have hdir:b9_ n.Xp=some false:=by unfold b9_;simp[hd]
     rw[hk];have hcon:=jE_ hs (k:=1) (by omega) r;refine⟨([m6_ n (az_ s 1 r).1],(az_ s 1 r).2.2),hpre (aa_ hdir (ai_ rfl (aa_ hcon rfl))),?_,λe => ?_⟩
     .split
      .rename_i hc;exact hc
      .rfl
     .have hc:(az_ s 1 r).2.2=0:=e;rw[if_pos hc,if_neg hd]
def leN(x:Xq):List Xq->Nat | []=>0|y::l=>if y.Id_<=x.Id_ then leN x l+1 else 0
theorem leN_le(x:Xq):∀l,leN x l<=l.length
 | []=>Nat.le_refl _
 | y::l=>by
  unfold leN;have:=leN_le x l;split<;>simp<;>omega
theorem leN_lt(x:Xq):∀{l:List Xq} {i:Nat} (h:i<l.length),i<leN x l->l[i].Id_<=x.Id_
 | y::l,0,_,hi=>by
  unfold leN at hi;split at hi
  .assumption
  .omega
 | y::l,i+1,h,hi=>by
  unfold leN at hi;split at hi
  .exact leN_lt x (l:=l) (i:=i) (by simpa using h) (by omega)
  .omega
theorem leN_at(x:Xq):∀{l:List Xq} (h:leN x l<l.length),¬l[leN x l].Id_<=x.Id_
 | y::l,h=>by
  by_cases hy:y.Id_<=x.Id_
  .have e:leN x (y::l)=leN x l+1:=by simp[leN,hy]
   simp only[e]at h ⊢;exact leN_at x (l:=l) (by simpa using h)
  .have e:leN x (y::l)=0:=by simp[leN,hy]
   simp only[e];exact hy
def insA(out:List Xq)(x:Xq):List Xq:=out.take (leN x out)++[x]++out.drop (leN x out)
theorem insA_len(out:List Xq)(x:Xq):(insA out x).length=out.length+1:=by
 have:=leN_le x out;unfold insA;simp;omega
theorem insA_perm(out:List Xq)(x:Xq):(insA out x).Perm (x::out):=by
 unfold insA;rw[List.append_assoc];have h:=List.perm_middle (a:=x) (l₁ := out.take (leN x out)) (l₂ := out.drop (leN x out));rw[List.take_append_drop]at h;exact h
theorem insA_sorted{out:List Xq}(x:Xq)(h:out.Pairwise λa b=>leK (λn:Xq=>n.Id_) a b=true):(insA out x).Pairwise λa b=>leK (λn:Xq=>n.Id_) a b=true:=by
 have hle:=leN_le x out;unfold insA;have hget:=List.pairwise_iff_getElem.1 h;rw[List.append_assoc];refine List.pairwise_append.2 ⟨h.sublist (List.take_sublist _ _),List.pairwise_append.2 ⟨by simp,h.sublist (List.drop_sublist _ _),λa ha b hb => ?_⟩,λa ha b hb => ?_⟩
 .rw[List.mem_singleton]at ha;subst ha;obtain⟨j,hj,e⟩:=List.getElem_of_mem hb;rw[List.length_drop]at hj;rw[List.getElem_drop]at e;have h1:=leN_at a (l:=out) (by omega);unfold leK;simp only[qDe];rw[←e];rcases Nat.eq_zero_or_pos j with h0|h0
  .subst h0;simp only[Nat.add_zero];omega
  .have:=hget (leN a out) (leN a out+j) (by omega) (by omega) (by omega);unfold leK at this;simp only[qDe]at this;omega
 .obtain⟨i,hi,e⟩:=List.getElem_of_mem ha;rw[List.length_take]at hi;rw[List.getElem_take]at e;have h1:=leN_lt x (l:=out) (i:=i) (by omega) (by omega);rcases List.mem_append.1 hb with hb|hb
  .rw[List.mem_singleton]at hb;subst hb;unfold leK;simp only[qDe];rw[←e];exact h1
  .obtain⟨j,hj,e2⟩:=List.getElem_of_mem hb;rw[List.length_drop]at hj;rw[List.getElem_drop]at e2;rw[←e,←e2];exact hget i (leN x out+j) (by omega) (by omega) (by omega)
theorem sorted_step{out l:List Xq}{i:Nat}(hi:i<l.length)(ho:out.length<=1000000):aj_ (eh_ (out,(i:Int)) l) BIG 0=some ((leN l[i] out:Nat):Int):=by
 have hle:=leN_le l[i] out;refine bh_ (T:=λj=>(j:Int)) (leN l[i] out) (bE_ (by omega)) (λj hj => ?_) ?_
 .have hj':j<out.length:=by omega
  unfold eh_;refine aa_ (a:=true) (ai_ (bi_ hj') (aa_ (as_ hj') (aa_ (as_ hi) ?_))) (ai_ rfl (by rw[aw_ (by omega)]));exact congrArg some (decide_eq_true (leN_lt l[i] hj' hj))
 .unfold eh_;refine aa_ (a:=false) ?_ rfl;by_cases h:leN l[i] out<out.length
  .refine ai_ (bi_ h) (aa_ (as_ h) (aa_ (as_ hi) ?_));exact congrArg some (decide_eq_false (leN_at l[i] h))
  .have:leN l[i] out=out.length:=by omega
   rw[this];exact ah_ (bx_ _) rfl
theorem lM_{l:List Xq}(hl:l.length<=100000):∃y,gq_ l=some y/\y.Perm l/\y.Pairwise λa b=>leK (λn:Xq=>n.Id_) a b=true:=by
 have h:=pd_ (body:=ei_ l) l (λout _ x=>insA out x) (λi s=>(s,(i:Int))) (λi s=>s.length=i) (λs=>s) [] (bE_ (by omega)) rfl (λi s hi hs => ?_) (λs hs => ?_)
 .refine⟨_,aa_ h rfl,?_⟩;have hp:∀(xs acc:List Xq) (k:Nat),(acc.Pairwise λa b=>leK (λn:Xq=>n.Id_) a b=true)->(fJ_ (λout _ x=>insA out x) acc k xs).Perm (xs++acc)/\(fJ_ (λout _ x=>insA out x) acc k xs).Pairwise λa b=>leK (λn:Xq=>n.Id_) a b=true:=λxs=>by
   induction xs with
   | nil=>exact λacc k ha=>⟨List.Perm.refl _,ha⟩
   | cons x xs ih =>
    intro acc k ha;obtain⟨i1,i2⟩:=ih (insA acc x) (k+1) (insA_sorted x ha);refine⟨i1.trans ?_,i2⟩;refine((insA_perm acc x).append_left xs).trans ?_;exact List.perm_middle
  obtain⟨p1,p2⟩:=hp l [] 0 List.Pairwise.nil;rw[List.append_nil]at p1;exact⟨p1,p2⟩
 .have hle:=leN_le l[i] s;refine⟨?_,by rw[insA_len,hs]⟩;unfold ei_;refine ai_ (bi_ hi) (aa_ (sorted_step (out:=s) hi (by omega)) (aa_ (a:=s.take (leN l[i] s)) ?_ (aa_ (a:=s.take (leN l[i] s)) ?_ (aa_ (as_ hi) (aa_ (a:=s.take (leN l[i] s)++[l[i]]) ?_ (aa_ (a:=s.drop (leN l[i] s)) ?_ (aa_ (a:=insA s l[i]) ?_ (by rw[aw_ (by omega)]))))))))
  .show bo_ s 0 ((leN l[i] s:Nat):Int)=_;rw[cP_ (by omega) (by omega) (by omega),qTn];rfl
  .rw[dj_ (by simp;omega) (by simp;omega)];rfl
  .rw[dj_ (by simp;omega) (by simp;omega)]
  .show bo_ s ((leN l[i] s:Nat):Int) (s.length:Int)=_;rw[cP_ (by omega) (by omega) (by omega),qTn,qTn,List.take_length]
  .rw[dj_ (by simp;omega) (by simp;omega)];rfl
 .unfold ei_;exact ah_ (bx_ _) rfl
theorem sorts_agree{l y z:List Xq}(hy:fl_ (λn:Xq=>n.Id_) l=some y)(hz:gq_ l=some z)(hl:l.length<=100000)(hn:(l.map (·.Id_)).Nodup):y=z:=by
 obtain⟨p1,p2⟩:=nv_ hy;obtain⟨z',h1,q1,q2⟩:=lM_ hl;rw[hz]at h1;obtain rfl:=qSj h1;refine kw_ (p1.trans q1.symm) p2 q2 λa ha b hb h3 h4 => ?_
 refine key_inj hn a (p1.subset ha) b (p1.subset hb) ?_;unfold leK at h3 h4;simp only[qDe]at h3 h4;omega
def headD(d:Str):Option (Int×Int×Xq×Xr×Nat):=(nD d 4 0).bind λq1=>(nD d 4 q1.2).bind λq2=>(entD d q2.2).map λq3=>(q1.1,q2.1,q3.1,q3.2.1,q3.2.2)
theorem P_head{d:Str}(hd:d.length<=1024):∃v1 d1 v2 d2 x d3,av_ (Xs.mk d 0 false) 4=some (v1,d1)/\av_ d1 4=some (v2,d2)/\b0_ d2=some (x,d3)/\(match headD d with
  | none=>d3.Zz=true
  | some q=>d3.Zz=false/\d3.at_=(q.2.2.2.2:Int)/\v1=q.1/\v2=q.2.1/\x=Xn.mk q.2.2.1 q.2.2.2.1):=by
 have h0:DS d (some 0) (Xs.mk d 0 false):=⟨rfl,rfl,0,rfl,Nat.zero_le _,λb hb=>qSj hb⟩;obtain⟨v1,d1,a1,b1,c1⟩:=hC_ (by omega) h0 (w:=4) (by omega) (by omega);obtain⟨v2,d2,a2,b2,c2⟩:=hC_ (by omega) b1 (w:=4) (by omega) (by omega);obtain⟨x,d3,a3,b3,c3⟩:=d_entry (by omega) b2;refine⟨v1,d1,v2,d2,x,d3,a1,a2,a3,?_⟩;unfold headD;cases p1:nD d 4 0 with
 | none =>
  simp only[qBs,p1,Option.map_none,Option.bind_none]at b3;exact b3.2.1
 | some q1 =>
  simp only[qBs,p1,Option.map_some]at b3 c2 c3 ⊢;cases p2:nD d 4 q1.2 with
  | none =>
   simp only[p2,Option.map_none,Option.bind_none]at b3;exact b3.2.1
  | some q2 =>
   simp only[qBs,p2,Option.map_some]at b3 c3 ⊢;cases p3:entD d q2.2 with
   | none =>
    simp only[p3,Option.map_none]at b3;exact b3.2.1
   | some q3 =>
    simp only[p3,Option.map_some]at b3 ⊢;obtain⟨_,e2,a,e3,_,e5⟩:=b3;exact⟨e2,by rw[e3,e5 _ rfl],c1 0 q1 rfl p1,c2 q1.2 q2 rfl p2,c3 q2.2 q3 rfl p3⟩
theorem R_head{d:Str}(hd:d.length<=1024):∃v1 d1 v2 d2 n r d3,ar_ (Yv.mk d 0 false) 4=some (v1,d1)/\ar_ d1 4=some (v2,d2)/\c9_ d2=some (n,r,d3)/\(match headD d with
  | none=>d3.Zj=true
  | some q=>d3.Zj=false/\d3.At_=(q.2.2.2.2:Int)/\v1=q.1/\v2=q.2.1/\n=q.2.2.1/\r=q.2.2.2.1):=by
 have h0:RS d (some 0) (Yv.mk d 0 false):=⟨rfl,rfl,0,rfl,Nat.zero_le _,λb hb=>qSj hb⟩;obtain⟨v1,d1,a1,b1,c1⟩:=gC_ (by omega) h0 (w:=4) (by omega) (by omega);obtain⟨v2,d2,a2,b2,c2⟩:=gC_ (by omega) b1 (w:=4) (by omega) (by omega);obtain⟨n,r,d3,a3,b3,c3⟩:=r_entry (by omega) b2;refine⟨v1,d1,v2,d2,n,r,d3,a1,a2,a3,?_⟩;unfold headD;cases p1:nD d 4 0 with
 | none =>
  simp only[qBs,p1,Option.map_none,Option.bind_none]at b3;exact b3.2.1
 | some q1 =>
  simp only[qBs,p1,Option.map_some]at b3 c2 c3 ⊢;cases p2:nD d 4 q1.2 with
  | none =>
   simp only[p2,Option.map_none,Option.bind_none]at b3;exact b3.2.1
  | some q2 =>
   simp only[qBs,p2,Option.map_some]at b3 c3 ⊢;cases p3:entD d q2.2 with
   | none =>
    simp only[p3,Option.map_none]at b3;exact b3.2.1
   | some q3 =>
    simp only[p3,Option.map_some]at b3 ⊢;obtain⟨_,e2,a,e3,_,e5⟩:=b3;obtain⟨f1,f2⟩:=c3 q2.2 q3 rfl p3;exact⟨e2,by rw[e3,e5 _ rfl],c1 0 q1 rfl p1,c2 q1.2 q2 rfl p2,f1,f2⟩
theorem entsF_all(s:Str):∀(f a:Nat) {l:List (Xq×Xr)},a<=s.length->eq_ s f a=some l->∀q∈l,q.1.Xp<=9223372036854775807/\q.1.Xv.length<=s.length
 | 0,a,l,_,h=>by cases h
 | f+1,a,l,ha,h=>by
  unfold eq_ at h;split at h
  .obtain⟨q,hq,h⟩:=qOb.1 h;obtain⟨l',h1,rfl⟩:=Option.map_eq_some_iff.1 h;obtain⟨b1,b2,b3,b4⟩:=m5_ ha hq;intro p hp;rcases List.mem_cons.1 hp with rfl|hp
   .exact⟨b3,b4⟩
   .exact entsF_all s f _ b1 h1 p hp
  .obtain rfl:=qSj h;intro p hp;cases hp
abbrev SmN(n:Xq):Prop:=n.Xp<=9223372036854775807/\n.Xv.length<=9223372036854775807
theorem getN_all {s:Xx} (hs:StOK s):∀(f:Nat) {n:Xq} {r:Xr} {left:Int},SmN n->∀x∈(bm_ s f n r left).1,SmN x
 | 0,n,r,left,_,x,hx=>by cases hx
 | f + 1,n,r,left,hn,x,hx=>by
  obtain⟨hb1,_⟩:=hD_ hs (aJ_ n) r;unfold bm_ at hx;split at hx
  .cases hx
  .split at hx
   .split at hx
    .split at hx
     .cases hx
     .rename_i l hk;have hkl:∀q∈l,SmN q.1:=by
       unfold e3_ at hk;obtain⟨l',h1,h2⟩:=qOb.1 hk;split at h2
       .obtain rfl:=qSj h2;intro q hq;have:=entsF_all _ _ _ (Nat.zero_le _) h1 q hq;exact⟨this.1,by omega⟩
       .cases h2
      have hi:=mI_ (f:=fG (bm_ s f) left) (λ_ acc=>∀y∈acc.1,SmN y) (λe=>e.1=[]) (xs:=l) (k:=0) (s0:=([n],(az_ s (aJ_ n) r).2.1)) (λy hy=>by rw[List.mem_singleton]at hy;rw[hy];exact hn) λi acc q hq a1=>by
       unfold fG;refine⟨λs' he => ?_,λe he => ?_⟩
       .split at he
        .obtain rfl:=Sum.inl.inj he;intro y hy;rcases List.mem_append.1 hy with hy|hy
         .exact a1 y hy
         .exact getN_all hs f (hkl q hq) y hy
        .cases he
       .split at he
        .cases he
        .obtain rfl:=Sum.inr.inj he;rfl
      cases hr:bS_ (fG (bm_ s f) left) ([n],(az_ s (aJ_ n) r).2.1) l with
      | inl acc =>
       rw[hr]at hx;exact hi.1 acc hr x hx
      | inr e =>
       rw[hr]at hx;have he:=hi.2 e hr;simp only[outS,he]at hx;cases hx
    .rw[List.mem_singleton]at hx;rw[hx];exact hn
   .cases hx
theorem entD_small{s:Str}{a:Nat}{q:Xq×Xr×Nat}(ha:a<=s.length)(hs:s.length<=9223372036854775807)(h:entD s a=some q):SmN q.1:=by
 have:=m5_ ha h;exact⟨this.2.2.1,by omega⟩
theorem tree_both {s:Xx} (hs:StOK s) (sc:Str):∃T E rd,de_ (Xj.mk s []) sc=some (T,E,rd)/\di_ s sc=some (T,E)/\T.Xz.length<=1024 /\
  (E=0->OkT T.Xz T.Yk/\∃next many n r a3,(blk s sc 4).2=0/\headD (blk s sc 4).1=some (next,many,n,r,a3)/\many<=1024/\(bm_ s 1025 n r many).2.2=0/\rd=Xj.mk s ([sc]++(bm_ s 1025 n r many).2.1)/\next=T.Yk/\many=(T.Xz.length:Int)/\a3=(blk s sc 4).1.length/\(bm_ s 1025 n r many).1.Perm T.Xz):=by
 have hbl:=ky_ hs sc 4;have hrb:=ep_ hs sc 4 (seen:=[]) (by simp);have hrr:=jb_ hs sc (k:=4) (by omega);unfold de_ di_;by_cases h0:(blk s sc 4).2=0
 .rw [if_pos h0]at hrb;obtain⟨v1,d1,v2,d2,x,d3,p1,p2,p3,p4⟩:=P_head hbl;obtain⟨w1,e1,w2,e2,n,r,e3,q1,q2,q3,q4⟩:=R_head hbl;have err:∀{X:Option (Xy×Int×Xj)} {Y:Option (Xy×Int)},((d3.Zz||(d3.at_ != ((blk s sc 4).1.length:Int)))||decide (v2<1)||decide (v2>1024))=true->((e3.Zj||(e3.At_ != ((blk s sc 4).1.length:Int)))||decide (w2<1)||decide (w2>1024))=true ->
    ∃T E rd,(bif((d3.Zz||(d3.at_ != ((blk s sc 4).1.length:Int)))||decide (v2<1)||decide (v2>1024))then some (Xy.mk 0 [],2,Xj.mk s ([]++[sc]))else X)=some (T,E,rd)/\(bif((e3.Zj||(e3.At_ != ((blk s sc 4).1.length:Int)))||decide (w2<1)||decide (w2>1024))then some (Xy.mk 0 [],(2:Int))else Y)=some (T,E)/\T.Xz.length<=1024 /\
     (E=0->OkT T.Xz T.Yk/\∃next many n r a3,(blk s sc 4).2=0/\headD (blk s sc 4).1=some (next,many,n,r,a3)/\many<=1024/\(bm_ s 1025 n r many).2.2=0/\rd=Xj.mk s ([sc]++(bm_ s 1025 n r many).2.1)/\next=T.Yk/\many=(T.Xz.length:Int)/\a3=(blk s sc 4).1.length/\(bm_ s 1025 n r many).1.Perm T.Xz):=λha hb =>
   ⟨Xy.mk 0 [],2,Xj.mk s ([]++[sc]),ai_ ha rfl,ai_ hb rfl,by simp,λe=>by cases e⟩
  have pre:∀{A:Option (Xy×Int×Xj)} {B:Option (Xy×Int)} {A':Option (Xy×Int×Xj)} {B':Option (Xy×Int)} {P:Xy->Int->Xj->Prop},A=A'->B=B'->(∃T E rd,A'=some (T,E,rd)/\B'=some (T,E)/\P T E rd)->∃T E rd,A=some (T,E,rd)/\B=some (T,E)/\P T E rd:=λha hb h=>by rw[ha,hb];exact h
  refine pre (aa_ hrb (ah_ rfl (aa_ p1 (aa_ p2 (aa_ p3 rfl))))) (aa_ hrr (ah_ (by simp[h0]) (aa_ q1 (aa_ q2 (aa_ q3 rfl))))) ?_;cases hh:headD (blk s sc 4).1 with
  | none =>
   rw[hh]at p4 q4;exact hh▸err (by simp[p4]) (by simp[q4])
  | some q =>
   obtain⟨next,many,n',r',a3⟩:=q;rw[hh]at p4 q4;obtain⟨p5,p6,rfl,rfl,rfl⟩:=p4;obtain⟨q5,q6,rfl,rfl,rfl,rfl⟩:=q4;simp only at *
   by_cases hc:(a3:Int)≠((blk s sc 4).1.length:Int)\/w2<1\/w2>1024
   .refine pre (ai_ ?_ rfl) (ai_ ?_ rfl) ⟨Xy.mk 0 [],2,_,rfl,rfl,by simp,λe=>by cases e⟩
    .simp[p5,p6];omega
    .simp[q5,q6];omega
   .refine pre (ah_ ?_ rfl) (ah_ ?_ rfl) ?_
    .simp[p5,p6];omega
    .simp[q5,q6];omega
    .have hsm:SmN n:=by
      unfold headD at hh;obtain⟨z1,y1,hh⟩:=qOb.1 hh;obtain⟨z2,y2,hh⟩:=qOb.1 hh;obtain⟨z3,y3,hh⟩:=Option.map_eq_some_iff.1 hh;simp only[Prod.mk.injEq]at hh;rw[←hh.2.2.1];have b1:=hB_ (Nat.zero_le _) y1;have b2:=hB_ b1.1 y2;exact entD_small b2.1 (by omega) y3
     obtain⟨e,b,rd,k1,k2,k3⟩:=add_P hs 1025 BIG (ns:=[]) (seen:=[]++[sc]) (most:=w2) (n:=n) (r:=r) (by decide) (by simp;omega) (by omega) (by simp);obtain⟨p,g1,g2,g3⟩:=get_R hs 1025 BIG (n:=n) (r:=r) (left:=w2) (by decide) (by omega) (by omega);have hz:w2-(([]:List Xq).length:Int)=w2:=by simp
     rw[hz]at k2 k3;by_cases hg:(bm_ s 1025 n r w2).2.2=0
     .obtain⟨rfl,rfl⟩:=k3 (k2.trans hg);have g4:=g3 (g2.trans hg);obtain⟨c1,c2,c3⟩:=iy_ hs 1025 hg;have hall:=getN_all hs 1025 (r:=r) (left:=w2) hsm;simp only[List.nil_append]at k1;obtain⟨y,hy⟩:∃y,fl_ (λn:Xq=>n.Id_) (bm_ s 1025 n r w2).1=some y:=⟨_,by unfold fl_;rw[if_pos (by omega)]⟩;obtain⟨z,hz1,hz2,hz3⟩:=lM_ (l:=(bm_ s 1025 n r w2).1) (by omega);obtain⟨y1,y2⟩:=nv_ hy;have hyl:=y1.length_eq;have hzl:=hz2.length_eq;refine pre (aa_ k1 (ah_ (by rw[k2,hg];rfl) (aa_ hy rfl))) (aa_ g1 (ah_ (by rw[g2,hg];rfl) (aa_ (by rw[g4];exact hz1) rfl))) ?_;by_cases hlen:((bm_ s 1025 n r w2).1.length:Int)=w2
      .obtain⟨b1,t1,t2⟩:=hb_ (Xy.mk w1 y) (by show y.length<=1024;omega) (λx hx=>hall x (y1.subset hx));obtain⟨b2,t3,t4⟩:=gA_ (Xy.mk w1 z) (by show z.length<=1024;omega) (λx hx=>hall x (hz2.subset hx));have hnd:∀{l:List Xq} {nx:Int},OkT l nx->(l.map (·.Id_)).Nodup:=λh=>by
        rw[List.nodup_iff_pairwise_ne,List.pairwise_map];exact h.srt.imp λh e=>by omega
       have hyz:(b1=true\/b2=true)->y=z:=λh=>by
        refine sorts_agree hy hz1 (by omega) ?_;rcases h with h|h
        .exact(y1.map _).nodup_iff.1 (hnd (t2.1 h))
        .exact(hz2.map _).nodup_iff.1 (hnd (t4.1 h))
       have hbb:b1=b2:=by
        cases hb1:b1 with
        | true =>
         have:=hyz (.inl hb1);subst this;exact(t4.2 (t2.1 hb1)).symm
        | false =>
         cases hb2:b2 with
         | false=>rfl
         | true =>
          have:=hyz (.inr hb2);subst this;rw[t2.2 (t4.1 hb2)]at hb1;cases hb1
       subst hbb;refine pre (aa_ (a := !b1) (ah_ (by simp;omega) (aa_ t1 rfl)) rfl) (aa_ (a := !b1) (ah_ (by rw[g4];simp;omega) (aa_ t3 rfl)) rfl) ?_;cases hb:b1 with
       | false=>exact⟨Xy.mk 0 [],2,_,rfl,rfl,by simp,λe=>by cases e⟩
       | true =>
        have:=hyz (.inl hb);subst this;exact⟨Xy.mk w1 y,0,_,rfl,rfl,by show y.length<=1024;omega,λ_=>⟨t2.1 hb,w1,w2,n,r,a3,h0,rfl,by omega,hg,rfl,rfl,by show w2=(y.length:Int);omega,by omega,y1.symm⟩⟩
      .refine pre (aa_ (a:=true) (ai_ (by simp;omega) rfl) rfl) (aa_ (a:=true) (ai_ (by rw[g4];simp;omega) rfl) rfl) ⟨Xy.mk 0 [],2,_,rfl,rfl,by simp,λe=>by cases e⟩
     .refine pre (aa_ k1 (ai_ (by rw[k2];simpa using hg) rfl)) (aa_ g1 (ai_ (by rw[g2];simpa using hg) rfl)) ⟨Xy.mk 0 [],(bm_ s 1025 n r w2).2.2,rd,by rw[k2],by rw[g2],by simp,λe=>absurd e hg⟩
 .rw[if_neg h0]at hrb;exact⟨Xy.mk 0 [],(blk s sc 4).2,Xj.mk s [],aa_ hrb (ai_ (by simp[h0]) rfl),aa_ hrr (ai_ (by simp[h0]) rfl),by simp,λe=>absurd e h0⟩
structure Small17(s:Xg):Prop where
 ul:s.Xd.Yn.length<=10
 um:∀u∈s.Xd.Yn,u.Yw.length<=10
 ql:s.Xd.Yp.length<=10
 nl:s.Xd.Xe.Xz.length<=12
 el:s.Xd.Xu.length<=20
 bl:s.Yd.Xh.length<=120
 sl:s.Xt.length<=6
theorem lr_{α:Type}{body:Int->Option (Step Int (Out Unit Bool))}(xs:List α)(p:α->Bool)(hn:xs.length<BIG)(hb:∀i (h:i<xs.length),body (i:Int)=some (if p xs[i]then .done (.ret false)else .next ((i+1:Nat):Int)))
  (he:body (xs.length:Int)=some (.done (.fall ()))):(aj_ body BIG 0=some (.ret false))\/(aj_ body BIG 0=some (.fall ())/\∀x∈xs,p x=false):=by
 have h:=aZ_ xs (λ(_:Nat) x=>if p x then some false else none) hn (λi hi=>by
  rw[hb i hi];cases p xs[i]<;>rfl) he
 rw[mw_ p (λ_=>false)]at h;cases hf:xs.find? p with
 | some x =>
  rw[hf]at h;exact .inl h
 | none =>
  rw[hf]at h;exact .inr ⟨h,λx hx=>by
   have:=List.find?_eq_none.1 hf x hx;simpa using this⟩
theorem small_eq(s:Xg):∃b,hl_ s=some b/\(b=true->Small17 s):=by
 unfold hl_;cases hc:(((((decide ((s.Xd.Yn.length:Int)>10))||(decide ((s.Xd.Yp.length:Int)>10)))||(decide ((s.Xd.Xe.Xz.length:Int)>12)))||(decide ((s.Xd.Xu.length:Int)>20)))||(decide ((s.Yd.Xh.length:Int)>120)))||(decide ((s.Xt.length:Int)>6))with
 | true=>exact⟨false,rfl,λh=>(nomatch h)⟩
 | false =>
  simp only[Bool.or_eq_false_iff,qDf]at hc;have l1:=lr_ (body:=eI_ s) s.Xd.Yn (λu=>decide ((u.Yw.length:Int)>10)) (bE_ (by omega)) (λi hi=>by
   unfold eI_;refine ai_ (bi_ hi) (aa_ (as_ hi) ?_);rw[aw_ (by omega)];cases decide ((s.Xd.Yn[i].Yw.length:Int)>10)<;>rfl) (by unfold eI_;exact ah_ (bx_ _) rfl)
  have l2:=lr_ (body:=eJ_ s) s.Xd.Xe.Xz (λu=>decide ((u.Xl.length:Int)>3000)||decide ((u.Xv.length:Int)>200)) (bE_ (by omega)) (λi hi=>by
   unfold eJ_;refine ai_ (bi_ hi) (aa_ (as_ hi) ?_);rw[aw_ (by omega),as_ hi];simp only[qBs];cases decide ((s.Xd.Xe.Xz[i].Xl.length:Int)>3000)<;>cases decide ((s.Xd.Xe.Xz[i].Xv.length:Int)>200)<;>rfl) (by unfold eJ_;exact ah_ (bx_ _) rfl)
  have l3:=lr_ (body:=eK_ s) s.Yd.Xh (λu=>decide ((u.Xl.length:Int)>2000)||decide ((u.Xc.length:Int)>100)) (bE_ (by omega)) (λi hi=>by
   unfold eK_;refine ai_ (bi_ hi) (aa_ (as_ hi) ?_);rw[aw_ (by omega),as_ hi];simp only[qBs];cases decide ((s.Yd.Xh[i].Xl.length:Int)>2000)<;>cases decide ((s.Yd.Xh[i].Xc.length:Int)>100)<;>rfl) (by unfold eK_;exact ah_ (bx_ _) rfl)
  have l4:=lr_ (body:=eL_ s) s.Xt (λu=>decide ((u.Xc.length:Int)>100)) (bE_ (by omega)) (λi hi=>by
   unfold eL_;refine ai_ (bi_ hi) (aa_ (as_ hi) ?_);rw[aw_ (by omega)];cases decide ((s.Xt[i].Xc.length:Int)>100)<;>rfl) (by unfold eL_;exact ah_ (bx_ _) rfl)
  rcases l1 with l1|⟨l1,hm⟩
  .exact⟨false,ah_ rfl (aa_ l1 rfl),λh=>(nomatch h)⟩
  rcases l2 with l2|⟨l2,_⟩
  .exact⟨false,ah_ rfl (aa_ l1 (aa_ l2 rfl)),λh=>(nomatch h)⟩
  rcases l3 with l3|⟨l3,_⟩
  .exact⟨false,ah_ rfl (aa_ l1 (aa_ l2 (aa_ l3 rfl))),λh=>(nomatch h)⟩
  rcases l4 with l4|⟨l4,_⟩
  .exact⟨false,ah_ rfl (aa_ l1 (aa_ l2 (aa_ l3 (aa_ l4 rfl)))),λh=>(nomatch h)⟩
  .refine⟨true,ah_ rfl (aa_ l1 (aa_ l2 (aa_ l3 (aa_ l4 rfl)))),λ_=>⟨by omega,λu hu => ?_,by omega,by omega,by omega,by omega,by omega⟩⟩;have:=hm u hu;simp only[qDf]at this;omega
theorem Small17.size{s:Xg}(h:Small17 s)(hu:ku_ s.Xd.Yn)(hq:shortQ s.Xd.Yp):SizeOK s.Xd :=
 ⟨by have:=h.ul;omega,λu hm=>by have:=h.um u hm;omega,hu,by have:=h.ql;omega,hq,by have:=h.nl;omega,by have:=h.el;omega⟩
structure TreeAt(s:Xx)(sc:Str)(T:Xy)(E:Int):Prop where
 get:cO_ s sc=some (T,E)
 ref:di_ s sc=some (T,E)
 len:T.Xz.length<=1024
 ok:E=0->OkT T.Xz T.Yk
theorem tree_at{s:Xx}(hs:StOK s)(sc:Str):∃T E,TreeAt s sc T E:=by
 obtain⟨T,E,rd,t1,t2,t3,t4⟩:=tree_both hs sc;exact⟨T,E,by unfold cO_;exact aa_ t1 rfl,t2,t3,λe=>(t4 e).1⟩
structure Ok17(s:Xg):Prop where
 sl:s.Xt.length<=64
 files:FileOK s.Xd
 store:StOK s.Yd
 time:∀x∈s.Xt,0<=x.Yg/\x.Yg<=1099511627776
 asc:∀i x y,0<i->s.Xt[i]? = some x->s.Xt[i-1]? = some y->y.Yg<x.Yg
 tree:∀x∈s.Xt,∃T,TreeAt s.Yd x.Xc T 0
noncomputable def okTr(s:Xx)(sc:Str):Bool:=match di_ s sc with|some (_,e)=>e==0|none=>false
def dX_(l:List Yi)(i:Nat):Yi:=l.getD (i-1) (Yi.mk 0 [])
noncomputable def badS(s:Xg)(i:Nat)(x:Yi):Bool:=(decide (x.Yg<0)||decide (x.Yg>1099511627776))||(decide (0<i)&&decide ((dX_ s.Xt i).Yg>=x.Yg)) || !(okTr s.Yd x.Xc)
theorem ok_modes{T:Xy}(h:OkT T.Xz T.Yk):∀n∈T.Xz,n.Xp<=9223372036854775807/\n.Xv.length<=9223372036854775807:=λn hn=>⟨h.hm hn,by have:=h.name hn;omega⟩
theorem bad_iff{s:Xg}(hl:s.Xt.length<=64)(hf:FileOK s.Xd)(hs:StOK s.Yd):(∀i x,s.Xt[i]? = some x->badS s i x=false)↔Ok17 s:=by
 constructor
 .intro h;have h':∀i x,s.Xt[i]? = some x->(0<=x.Yg/\x.Yg<=1099511627776)/\(0<i->(dX_ s.Xt i).Yg<x.Yg)/\okTr s.Yd x.Xc=true:=λi x hx=>by
   have:=h i x hx;unfold badS at this;simp only[Bool.or_eq_false_iff,qDf,Bool.not_eq_false',Bool.and_eq_false_iff]at this;obtain⟨⟨⟨t1,t2⟩,t3⟩,t4⟩:=this;exact⟨by omega,λh0=>by omega,t4⟩
  refine⟨hl,hf,hs,λx hx => ?_,λi x y h0 hx hy => ?_,λx hx => ?_⟩
  .obtain⟨i,hi⟩:=List.mem_iff_getElem?.1 hx;exact(h' i x hi).1
  .have:=(h' i x hx).2.1 h0;have e:dX_ s.Xt i=y:=by
    unfold dX_;rw[List.getD_eq_getElem?_getD,hy];rfl
   rwa [e]at this
  .obtain⟨i,hi⟩:=List.mem_iff_getElem?.1 hx;have h4:=(h' i x hi).2.2;obtain⟨T,E,hT⟩:=tree_at hs x.Xc;unfold okTr at h4;rw[hT.ref]at h4;have:E=0:=by simpa using h4
   subst this;exact⟨T,hT⟩
 .intro h i x hx;have hxm:=List.mem_of_getElem? hx;obtain⟨t1,t2⟩:=h.time x hxm;obtain⟨T,hT⟩:=h.tree x hxm;have h4:okTr s.Yd x.Xc=true:=by
   unfold okTr;rw[hT.ref];rfl
  have h5:0<i->(dX_ s.Xt i).Yg<x.Yg:=λh0=>by
   have hi:i-1<s.Xt.length:=by
    have:i<s.Xt.length:=by
     rcases Nat.lt_or_ge i s.Xt.length with h'|h'
     .exact h'
     .rw[List.getElem?_eq_none h']at hx;cases hx
    omega
   have hy:=List.getElem?_eq_getElem hi;have e:dX_ s.Xt i=s.Xt[i-1]:=by
    unfold dX_;rw[List.getD_eq_getElem?_getD,hy];rfl
   rw[e];exact h.asc i x _ h0 hx hy
  unfold badS;rw[h4];simp only[Bool.or_eq_false_iff,qDf,Bool.and_eq_false_iff,Bool.not_true];refine⟨⟨⟨by omega,by omega⟩,?_⟩,trivial⟩;by_cases h0:0<i
  .exact .inr (by have:=h5 h0;omega)
  .exact .inl h0
theorem Right_eq(s:Xg)(z:SizeOK s.Xd)(hb:NodesB s.Xd)(hbl:s.Yd.Xh.length<=120):∃b,ht_ s=some b/\(b=true↔Ok17 s):=by
 unfold ht_;by_cases hl:s.Xt.length<=64
 .obtain⟨b1,e1,g1⟩:=pl_ s.Xd z hb;obtain⟨b2,e2,g2⟩:=Right_iff (s:=s.Yd) (by omega);cases b1 with
  | false=>exact⟨false,aa_ (a:=true) (ah_ (by simp;omega) (aa_ e1 rfl)) (aa_ (a:=true) rfl rfl),λh=>(nomatch h),λh=>by rw[g1.2 h.files]⟩
  | true =>
  cases b2 with
  | false=>exact⟨false,aa_ (a:=false) (ah_ (by simp;omega) (aa_ e1 rfl)) (aa_ (a:=true) (ah_ rfl (aa_ e2 rfl)) rfl),λh=>(nomatch h),λh=>by rw[g2.2 h.store]⟩
  | true =>
   have hf:=g1.1 rfl;have hs:=g2.1 rfl;have hlp:=aZ_ (body:=eS_ s) s.Xt (λi x=>if badS s i x then some false else none) (bE_ (by omega)) (λi hi => ?_) (by unfold eS_;exact ah_ (bx_ _) rfl)
   .refine⟨(aB_ (λi x=>if badS s i x then some false else none) 0 s.Xt).getD true,aa_ (a:=false) (ah_ (by simp;omega) (aa_ e1 rfl)) (aa_ (a:=false) (ah_ rfl (aa_ e2 rfl)) (ba_ hlp (λr=>rfl) rfl)),?_⟩;rw[i8_ (p:=λi x => !(badS s i x)) (λi x=>by cases badS s i x<;>rfl)];simp only[Nat.zero_add,Bool.not_eq_true'];exact bad_iff hl hf hs
   .unfold eS_;refine ai_ (bi_ hi) (aa_ (as_ hi) ?_);obtain⟨T,E,hT⟩:=tree_at hs s.Xt[i].Xc;have hok:okTr s.Yd s.Xt[i].Xc=(E==0):=by unfold okTr;rw[hT.ref]
    have hprev:∀h0:0<i,ak_ s.Xt (w64 ((i:Int)-1))=some (dX_ s.Xt i):=λh0=>fV_ _ h0 hi (by omega)
    have hcond:(Option.bind (bif(decide ((i:Int)>0))then(ak_ s.Xt (w64 ((i:Int)-1))).bind λy13=>some (decide (y13.Yg>=s.Xt[i].Yg))else some false) λ(y14:Bool)=>some y14)=some (decide (0<i)&&decide ((dX_ s.Xt i).Yg>=s.Xt[i].Yg)):=by
     by_cases h0:0<i
     .have e:decide ((i:Int)>0)=true:=by simpa using h0
      rw[e,hprev h0];simp[h0]
     .have e:decide ((i:Int)>0)=false:=by simp;omega
      rw[e];simp[h0]
    refine aa_ (a:=(decide (s.Xt[i].Yg<0)||decide (s.Xt[i].Yg>1099511627776))||(decide (0<i)&&decide ((dX_ s.Xt i).Yg>=s.Xt[i].Yg))) ?_ ?_
    .cases hc:decide (s.Xt[i].Yg<0)||decide (s.Xt[i].Yg>1099511627776)with
     | true=>rfl
     | false=>exact ah_ rfl hcond
    .unfold badS;cases hc:(decide (s.Xt[i].Yg<0)||decide (s.Xt[i].Yg>1099511627776))||(decide (0<i)&&decide ((dX_ s.Xt i).Yg>=s.Xt[i].Yg))with
     | true=>rfl
     | false =>
      refine ah_ rfl (aa_ hT.ref ?_);rw[hok];by_cases hE:E=0
      .subst hE;obtain⟨b3,e3,g3⟩:=gA_ T hT.len (ok_modes (hT.ok rfl));have hb3:=g3.2 (hT.ok rfl);subst hb3;refine aa_ (a:=false) (ah_ rfl (aa_ e3 rfl)) ?_;rw[aw_ (by omega)];rfl
      .refine aa_ (a:=true) (ai_ (by simpa using hE) rfl) ?_;have:(E==0)=false:=by simpa using hE
       rw[this];rfl
 .exact⟨false,aa_ (a:=true) (ai_ (by simp;omega) rfl) (aa_ (a:=true) rfl rfl),λh=>(nomatch h),λh=>absurd h.sl hl⟩
theorem srv_fit{x:Xg}(h:Fit te (.st snapN) x):ku_ x.Xd.Yn/\shortQ x.Xd.Yp/\NodesB x.Xd :=
 ⟨λu hu=>((h 1).1.2 u hu).1,λq hq=>((h 1).2.1.2 q hq).1,λn hn=>⟨((h 1).2.2.2.1.2 n hn).2.2.2.2.1.2,((h 1).2.2.2.1.2 n hn).2.2.2.1⟩⟩
theorem copied_loop(l:List Xf)(hl:l.length<=1000)(hm:smallM l):aj_ (cm_ l) BIG (0,l)=some l:=by
 refine copy_loop l hl (λi hi => ?_) ?_
 .unfold cm_;simp only;rw[bi_ hi,as_ hi,aw_ (by omega)];refine ai_ rfl (aa_ rfl (aa_ (clone_texts (hm _ (List.getElem_mem hi))) (aa_ rfl ?_)));exact congrArg (λq=>some (Step.next (((i+1:Nat):Int),q))) (set_self (List.getElem?_eq_getElem hi))
 .unfold cm_;simp only;rw[bx_];rfl
theorem qk_{f:Xm}(z:SizeOK f):cg_ f=some f:=by
 have:=z.nl;have:=z.el;unfold cg_;exact aa_ (clone_users z.ul) (aa_ (copied_loop _ z.ul z.um) (aa_ (clone_quotas z.ql) (aa_ (clone_nodes (by omega)) (aa_ (clone_ints (by omega)) rfl))))
theorem any_score(l:List Xi)(sc:Str):(l.map (·.Xc)).any (eqS sc)=(l.find? (cG_ sc)).isSome:=by
 rw[Bool.eq_iff_iff,List.any_eq_true,List.find?_isSome];simp only[eqS,cG_,List.mem_map,beq_iff_eq];constructor
 .rintro⟨_,⟨b,hb,rfl⟩,e⟩;exact⟨b,hb,e.symm⟩
 .rintro⟨b,hb,e⟩;exact⟨_,⟨b,hb,rfl⟩,e.symm⟩
theorem count_step{l:List Xi}(sc:Str):(decide (au_ eqS (l.map (·.Xc)) (List.replicate l.length (1:Int)) sc 0>0)=(l.find? (cG_ sc)).isSome)/\((l.find? (cG_ sc)).isSome=false ->
  aD_ eqS (l.map (·.Xc)) sc=l.map (·.Xc)++[sc]/\aN_ eqS (l.map (·.Xc)) (List.replicate l.length (1:Int)) sc (w64 (au_ eqS (l.map (·.Xc)) (List.replicate l.length (1:Int)) sc 0+1))=List.replicate (l.length+1) 1):=by
 have ha:=any_score l sc;cases hi:bt_ eqS sc (l.map (·.Xc))with
 | none =>
  have h1:=jh_ hi;have hg:au_ eqS (l.map (·.Xc)) (List.replicate l.length (1:Int)) sc 0=0:=ib_ hi;rw[hg,←ha,h1];refine⟨rfl,λ_=>⟨?_,?_⟩⟩
  .unfold aD_;rw[h1];rfl
  .rw[kC_ hi (by simp)];exact List.replicate_succ'.symm
 | some j =>
  obtain⟨h1,y,h2,_⟩:=f0_ hi;have hj:j<l.length:=by
   rcases Nat.lt_or_ge j l.length with h|h
   .exact h
   .rw[List.getElem?_eq_none (by simpa using h)]at h2;cases h2
  have hg:au_ eqS (l.map (·.Xc)) (List.replicate l.length (1:Int)) sc 0=1:=ic_ hi (by rw[List.getElem?_replicate,if_pos hj]);rw[hg,←ha,h1];exact⟨rfl,λh=>nomatch h⟩
theorem block_loop{s:Xx}(hl:s.Xh.length<=4096):aj_ (c7_ s) BIG (0,[],[])=some (b6_ (aB_ (λi b=>if badB s.Xh i b then some false else none) 0 s.Xh)):=by
 refine dx_ (J:=λi st b=>st=((i:Int),(s.Xh.take i).map (·.Xc),List.replicate i (1:Int))/\b=b6_ (aB_ (λi b=>if badB s.Xh i b then some false else none) i (s.Xh.drop i))) s.Xh.length (bE_ (by omega)) (λst b hJ => ?_) (λi st b hi hJ => ?_) ⟨rfl,rfl⟩
 .obtain⟨rfl,rfl⟩:=hJ;unfold c7_;rw[List.drop_length];exact ah_ (bx_ _) rfl
 .obtain⟨rfl,rfl⟩:=hJ;have hlen:(s.Xh.take i).length=i:=by rw[List.length_take];omega
  obtain⟨c1,c2⟩:=count_step (l:=s.Xh.take i) s.Xh[i].Xc;rw[hlen]at c1 c2;have hb:badB s.Xh i s.Xh[i]=((((!(decide (s.Xh[i].Ya>=1)&&decide (s.Xh[i].Ya<=4)))||decide ((s.Xh[i].Xl.length:Int)>1024))||((s.Xh[i].Xc.length:Int) != 32))||((s.Xh.take i).find? (cG_ s.Xh[i].Xc)).isSome):=by
   unfold badB;rw[at_ge]
  rw[List.drop_eq_getElem_cons hi];simp only[aB_];rw[hb];cases hc:((!(decide (s.Xh[i].Ya>=1)&&decide (s.Xh[i].Ya<=4)))||decide ((s.Xh[i].Xl.length:Int)>1024))||((s.Xh[i].Xc.length:Int) != 32)with
  | true =>
   refine .inl ?_;unfold c7_;exact ai_ (bi_ hi) (aa_ (as_ hi) (aa_ rfl (aa_ (a:=true) (ai_ hc rfl) rfl)))
  | false =>
   cases hf:((s.Xh.take i).find? (cG_ s.Xh[i].Xc)).isSome with
   | true =>
    refine .inl ?_;unfold c7_;exact ai_ (bi_ hi) (aa_ (as_ hi) (aa_ rfl (aa_ (a:=true) (ah_ hc (congrArg some (c1.trans hf))) rfl)))
   | false =>
    obtain⟨c3,c4⟩:=c2 hf;refine .inr ⟨_,?_,rfl,rfl⟩;unfold c7_;refine ai_ (bi_ hi) (aa_ (as_ hi) (aa_ rfl (aa_ (a:=false) (ah_ hc (congrArg some (c1.trans hf))) ?_)));simp only[cond_false];rw[aw_ (by omega),c3,c4,List.take_succ_eq_append_getElem hi,List.map_append];rfl
theorem pu_{s:Xx}(hl:s.Xh.length<=4096):∃b,hy_ s=some b/\(b=true↔StOK s):=by
 obtain⟨b,h1,h2⟩:=Right_iff (s:=s) (by omega);refine⟨b,?_,h2⟩;rw[←h1,pp_ (by omega)];unfold hy_;cases hc:decide (s.Yr<1)||decide (s.Yr>4096)||decide ((s.Xh.length:Int)>s.Yr)with
 | true=>rfl
 | false=>exact ba_ (block_loop hl) (λr=>rfl) rfl
def prevT(l:List Yi)(i:Nat):Int:=if i=0 then -1 else(dX_ l i).Yg
theorem snaps_loop{s:Xg}(hl:s.Xt.length<=64)(hs:StOK s.Yd):aj_ (ci_ s) BIG (-1,0)=some (b6_ (aB_ (λi x=>if badS s i x then some false else none) 0 s.Xt)):=by
 refine dx_ (J:=λi st b=>st=(prevT s.Xt i,(i:Int))/\(-1<=prevT s.Xt i)/\b=b6_ (aB_ (λi x=>if badS s i x then some false else none) i (s.Xt.drop i))) s.Xt.length (bE_ (by omega)) (λst b hJ => ?_) (λi st b hi hJ => ?_) ⟨rfl,Int.le_refl _,rfl⟩
 .obtain⟨rfl,_,rfl⟩:=hJ;unfold ci_;rw[List.drop_length];exact ah_ (bx_ _) rfl
 .obtain⟨rfl,hp,rfl⟩:=hJ;obtain⟨T,E,hT⟩:=tree_at hs s.Xt[i].Xc;have hok:okTr s.Yd s.Xt[i].Xc=(E==0):=by unfold okTr;rw[hT.ref]
  have hc:(decide (s.Xt[i].Yg<=prevT s.Xt i)||decide (s.Xt[i].Yg>1099511627776))=((decide (s.Xt[i].Yg<0)||decide (s.Xt[i].Yg>1099511627776))||(decide (0<i)&&decide ((dX_ s.Xt i).Yg>=s.Xt[i].Yg))):=by
   unfold prevT at hp ⊢;rw[Bool.eq_iff_iff];simp only[Bool.or_eq_true,qAn,qDe];split at hp
   .rename_i h0;rw[if_pos h0];omega
   .rename_i h0;rw[if_neg h0];omega
  rw[List.drop_eq_getElem_cons hi];simp only[aB_];unfold badS;rw[hok,←hc];cases hd:decide (s.Xt[i].Yg<=prevT s.Xt i)||decide (s.Xt[i].Yg>1099511627776)with
  | true =>
   refine .inl ?_;unfold ci_;exact ai_ (bi_ hi) (aa_ (as_ hi) (ai_ hd rfl))
  | false =>
   by_cases hE:E=0
   .subst hE;obtain⟨b3,e3,g3⟩:=hb_ T hT.len (ok_modes (hT.ok rfl));have hb3:=g3.2 (hT.ok rfl);subst hb3;refine .inr ⟨((s.Xt[i].Yg,((i+1:Nat):Int)):Int×Int),?_,?_,?_,rfl⟩
    .unfold ci_;refine ai_ (bi_ hi) (aa_ (as_ hi) (ah_ hd (aa_ hT.get (aa_ (a:=false) (ah_ rfl (aa_ e3 rfl)) ?_))));simp only[cond_false];rw[aw_ (by omega)]
    .unfold prevT dX_;rw[if_neg (by omega),Nat.add_sub_cancel,List.getD_eq_getElem?_getD,List.getElem?_eq_getElem hi];rfl
    .unfold prevT dX_ at *
     rw[if_neg (by omega),Nat.add_sub_cancel,List.getD_eq_getElem?_getD,List.getElem?_eq_getElem hi];simp only[Bool.or_eq_false_iff,qDf]at hd;simp only[Option.getD_some];omega
   .refine .inl ?_;have:(E==0)=false:=by simpa using hE
    rw[this];unfold ci_;exact ai_ (bi_ hi) (aa_ (as_ hi) (ah_ hd (aa_ hT.get (aa_ (a:=true) (ai_ (by simpa using hE) rfl) rfl))))
theorem PRight_eq(s:Xg)(z:SizeOK s.Xd)(hb:NodesB s.Xd)(hbl:s.Yd.Xh.length<=4096):∃b,eY_ s=some b/\(b=true↔Ok17 s):=by
 unfold eY_;obtain⟨b1,e1,g1⟩:=ne_ s.Xd z hb;obtain⟨b2,e2,g2⟩:=pu_ (s:=s.Yd) hbl;cases b1 with
 | false=>exact⟨false,aa_ e1 (aa_ (a:=true) rfl rfl),λh=>(nomatch h),λh=>by rw[g1.2 h.files]⟩
 | true =>
 cases b2 with
 | false=>exact⟨false,aa_ e1 (aa_ (a:=true) (ah_ rfl (aa_ e2 rfl)) rfl),λh=>(nomatch h),λh=>by rw[g2.2 h.store]⟩
 | true =>
  by_cases hl:s.Xt.length<=64
  .have hlp:=snaps_loop hl (g2.1 rfl);refine⟨(aB_ (λi x=>if badS s i x then some false else none) 0 s.Xt).getD true,aa_ e1 (aa_ (a:=false) (ah_ rfl (aa_ e2 rfl)) (ah_ (by simp;omega) (ba_ hlp (λr=>rfl) rfl))),?_⟩;rw[i8_ (p:=λi x => !(badS s i x)) (λi x=>by cases badS s i x<;>rfl)];simp only[Nat.zero_add,Bool.not_eq_true'];exact bad_iff hl (g1.1 rfl) (g2.1 rfl)
  .exact⟨false,aa_ e1 (aa_ (a:=false) (ah_ rfl (aa_ e2 rfl)) (ai_ (by simp;omega) rfl)),λh=>(nomatch h),λh=>absurd h.sl hl⟩
theorem New_both{f:Xm}(z:SizeOK f)(n:Int):da_ f n=some (Xg.mk f (Xx.mk (bH_ (bV_ n 1) 4096) []) [])/\hM_ f n=some (Xg.mk f (Xx.mk (bH_ (bV_ n 1) 4096) []) []) :=
 ⟨by unfold da_;exact aa_ (qk_ z) (aa_ rfl rfl),rfl⟩
theorem same_new{f:Xm}(z:SizeOK f)(hn:f.Xe.Xz.length<=1000)(c:Int):e0_ (Xg.mk f (Xx.mk c []) []) (Xg.mk f (Xx.mk c []) [])=some true:=by
 have:=z.el;have hl1:aj_ (hN_ (Xx.mk c []) (Xx.mk c [])) BIG 0=some (.fall ()):=bO_ rfl;have hl2:aj_ (lJ_ (Xg.mk f (Xx.mk c []) []) (Xg.mk f (Xx.mk c []) [])) BIG 0=some (.fall ()):=bO_ rfl;have hs:eo_ (Xx.mk c []) (Xx.mk c [])=some true:=by
  unfold eo_;exact ah_ (by simp) (aa_ hl1 rfl)
 unfold e0_;exact aa_ (same_eq f z.ul z.um z.ql hn (by omega)) (aa_ (a:=false) (ah_ rfl (aa_ hs rfl)) (ah_ rfl (aa_ hl2 rfl)))
theorem lO_(x0:Xg)(x1:Int)(h0:Fit te (.st snapN) x0)(_:Fit te (.int .i64) x1):df_ x0 x1=some true:=by
 unfold df_;rw[awake_eq];have hA:((some true:Option Bool).bind λy4=>some y4)=some true:=rfl;obtain⟨b,h1,h2⟩:=small_eq x0;refine aa_ h1 ?_;cases b with
 | false=>exact hA
 | true =>
  have hs:=h2 rfl;obtain⟨f1,f2,f3⟩:=srv_fit h0;have hz:=hs.size f1 f2;obtain⟨c,e1,e2⟩:=Right_eq x0 hz f3 hs.bl;obtain⟨d,g1,g2⟩:=PRight_eq x0 hz f3 (by have:=hs.bl;omega);obtain⟨n1,n2⟩:=New_both hz x1;have hcd:d=c:=by rw[Bool.eq_iff_iff,g2,e2]
  subst hcd;refine aa_ g1 (aa_ e1 (ai_ (by simp) ?_));rw[lT_,lT_];exact aa_ n1 (aa_ n2 (aa_ (same_new hz (by have:=hs.nl;omega) _) (ai_ rfl hA)))
end Go.Proofs.YtebokaoegomboaaGreatDoor
