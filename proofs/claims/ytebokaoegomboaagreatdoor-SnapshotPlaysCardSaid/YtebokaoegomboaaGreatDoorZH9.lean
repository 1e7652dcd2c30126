/-
 What the statements of this seat hang on,part 9: Ha Hb Hc Hd He Hf Hg Hh Hu Hv Hz Hza Hzb.
-/
import Derived.Test.YtebokaoegomboaaGreatDoorZH8
namespace Go.Proofs.YtebokaoegomboaaGreatDoor
open Go.Rt Go.RowKit
theorem orI_comm(k:IntKind)(a b:Int):orI k a b=orI k b a:=by
 unfold orI;rw[BitVec.or_comm]
def rot(x:Int)(n:Nat):Int:=orI .u32 (IntKind.u32.wrap (x*2^(32-n))) (x.fdiv (2^n))
theorem right2(x:Int):bv_ x 2=some (rot x 2):=by kernel_rfl
theorem right6(x:Int):bv_ x 6=some (rot x 6):=by kernel_rfl
theorem right7(x:Int):bv_ x 7=some (rot x 7):=by kernel_rfl
theorem right11(x:Int):bv_ x 11=some (rot x 11):=by kernel_rfl
theorem right13(x:Int):bv_ x 13=some (rot x 13):=by kernel_rfl
theorem right17(x:Int):bv_ x 17=some (rot x 17):=by kernel_rfl
theorem right18(x:Int):bv_ x 18=some (rot x 18):=by kernel_rfl
theorem right19(x:Int):bv_ x 19=some (rot x 19):=by kernel_rfl
theorem right22(x:Int):bv_ x 22=some (rot x 22):=by kernel_rfl
theorem right25(x:Int):bv_ x 25=some (rot x 25):=by kernel_rfl
theorem fG_(x:Int)(n:Int)(m:Nat)(h:bg_ x n=some (orI .u32 (x.fdiv (2^m)) (IntKind.u32.wrap (x*2^(32-m))))):bg_ x n=some (rot x m):=by
 rw[h,orI_comm];rfl
theorem rotr2(x:Int):bg_ x 2=some (rot x 2):=fG_ x 2 2 (by kernel_rfl)
theorem rotr6(x:Int):bg_ x 6=some (rot x 6):=fG_ x 6 6 (by kernel_rfl)
theorem rotr7(x:Int):bg_ x 7=some (rot x 7):=fG_ x 7 7 (by kernel_rfl)
theorem rotr11(x:Int):bg_ x 11=some (rot x 11):=fG_ x 11 11 (by kernel_rfl)
theorem rotr13(x:Int):bg_ x 13=some (rot x 13):=fG_ x 13 13 (by kernel_rfl)
theorem rotr17(x:Int):bg_ x 17=some (rot x 17):=fG_ x 17 17 (by kernel_rfl)
theorem rotr18(x:Int):bg_ x 18=some (rot x 18):=fG_ x 18 18 (by kernel_rfl)
theorem rotr19(x:Int):bg_ x 19=some (rot x 19):=fG_ x 19 19 (by kernel_rfl)
theorem rotr22(x:Int):bg_ x 22=some (rot x 22):=fG_ x 22 22 (by kernel_rfl)
theorem rotr25(x:Int):bg_ x 25=some (rot x 25):=fG_ x 25 25 (by kernel_rfl)
theorem map_nthI(y:List Int):(List.range y.length).map (aB_ y)=y:=by
 apply zL;intro i;rw[qm];by_cases hi:i<y.length
 .rw[List.getElem?_range hi,qQ hi];simp[aB_,hi]
 .rw[qa (by simpa using hi),qa (by omega)];rfl
theorem l_of64{y:List Int}(h:y.length=64):(Ys.of y).l=y:=by
 have f:(Ys.of y).l=(List.range 64).map (aB_ y):=rfl;rw[f,←h,map_nthI]
theorem lw_{y:List Int}{i:Nat}(h:i<y.length):an_ y (i:Int)=some (aB_ y i):=by
 rw[au_ h];simp[aB_,h]
def l7_(b:Str)(i:Nat):Int:=((b.getD i 0).toNat:Int)
theorem pq_{b:Str}{i:Nat}(h:i<b.length):cx_ b (i:Int)=some (l7_ b i):=by
 rw[lj_ h];simp[l7_,h]
def wordN(b:Str)(i:Nat):Int:=orI .u32 (orI .u32 (orI .u32 (IntKind.u32.wrap ((IntKind.u32.wrap (l7_ b (4*i)))*2^24)) (IntKind.u32.wrap ((IntKind.u32.wrap (l7_ b (4*i+1)))*2^16))) (IntKind.u32.wrap ((IntKind.u32.wrap (l7_ b (4*i+2)))*2^8))) (IntKind.u32.wrap (l7_ b (4*i+3)))
def wdHi(i:Nat)(l:List Int):Int:=(IntKind.u32.wrap ((IntKind.u32.wrap ((IntKind.u32.wrap (aB_ l (i-16)+(bY_ .u32 (bY_ .u32 (rot (aB_ l (i-15)) 7) (rot (aB_ l (i-15)) 18)) ((aB_ l (i-15)).fdiv (2^3)))))+aB_ l (i-7)))+(bY_ .u32 (bY_ .u32 (rot (aB_ l (i-2)) 17) (rot (aB_ l (i-2)) 19)) ((aB_ l (i-2)).fdiv (2^10)))))
def wd(b:Str)(i:Nat)(l:List Int):Int:=if i<16 then wordN b i else wdHi i l
theorem wd_hi{b:Str}{i:Nat}{l:List Int}(h:¬i<16):wd b i l=wdHi i l:=qX h
def bX_(b:Str):Nat->List Int | 0=>[]|i+1=>bX_ b i++[wd b i (bX_ b i)]
theorem dh_(b:Str):∀i,(bX_ b i).length=i
 | 0=>rfl
 | i+1=>by simp[bX_,dh_ b i]
def eC_(b:Str)(i:Nat):List Int:=bX_ b i++List.replicate (64-i) 0
theorem q5_(b:Str){i:Nat}(h:i<=64):(eC_ b i).length=64:=by
 simp[eC_,dh_];omega
theorem schedA_nth(b:Str){i j:Nat}(h:j<i):aB_ (eC_ b i) j=aB_ (bX_ b i) j:=by
 have:j<(bX_ b i).length:=by rw[dh_];exact h
 simp only[aB_,eC_,jP];rw[zR this]
theorem schedA_set(b:Str){i:Nat}(h:i<64):(eC_ b i).set i (wd b i (bX_ b i))=eC_ b (i+1):=by
 unfold eC_;have e:64-i=(64-(i+1))+1:=by omega
 rw[List.set_append_right _ _ (by rw[dh_];exact qA _),dh_,Nat.sub_self,e,List.replicate_succ,List.set_cons_zero,bX_,qT];rfl
theorem word_eq{b:Str}{i:Nat}(m:b.length=64)(hi:i<16):oI_ ((b.take 64).drop (4*i))=some (wordN b i):=by
 have h:b.take 64=b:=by rw[←m];exact jm
 rw[h];unfold oI_;have f:∀j:Nat,j<4->cx_ (b.drop (4*i)) (j:Int)=some (l7_ b (4*i+j)):=λj x=>by
  rw[pq_ (by rw[qS];omega)]
  congr 1
  simp only[l7_,jP,zA]
 have u:=f 0 (by omega);have s:=f 1 (by omega);have q:=f 2 (by omega);have p:=f 3 (by omega);refine aa_ u (aa_ s (aa_ q (aa_ p rfl)))
theorem ok_{n i:Nat}(h:i<n):do_ n (i:Int)=some ():=by
 unfold do_;simp[h]
set_option maxRecDepth 100000 in
theorem schedule_eq{b:Str}(q:b.length=64):i7_ b=some (Ys.of (bX_ b 64)):=by
 unfold i7_;refine aa_ (a:=Ys.of (bX_ b 64)) ?_ rfl;have m:eC_ b 64=bX_ b 64:=by simp[eC_]
 rw[←m];refine be_ (T:=λi=>((i:Int),Ys.of (eC_ b i))) 64 (by decide) (λi hi => ?_) ?_
 .unfold jA_;have p:=l_of64 (q5_ b (Nat.le_of_lt hi));have f:setI (Ys.of (eC_ b i)).l (i:Int) (wd b i (bX_ b i))=some (eC_ b (i+1)):=by
   rw[p];unfold setI;rw[qV ⟨by omega,by rw[q5_ b (Nat.le_of_lt hi)];omega⟩,qTn,schedA_set b hi]
  refine af_ (by simp;omega) ?_;refine aa_ (a:=Ys.of (eC_ b (i+1))) ?_ (by rw[aw_ (by omega)]);by_cases h:i<16
  .refine af_ (by simp;omega) ?_;have u:w64 (4*(i:Int))=((4*i:Nat):Int):=by rw[aq_ ⟨by omega,by omega⟩];omega
   refine aa_ (a:=(b.take 64).drop (4*i)) ?_ (aa_ (word_eq q h) (aa_ (ok_ hi) (aa_ (a:=eC_ b (i+1)) ?_ rfl)))
   .rw[u,b5_ (by omega) (by omega) (by omega),qTn,qTn,q]
   .have:wd b i (bX_ b i)=wordN b i:=by unfold wd;rw[qV h]
    rw[←this];exact f
  .refine ab_ (by simp;omega) ?_;have ek:∀k:Nat,k<=16->w64 ((i:Int)-(k:Int))=((i-k:Nat):Int):=λk j=>by rw[aq_ ⟨by omega,by omega⟩];omega
   have eg:∀k:Nat,0<k->k<=16->an_ (Ys.of (eC_ b i)).l (w64 ((i:Int)-(k:Int)))=some (aB_ (bX_ b i) (i-k)):=λk s j=>by
    rw[ek k j,p,lw_ (by rw[q5_ b (Nat.le_of_lt hi)];omega),schedA_nth b (by omega)]
   have eb:∀k:Nat,0<k->k<=16->do_ 64 (w64 ((i:Int)-(k:Int)))=some ():=λk s j=>by
    rw[ek k j];exact ok_ (by omega)
   refine aa_ (eb 15 (by omega) (by omega)) (aa_ (eg 15 (by omega) (by omega)) (aa_ (eb 2 (by omega) (by omega)) (aa_ (eg 2 (by omega) (by omega)) (aa_ (right7 _) (aa_ (right18 _) (aa_ (right17 _) (aa_ (right19 _) (aa_ (eb 16 (by omega) (by omega)) (aa_ (eg 16 (by omega) (by omega)) (aa_ (eb 7 (by omega) (by omega)) (aa_ (eg 7 (by omega) (by omega)) (aa_ (ok_ hi) (aa_ (a:=eC_ b (i+1)) ?_ rfl)))))))))))));rw[wd_hi h]at f;exact f
 .unfold jA_;exact ab_ (by simp) rfl
theorem room1{α:Type}{n:Nat}{xs f:List α}(h:(xs.length+f.length)*n<=140737488355328)(j:xs.length+f.length<=140737488355328):room n xs f=some (xs++f):=bj_ (by omega) h
theorem vF_{b:Str}(q:b.length=64):h9_ b=some (bX_ b 64):=by
 unfold h9_;refine aa_ (a:=bX_ b 16) ?_ (aa_ (a:=bX_ b 64) ?_ rfl)
 .refine be_ (T:=λi=>((i:Int),bX_ b i)) 16 (by decide) (λi hi => ?_) ?_
  .unfold iw_;refine af_ (by simp;omega) ?_;have m:w64 (4*(i:Int))=((4*i:Nat):Int):=by rw[aq_ ⟨by omega,by omega⟩];omega
   have ej:∀j:Nat,j<4->w64 (w64 (4*(i:Int))+(j:Int))=((4*i+j:Nat):Int):=λj f=>by rw[m,aq_ ⟨by omega,by omega⟩];omega
   have h:cx_ b (w64 (4*(i:Int)))=some (l7_ b (4*i)):=by rw[m];exact pq_ (by omega)
   have f:∀j:Nat,j<4->cx_ b (w64 (w64 (4*(i:Int))+(j:Int)))=some (l7_ b (4*i+j)):=λj f=>by rw[ej j f];exact pq_ (by omega)
   refine aa_ h (aa_ (f 1 (by omega)) (aa_ (f 2 (by omega)) (aa_ (f 3 (by omega)) (aa_ (a:=bX_ b (i+1)) ?_ (by rw[aw_ (by omega)])))));rw[room1 (by simp[dh_];omega) (by simp[dh_];omega),bX_];have:wd b i (bX_ b i)=wordN b i:=by unfold wd;rw[qV hi]
   rw[this];rfl
  .unfold iw_;exact ab_ (by simp) rfl
 .refine be_ (T:=λk=>(((16+k:Nat):Int),bX_ b (16+k))) 48 (by decide) (λk p => ?_) ?_
  .unfold ix_;refine af_ (by simp;omega) ?_;have ek:∀j:Nat,j<=16->w64 (((16+k:Nat):Int)-(j:Int))=((16+k-j:Nat):Int):=λj f=>by rw[aq_ ⟨by omega,by omega⟩];omega
   have eg:∀j:Nat,0<j->j<=16->an_ (bX_ b (16+k)) (w64 (((16+k:Nat):Int)-(j:Int)))=some (aB_ (bX_ b (16+k)) (16+k-j)):=λj h f=>by
    rw[ek j f,lw_ (by rw[dh_];omega)]
   refine aa_ (eg 15 (by omega) (by omega)) (aa_ (eg 2 (by omega) (by omega)) (aa_ (rotr7 _) (aa_ (rotr18 _) (aa_ (rotr17 _) (aa_ (rotr19 _) (aa_ (eg 16 (by omega) (by omega)) (aa_ (eg 7 (by omega) (by omega)) (aa_ (a:=bX_ b (16+(k+1))) ?_ ?_))))))))
   .rw[room1 (by simp[dh_];omega) (by simp[dh_];omega),←zP,bX_];rw[wd_hi (by omega)];rfl
   .show some (Step.next (w64 (((16+k:Nat):Int)+1),_))=_;rw[aw_ (by omega)];rfl
  .unfold ix_;exact ab_ (by simp) rfl
theorem b6_{n:Nat}(h:n<9223372036854775808):n<BIG:=Nat.lt_trans h (by decide)
def t1N(W:List Int)(i:Nat)(s:Yv):Int:=IntKind.u32.wrap ((IntKind.u32.wrap ((IntKind.u32.wrap ((IntKind.u32.wrap (s.a7_+(bY_ .u32 (bY_ .u32 (rot s.a4_ 6) (rot s.a4_ 11)) (rot s.a4_ 25))))+(bY_ .u32 (bF_ .u32 s.a4_ s.a5_) (bF_ .u32 (bY_ .u32 4294967295 s.a4_) s.a6_))))+aB_ glob0.l i))+aB_ W i)
def t2N(s:Yv):Int:=IntKind.u32.wrap ((bY_ .u32 (bY_ .u32 (rot s.a0_ 2) (rot s.a0_ 13)) (rot s.a0_ 22))+(bY_ .u32 (bY_ .u32 (bF_ .u32 s.a0_ s.a1_) (bF_ .u32 s.a0_ s.a2_)) (bF_ .u32 s.a1_ s.a2_)))
def rnd(W:List Int)(i:Nat)(s:Yv):Yv:=Yv.mk (IntKind.u32.wrap (t1N W i s+t2N s)) s.a0_ s.a1_ s.a2_ (IntKind.u32.wrap (s.a3_+t1N W i s)) s.a4_ s.a5_ s.a6_
def rnds(W:List Int)(s:Yv):Nat->Yv | 0=>s|i+1=>rnd W i (rnds W s i)
theorem glob_len:glob0.l.length=64:=by kernel_rfl
def mixS(s:Yv)(p:Str):Yv :=
 let v:=rnds (bX_ p 64) s 64
 Yv.mk (IntKind.u32.wrap (s.a0_+v.a0_)) (IntKind.u32.wrap (s.a1_+v.a1_)) (IntKind.u32.wrap (s.a2_+v.a2_)) (IntKind.u32.wrap (s.a3_+v.a3_)) (IntKind.u32.wrap (s.a4_+v.a4_)) (IntKind.u32.wrap (s.a5_+v.a5_)) (IntKind.u32.wrap (s.a6_+v.a6_)) (IntKind.u32.wrap (s.a7_+v.a7_))
theorem mix2_eq(v s:Yv):am_ (ti_ v) BIG (0,s)=some (Yv.mk (IntKind.u32.wrap (s.a0_+v.a0_)) (IntKind.u32.wrap (s.a1_+v.a1_)) (IntKind.u32.wrap (s.a2_+v.a2_)) (IntKind.u32.wrap (s.a3_+v.a3_)) (IntKind.u32.wrap (s.a4_+v.a4_)) (IntKind.u32.wrap (s.a5_+v.a5_)) (IntKind.u32.wrap (s.a6_+v.a6_)) (IntKind.u32.wrap (s.a7_+v.a7_))):=by
 cases v
 cases s
 kernel_rfl
theorem mix_eq{p:Str}(f:p.length=64)(s:Yv):qK_ s p=some (mixS s p):=by
 unfold qK_;have h:(Ys.of (bX_ p 64)).l=bX_ p 64:=l_of64 (dh_ p 64);refine aa_ (schedule_eq f) (aa_ (a:=rnds (bX_ p 64) s 64) ?_ (aa_ (mix2_eq _ _) rfl));refine be_ (T:=λi=>((i:Int),rnds (bX_ p 64) s i)) 64 (by decide) (λi hi => ?_) ?_
 .unfold pf_;refine af_ (by simp;omega) ?_;refine aa_ (right6 _) (aa_ (right11 _) (aa_ (right25 _) (aa_ (ok_ hi) (aa_ (lw_ (by rw[glob_len];exact hi)) (aa_ (ok_ hi) (aa_ (a:=aB_ (bX_ p 64) i) ?_ (aa_ (right2 _) (aa_ (right13 _) (aa_ (right22 _) ?_)))))))))
  .rw[h];exact lw_ (by rw[dh_];exact hi)
  .rw[aw_ (by omega)];rfl
 .unfold pf_;exact ab_ (by simp) rfl
def tupN(s:Yv)(i:Nat)(K W:List Int):Int×Int×Int×Int×Int×Int×Int×Int×Int×(List Int)×(List Int):=(s.a0_,s.a1_,s.a2_,s.a3_,s.a4_,s.a5_,s.a6_,s.a7_,(i:Int),K,W)
theorem block_eq{p:Str}(f:p.length=64)(s:Yv):lJ_ s.l p=some (mixS s p).l:=by
 unfold lJ_;refine aa_ (a:=glob0.l) (by kernel_rfl) (aa_ (vF_ f) (aa_ (a:=s.a0_) rfl (aa_ (a:=s.a1_) rfl (aa_ (a:=s.a2_) rfl (aa_ (a:=s.a3_) rfl (aa_ (a:=s.a4_) rfl (aa_ (a:=s.a5_) rfl (aa_ (a:=s.a6_) rfl (aa_ (a:=s.a7_) rfl (aa_ (a:=let v:=rnds (bX_ p 64) s 64;(v.a0_,v.a1_,v.a2_,v.a3_,v.a4_,v.a5_,v.a6_,v.a7_)) ?_ (aa_ (a:=s.a0_) rfl (aa_ (a:=s.a1_) rfl (aa_ (a:=s.a2_) rfl (aa_ (a:=s.a3_) rfl (aa_ (a:=s.a4_) rfl (aa_ (a:=s.a5_) rfl (aa_ (a:=s.a6_) rfl (aa_ (a:=s.a7_) rfl rfl))))))))))))))))));refine be_ (T:=λi=>tupN (rnds (bX_ p 64) s i) i glob0.l (bX_ p 64)) 64 (by decide) (λi hi => ?_) ?_
 .unfold lg_ tupN;refine af_ (by simp;omega) ?_;refine aa_ (rotr6 _) (aa_ (rotr11 _) (aa_ (rotr25 _) (aa_ (lw_ (by rw[glob_len];exact hi)) (aa_ (lw_ (by rw[dh_];exact hi)) (aa_ (rotr2 _) (aa_ (rotr13 _) (aa_ (rotr22 _) ?_)))))));simp only[aw_ (show i<9223372036854775807 by omega)];rfl
 .unfold lg_ tupN;exact ab_ (by simp) rfl
theorem u8_toNat(b:UInt8):UInt8.ofNat (b.toNat:Int).toNat=b:=by simp
theorem bytesS_strI(s:Str):bytesS (dL_ s)=s:=by
 unfold bytesS dL_;rw[List.map_map]
 conv=>rhs;rw[←List.map_id s]
 exact List.map_congr_left λb _=>u8_toNat b
theorem js_(a b:List Int):bytesS (a++b)=bytesS a++bytesS b:=List.map_append
theorem kO_(a:List Int):(bytesS a).length=a.length:=zo _
theorem jI_(s:Str):(dL_ s).length=s.length:=zo _
def di_(n:Nat):Nat:=(119-n%64)%64
theorem ss_(n:Nat):(n+di_ n)%64=55:=by unfold di_;omega
theorem zeros_lt(n:Nat){k:Nat}(h:k<di_ n):(n+k)%64≠55:=by unfold di_ at h;omega
def lenL(n:Nat):List Int:=(List.range 8).map λj=>IntKind.u8.wrap ((IntKind.u64.wrap (8*(IntKind.u64.wrap (n:Int)))).fdiv (2^(56-8*j)))
def padL(s:Str):List Int:=dL_ s++[128]++List.replicate (di_ s.length) 0
def padS(s:Str):Str:=bytesS (padL s++lenL s.length)
theorem lenL_take(n:Nat){k:Nat}(f:k<8):(lenL n).take (k+1)=(lenL n).take k++[IntKind.u8.wrap ((IntKind.u64.wrap (8*(IntKind.u64.wrap (n:Int)))).fdiv (2^(56-8*k)))]:=by
 rw[List.take_add_one];simp[lenL,f]
theorem ub_(s:Str):(padL s).length=s.length+1+di_ s.length:=by
 simp[padL,jI_];omega
theorem uc_(s:Str):(padS s).length=s.length+9+di_ s.length:=by
 unfold padS;rw[kO_,qLa,ub_];simp[lenL];omega
theorem padS_mod(s:Str):(padS s).length%64=0:=by
 rw[uc_];have:=ss_ s.length;omega
theorem tmod64(n:Nat):((n:Int).tmod 64 != 56)=decide (n%64≠56):=by
 have:(n:Int).tmod 64=((n%64:Nat):Int):=by rw[zh (by omega)];rfl
 rw[this,qK];simp only[zM,ne_eq,qDe];omega
theorem pad_eq(s:Str)(u:s.length<1099511627776):n1_ s=some (padS s):=by
 have m:di_ s.length<64:=by unfold di_;omega
 unfold n1_;refine aa_ (a:=dL_ s) (by rw[room1 (by simp[jI_];omega) (by simp[jI_];omega)];rfl) (aa_ (a:=dL_ s++[128]) (room1 (by simp[jI_];omega) (by simp[jI_];omega)) (aa_ (a:=padL s) ?_ (aa_ (a:=padL s++lenL s.length) ?_ rfl)))
 .have j:dL_ s++[128]=dL_ s++[128]++List.replicate 0 (0:Int):=by simp
  rw[j];refine be_ (T:=λk=>dL_ s++[128]++List.replicate k 0) (di_ s.length) (Nat.lt_trans m (by decide)) (λk h => ?_) ?_
  .unfold pe_;have f:(dL_ s++[128]++List.replicate k (0:Int)).length=s.length+1+k:=by simp[jI_];omega
   refine af_ ?_ (aa_ (a:=dL_ s++[128]++List.replicate (k+1) 0) ?_ rfl)
   .rw[f,tmod64];have:=zeros_lt s.length h;simp only[qDe];omega
   .rw[room1 (by rw[f];simp;omega) (by rw[f];simp;omega),List.replicate_succ',qT]
  .unfold pe_;refine ab_ ?_ rfl;have f:(dL_ s++[128]++List.replicate (di_ s.length) (0:Int)).length=s.length+1+di_ s.length:=by simp[jI_];omega
   rw[f,tmod64];have:=ss_ s.length;simp only[qDf];omega
 .have j:padL s=padL s++(lenL s.length).take 0:=by simp
  have q:lenL s.length=(lenL s.length).take 8:=by rw[qc (by simp[lenL])]
  rw[q];refine Eq.trans ?_ (be_ (body:=lL_ s) (T:=λk=>((56:Int)-8*(k:Int),padL s++(lenL s.length).take k)) 8 (by decide) (λk h => ?_) ?_)
  .rw[List.take_zero,zj];rfl
  .unfold lL_;refine af_ (by simp;omega) (aa_ (a:=(IntKind.u64.wrap (8*(IntKind.u64.wrap (s.length:Int)))).fdiv (2^(56-8*k))) ?_ (aa_ (a:=padL s++(lenL s.length).take (k+1)) ?_ ?_))
   .rw[shrI_eq (by show(0:Int)<=56-8*(k:Int);omega) (by show(56:Int)-8*(k:Int)<=(64:Nat);omega)]
    congr 3
    show((56:Int)-8*(k:Int)).toNat=_;omega
   .have f:=ub_ s;have p:((lenL s.length).take k).length<=8:=by simp[lenL];omega
    rw[room1 (by rw[qLa,f];simp only[qLc,zn];omega) (by rw[qLa,f];simp only[qLc,zn];omega),lenL_take _ h,qT]
   .show some (Step.next (w64 ((56:Int)-8*(k:Int)-8),_))=_;rw[aq_ ⟨by omega,by omega⟩]
    congr 3
    omega
  .unfold lL_;exact ab_ (by simp) rfl
theorem big8(x:Int):hA_ x 8=some (let q:=λy:Int=>IntKind.u64.wrap (y.tdiv 256);let b:=λy:Int=>IntKind.u8.wrap (y.tmod 256);bytesS [b (q (q (q (q (q (q (q x))))))),b (q (q (q (q (q (q x)))))),b (q (q (q (q (q x))))),b (q (q (q (q x)))),b (q (q (q x))),b (q (q x)),b (q x),b x]):=by kernel_rfl
theorem big4(x:Int):hA_ x 4=some (let q:=λy:Int=>IntKind.u64.wrap (y.tdiv 256);let b:=λy:Int=>IntKind.u8.wrap (y.tmod 256);bytesS [b (q (q (q x))),b (q (q x)),b (q x),b x]):=by kernel_rfl
theorem q_eq{x:Int}(f:0<=x)(h:x<18446744073709551616):IntKind.u64.wrap (x.tdiv 256)=x/256:=by
 rw[zC f,wu64];omega
theorem b_eq{x:Int}(f:0<=x):IntKind.u8.wrap (x.tmod 256)=x%256:=by
 rw[zh f,wu8];omega
theorem fdiv_pos(x:Int)(n:Nat):x.fdiv (2^n)=x/2^n:=Int.fdiv_eq_ediv_of_nonneg _ (Int.le_of_lt (Int.pow_pos (by decide)))
theorem big8_eq{x:Int}(q:0<=x)(h:x<18446744073709551616):hA_ x 8=some (bytesS ((List.range 8).map λj=>IntKind.u8.wrap (x.fdiv (2^(56-8*j))))):=by
 have f:∀y:Int,0<=y->y<18446744073709551616->0<=y/256/\y/256<18446744073709551616:=λy O M=>by omega
 have p:=f x q h;have a2:=f _ p.1 p.2;have a3:=f _ a2.1 a2.2;have a4:=f _ a3.1 a3.2;have a5:=f _ a4.1 a4.2;have m:=f _ a5.1 a5.2;have J:=f _ m.1 m.2;rw[big8];simp only[q_eq q h,q_eq p.1 p.2,q_eq a2.1 a2.2,q_eq a3.1 a3.2,q_eq a4.1 a4.2,q_eq a5.1 a5.2,q_eq m.1 m.2,b_eq q,b_eq p.1,b_eq a2.1,b_eq a3.1,b_eq a4.1,b_eq a5.1,b_eq m.1,b_eq J.1];have e:((List.range 8).map λj=>IntKind.u8.wrap (x.fdiv (2^(56-8*j))))=[x/72057594037927936%256,x/281474976710656%256,x/1099511627776%256,x/4294967296%256,x/16777216%256,x/65536%256,x/256%256,x/1%256]:=by
  simp only[wu8,fdiv_pos];rfl
 rw[e];have G:x/256/256=x/65536:=by omega
 have F:x/65536/256=x/16777216:=by omega
 have D:x/16777216/256=x/4294967296:=by omega
 have C:x/4294967296/256=x/1099511627776:=by omega
 have u:x/1099511627776/256=x/281474976710656:=by omega
 have s:x/281474976710656/256=x/72057594037927936:=by omega
 simp only[G,F,D,C,u,s,Int.ediv_one]
theorem padded_eq(s:Str)(u:s.length<1099511627776):kd_ s=some (padS s):=by
 have m:di_ s.length<64:=by unfold di_;omega
 have f:IntKind.u64.wrap ((IntKind.u64.wrap (s.length:Int))*8)=IntKind.u64.wrap (8*(IntKind.u64.wrap (s.length:Int))):=by rw[Int.mul_comm]
 have q:bytesS (padL s)=s++[128]++List.replicate (di_ s.length) 0:=by
  unfold padL;rw[js_,js_,bytesS_strI]
  congr 1
  simp[bytesS]
 have h:∀k:Nat,(s++[128]++List.replicate k (0:UInt8)).length=s.length+1+k:=λk=>by simp;omega
 unfold kd_;refine aa_ (a:=s++[128]) (bK_ (by simp;omega)) (aa_ (a:=bytesS (padL s)) ?_ (aa_ (a:=bytesS (lenL s.length)) ?_ (aa_ (a:=padS s) ?_ rfl)))
 .rw[q];rw[show am_ fj_ BIG (s++[128])=am_ fj_ BIG (s++[128]++List.replicate 0 (0:UInt8))by simp];refine be_ (T:=λk=>s++[128]++List.replicate k (0:UInt8)) (di_ s.length) (Nat.lt_trans m (by decide)) (λk p => ?_) ?_
  .unfold fj_;refine af_ ?_ (aa_ (a:=s++[128]++List.replicate (k+1) (0:UInt8)) ?_ rfl)
   .rw[h,tmod64];have:=zeros_lt s.length p;simp only[qDe];omega
   .rw[bK_ (by rw[h];simp;omega),List.replicate_succ',qT]
  .unfold fj_;refine ab_ ?_ rfl;rw[h,tmod64];have:=ss_ s.length;simp only[qDf];omega
 .rw[f];have j:0<=IntKind.u64.wrap (8*(IntKind.u64.wrap (s.length:Int)))/\IntKind.u64.wrap (8*(IntKind.u64.wrap (s.length:Int)))<18446744073709551616:=by
   rw[wu64];omega
  rw[big8_eq j.1 j.2];rfl
 .unfold padS;rw[js_];refine bK_ ?_;rw[kO_,kO_,ub_];simp[lenL];omega
def init:Yv:=Yv.mk 1779033703 3144134277 1013904242 2773480762 1359893119 2600822924 528734635 1541459225
def sums(t:Str):Nat->Yv | 0=>init|k+1=>mixS (sums t k) ((t.drop (64*k)).take 64)
def outL(h:Yv):List Int:=h.l.flatMap λx=>[IntKind.u8.wrap (x.fdiv (2^24)),IntKind.u8.wrap (x.fdiv (2^16)),IntKind.u8.wrap (x.fdiv (2^8)),IntKind.u8.wrap x]
def shaS(s:Str):Str:=bytesS (outL (sums (padS s) ((padS s).length/64)))
theorem outL_len(h:Yv):(outL h).length=32:=rfl
theorem shaS_len(s:Str):(shaS s).length=32:=by
 unfold shaS;rw[kO_,outL_len]
theorem out_eq(h:Yv):am_ (tj_ h) BIG (0,[])=some (outL h):=by
 cases h
 kernel_rfl
theorem Sum_eq(s:Str)(j:s.length<1099511627776):qL_ s=some (shaS s):=by
 have hm:=padS_mod s;have u:(padS s).length<1099511627900:=by
  rw[uc_];have q:di_ s.length<64:=by unfold di_;omega
  omega
 unfold qL_;refine aa_ (pad_eq s j) (aa_ (a:=sums (padS s) ((padS s).length/64)) ?_ (aa_ (a:=List.replicate 32 0) (by kernel_rfl) (aa_ (out_eq _) rfl)));generalize padS s=t at *
 have p:(t,Yv.mk 1779033703 3144134277 1013904242 2773480762 1359893119 2600822924 528734635 1541459225)=(t.drop (64*0),sums t 0):=by simp[sums,init]
 rw[p];refine be_ (T:=λk=>(t.drop (64*k),sums t k)) (t.length/64) (b6_ (by omega)) (λk y => ?_) ?_
 .unfold pg_;have m:64*k+64<=t.length:=by omega
  have f:(t.drop (64*k)).length=t.length-64*k:=qS;refine af_ ?_ (aa_ (a:=(t.drop (64*k)).take 64) ?_ (aa_ (mix_eq (by rw[qb,f];omega) _) (aa_ (a:=t.drop (64*(k+1))) ?_ rfl)))
  .have:t.drop (64*k)≠[]:=λe=>by rw[e]at f;simp at f;omega
   cases h:t.drop (64*k)with
   | nil=>exact absurd h this
   | cons x l=>rfl
  .show bI_ (t.drop (64*k)) 0 64=_;rw[b5_ (by omega) (by omega) (by omega)];rfl
  .show bI_ (t.drop (64*k)) 64 ((t.drop (64*k)).length:Int)=_;rw[b5_ (by omega) (by omega) (by omega),qTn,jm];show some ((t.drop (64*k)).drop 64)=_;rw[jV];rfl
 .unfold pg_;have:t.drop (64*(t.length/64))=[]:=jH (by omega);rw[this];exact ab_ rfl rfl
theorem word_bound(h:Yv)(p:Str):∀x∈(mixS h p).l,0<=x/\x<4294967296:=by
 have j:∀n:Int,0<=IntKind.u32.wrap n/\IntKind.u32.wrap n<4294967296:=λn=>by
  rw[IntKind.wrap_u32];omega
 intro x f;simp only[mixS,Yv.l,qW,List.not_mem_nil,or_false]at f;rcases f with rfl|rfl|rfl|rfl|rfl|rfl|rfl|rfl<;>exact j _
theorem sums_bound(t:Str):∀k,∀x∈(sums t k).l,0<=x/\x<4294967296
 | 0=>by
  intro x f;simp only[sums,init,Yv.l,qW,List.not_mem_nil,or_false]at f;omega
 | k+1=>word_bound _ _
theorem big4_eq{x:Int}(m:0<=x)(h:x<4294967296):hA_ (IntKind.u64.wrap x) 4=some (bytesS [IntKind.u8.wrap (x.fdiv (2^24)),IntKind.u8.wrap (x.fdiv (2^16)),IntKind.u8.wrap (x.fdiv (2^8)),IntKind.u8.wrap x]):=by
 have p:IntKind.u64.wrap x=x:=by rw[wu64];omega
 have j:∀y:Int,0<=y->y<18446744073709551616->0<=y/256/\y/256<18446744073709551616:=λy C u=>by omega
 have f:=j x m (by omega);have a2:=j _ f.1 f.2;have a3:=j _ a2.1 a2.2;rw[p,big4];simp only[q_eq m (show x<18446744073709551616 by omega),q_eq f.1 f.2,q_eq a2.1 a2.2,b_eq m,b_eq f.1,b_eq a2.1,b_eq a3.1];have e:[IntKind.u8.wrap (x.fdiv (2^24)),IntKind.u8.wrap (x.fdiv (2^16)),IntKind.u8.wrap (x.fdiv (2^8)),IntKind.u8.wrap x]=[x/16777216%256,x/65536%256,x/256%256,x%256]:=by
  simp only[wu8,fdiv_pos];rfl
 rw[e];have s:x/256/256=x/65536:=by omega
 have q:x/65536/256=x/16777216:=by omega
 simp only[s,q]
theorem ref_Sum_eq(s:Str)(u:s.length<1099511627776):oE_ s=some (shaS s):=by
 have hm:=padS_mod s;have M:(padS s).length<1099511627900:=by
  rw[uc_];have J:di_ s.length<64:=by unfold di_;omega
  omega
 unfold oE_ shaS;refine aa_ (padded_eq s u) ?_;generalize padS s=t at *
 refine aa_ (a:=(sums t (t.length/64)).l) ?_ (aa_ (a:=bytesS (outL (sums t (t.length/64)))) ?_ rfl)
 .refine be_ (T:=λk=>(((64*k:Nat):Int),(sums t k).l)) (t.length/64) (b6_ (by omega)) (λk C => ?_) ?_
  .unfold nX_;have j:w64 (((64*k:Nat):Int)+64)=((64*(k+1):Nat):Int):=by rw[aq_ ⟨by omega,by omega⟩];omega
   refine af_ (by simp;omega) (aa_ (a:=(t.drop (64*k)).take 64) ?_ (aa_ (block_eq (by rw[qb,qS];omega) _) (by rw[j];rfl)));show bI_ t ((64*k:Nat):Int) (w64 (((64*k:Nat):Int)+64))=_;rw[j,b5_ (by omega) (by omega) (by omega),qTn,qTn,jE]
   congr 2
   omega
  .unfold nX_;exact ab_ (by simp;omega) rfl
 .have F:=sums_bound t (t.length/64);generalize sums t (t.length/64)=h at *
  refine be_ (T:=λk=>(bytesS ((h.l.take k).flatMap λx=>[IntKind.u8.wrap (x.fdiv (2^24)),IntKind.u8.wrap (x.fdiv (2^16)),IntKind.u8.wrap (x.fdiv (2^8)),IntKind.u8.wrap x]),(k:Int),h.l)) 8 (by decide) (λk C => ?_) ?_
  .unfold nY_;have y:h.l.length=8:=rfl;have f:k<h.l.length:=by omega
   have p:=F h.l[k] (qr f);refine af_ (by simp;omega) (aa_ (au_ f) (aa_ (big4_eq p.1 p.2) (aa_ (a:=bytesS ((h.l.take (k+1)).flatMap λx=>[IntKind.u8.wrap (x.fdiv (2^24)),IntKind.u8.wrap (x.fdiv (2^16)),IntKind.u8.wrap (x.fdiv (2^8)),IntKind.u8.wrap x])) ?_ (by rw[aw_ (by omega)]))));rw[List.take_add_one,qQ f,List.flatMap_append,js_];have m:(bytesS ((h.l.take k).flatMap λx=>[IntKind.u8.wrap (x.fdiv (2^24)),IntKind.u8.wrap (x.fdiv (2^16)),IntKind.u8.wrap (x.fdiv (2^8)),IntKind.u8.wrap x])).length<=32:=by
    rw[kO_];have D:∀l:List Int,(l.flatMap λx=>[IntKind.u8.wrap (x.fdiv (2^24)),IntKind.u8.wrap (x.fdiv (2^16)),IntKind.u8.wrap (x.fdiv (2^8)),IntKind.u8.wrap x]).length=4*l.length:=λl=>by
     induction l with
     | nil=>rfl
     | cons a l q=>rw[List.flatMap_cons,qLa,q];simp;omega
    rw[D,qb];omega
   rw[bK_ (by
    have G:(bytesS [IntKind.u8.wrap (h.l[k].fdiv (2^24)),IntKind.u8.wrap (h.l[k].fdiv (2^16)),IntKind.u8.wrap (h.l[k].fdiv (2^8)),IntKind.u8.wrap h.l[k]]).length=4:=rfl;exact qk (Nat.add_le_add m (Nat.le_of_eq G)) (by decide))]
   rfl
  .unfold nY_;refine ab_ (by simp) ?_;rfl
def b7_(k:Int)(d:Str):Str:=shaS (bytesS [IntKind.u8.wrap k]++d)
theorem nt_(k:Int)(d:Str):(b7_ k d).length=32:=shaS_len _
theorem Score_eq(k:Int){d:Str}(h:d.length<=1073741824):na_ k d=some (b7_ k d):=by
 unfold na_;have f:(bytesS [IntKind.u8.wrap k]).length=1:=rfl;exact aa_ (bK_ (by rw[f];omega)) (aa_ (Sum_eq _ (by rw[qLa,f];omega)) rfl)
theorem st_{k:Int}(h:0<=k)(m:k<256){d:Str}(j:d.length<=1073741824):iO_ k d=some (b7_ k d):=by
 unfold iO_;have e:(w64 (k.tmod 256+256)).tmod 256=k:=by
  rw[zh h,aq_ ⟨by omega,by omega⟩,zh (by omega)];omega
 rw[e];have f:(bytesS [IntKind.u8.wrap k]).length=1:=rfl;exact aa_ (bK_ (by rw[f];omega)) (aa_ (ref_Sum_eq _ (by rw[qLa,f];omega)) rfl)
def mk(k:Int)(d:Str):Yk:=Yk.mk (b7_ k d) k d
theorem made_eq(k:Int){d:Str}(f:d.length<=1073741824):ki_ k d=some (mk k d):=by
 unfold ki_;exact aa_ (Score_eq k f) rfl
def e9_(sc:Str)(b:Yk):Bool:=b.Yy==sc
theorem at_loop{l:List Yk}(sc:Str)(f:l.length<=9223372036854775807):nW_ l sc=some (at_ (e9_ sc) l):=by
 unfold nW_;have h:=bG_ (body:=lI_ l sc) l (λi x=>if e9_ sc x then some ((i:Nat):Int)else none) (Nat.lt_of_le_of_lt f (by decide)) (λi hi => ?_) ?_
 .rw[bT_ h (λr=>rfl) (x := -1) rfl,jX_]
 .unfold lI_;refine af_ (bm_ hi) (aa_ (au_ hi) ?_);unfold e9_;cases j:l[i].Yy==sc with
  | true=>rfl
  | false =>
   rw[aw_ (by omega)];rfl
 .unfold lI_;exact ab_ (bC_ _) rfl
theorem index_eq{s:Xx}(sc:Str)(m:s.Xi.length<=9223372036854775807):iR_ s sc=some (at_ (e9_ sc) s.Xi):=by
 unfold iR_;refine aa_ (a:=at_ (e9_ sc) s.Xi) ?_ rfl;unfold cU_;generalize s.Xi=l at *
 have h:=bG_ (body:=b0_ l (λ(j:Yk)=>Option.bind (mC_ j sc) λ(f:Bool)=>some f)) l (λi x=>if e9_ sc x then some ((i:Nat):Int)else none) (Nat.lt_of_le_of_lt m (by decide)) (λi hi => ?_) ?_
 .rw[bT_ h (λr=>rfl) (x := -1) rfl,jX_]
 .unfold b0_;refine af_ (bm_ hi) (aa_ (au_ hi) (aa_ (a:=e9_ sc l[i]) rfl ?_));cases p:e9_ sc l[i]with
  | true=>rfl
  | false =>
   rw[aw_ (by omega)];rfl
 .unfold b0_;exact ab_ (bC_ _) rfl
def cD_(s:Xx)(sc:Str):Option Yk:=s.Xi.find? (e9_ sc)
theorem nu_{s:Xx}{sc:Str}{b:Yk}(h:cD_ s sc=some b):b∈s.Xi/\b.Yy=sc:=by
 unfold cD_ at h;refine⟨zH h,?_⟩;have:=jW h;unfold e9_ at this;exact eq_of_beq this
theorem at_ge{l:List Yk}(sc:Str):decide (at_ (e9_ sc) l>=0)=(l.find? (e9_ sc)).isSome:=by
 rcases lk_ (e9_ sc) l with⟨h,f⟩|⟨i,x,h,f,_⟩
 .rw[h,f];rfl
 .rw[h,f];simp
def aJ_(s:Xx)(k:Int)(d:Str):Xx×Str×Int :=
 if d.length>1024 then(s,[],4)else match cD_ s (b7_ k d)with
  | some b=>if b=mk k d then(s,b7_ k d,0)else(s,[],34)
  | none=>if(s.Xi.length:Int)>=s.Yi then(s,[],22)else(Xx.mk s.Yi (s.Xi++[mk k d]),b7_ k d,0)
theorem ud_{l:List Yk}(f:l.length<=1073741824):bM_ l=some l:=hQ_ (by omega) (by omega)
theorem Put_eq{s:Xx}{k:Int}{d:Str}(u:1<=k/\k<=4)(p:s.Xi.length<=1073741824)(q:d.length<=1073741824):ml_ s k d=some (aJ_ s k d):=by
 unfold ml_ aJ_;refine aa_ (a:=s) (aa_ (ud_ p) rfl) (aa_ (a:=true) (by unfold ph_;simp;omega) (ab_ rfl ?_));by_cases m:d.length>1024
 .rw[qV m];exact af_ (by simp;omega) rfl
 .rw [qX m];refine ab_ (by simp;omega) (aa_ (made_eq k q) (aa_ (index_eq (mk k d).Yy (by omega)) ?_));rw[at_ge];show(bif(cD_ s (b7_ k d)).isSome then _ else _)=_;cases j:cD_ s (b7_ k d)with
  | some b =>
   refine af_ rfl (aa_ (a:=b) ?_ ?_)
   .have:=mo_ (e9_ (mk k d).Yy) s.Xi (by show(cD_ s (b7_ k d)).isNone=false;rw[j];rfl);rw[this];exact j
   .simp only;by_cases h:b=mk k d
    .rw[qV h];exact ab_ (by simp[h]) rfl
    .rw[qX h];exact af_ (by simp[h]) rfl
  | none =>
   refine ab_ rfl ?_;simp only;by_cases f:(s.Xi.length:Int)>=s.Yi
   .rw[qV f];exact af_ (by simpa using f) rfl
   .rw[qX f];exact ab_ (by simpa using f) (aa_ (bj_ (by simp;omega) (by simp;omega)) rfl)
theorem q6_{s:Xx}{k:Int}{d:Str}(u:1<=k/\k<=4)(q:s.Xi.length<=1073741824)(p:d.length<=1073741824):jV_ s k d=some (aJ_ s k d):=by
 unfold jV_ aJ_;refine aa_ (a:=true) (by unfold qI_;simp;omega) (ab_ rfl ?_);by_cases m:d.length>1024
 .rw[qV m];exact af_ (by simp;omega) rfl
 .rw [qX m];refine ab_ (by simp;omega) (aa_ (st_ (by omega) (by omega) p) (aa_ (at_loop (b7_ k d) (by omega)) ?_));rw[at_ge];show(bif(cD_ s (b7_ k d)).isSome then _ else _)=_;cases j:cD_ s (b7_ k d)with
  | some b =>
   refine af_ rfl (aa_ (a:=b) ?_ ?_)
   .have:=mo_ (e9_ (b7_ k d)) s.Xi (by show(cD_ s (b7_ k d)).isNone=false;rw[j];rfl);rw[this];exact j
   .simp only;by_cases h:b=mk k d
    .rw[qV h];exact ab_ (by simp[h,mk]) rfl
    .rw[qX h];exact af_ (by simpa[mk]using h) rfl
  | none =>
   refine ab_ rfl ?_;simp only;by_cases f:(s.Xi.length:Int)>=s.Yi
   .rw[qV f];exact af_ (by simpa using f) rfl
   .rw[qX f];refine ab_ (by simpa using f) (aa_ (a:=s.Xi) ?_ (aa_ (bj_ (by simp;omega) (by simp;omega)) rfl));rw[bj_ (by simp;omega) (by simp;omega)];rfl
def getB(s:Xx)(sc:Str)(k:Int):Str×Int:=match cD_ s sc with|none=>([],35)|some b=>if b.Yo≠k then([],1)else if b7_ k b.Xd=sc then(b.Xd,0)else([],34)
theorem Get_eq{s:Xx}{k:Int}{sc:Str}(y:s.Xi.length<=1073741824)(u:∀b∈s.Xi,b.Xd.length<=1073741824):oJ_ s sc k=some (getB s sc k):=by
 unfold oJ_ getB;refine aa_ (index_eq sc (by omega)) ?_;rw[kH_];show(bif(cD_ s sc).isNone then _ else _)=_;cases p:cD_ s sc with
 | none=>exact af_ rfl rfl
 | some b =>
  obtain⟨x,q⟩:=nu_ p;have h:an_ s.Xi (at_ (e9_ sc) s.Xi)=some b:=by
   rw[mo_ (e9_ sc) s.Xi (by show(cD_ s sc).isNone=false;rw[p];rfl)];exact p
  refine ab_ rfl (aa_ h ?_);simp only;by_cases f:b.Yo≠k
  .rw[qV f];exact af_ (by simpa using f) rfl
  .rw[qX f];refine ab_ (by simpa using f) (aa_ h (aa_ h (aa_ (made_eq k (u b x)) ?_)));have m:b.Yo=k:=Classical.not_not.1 f;by_cases j:b7_ k b.Xd=sc
   .rw[qV j];refine ab_ ?_ (aa_ h rfl);have:b=mk k b.Xd:=by
     cases b
     simp only[mk,Yk.mk.injEq]at *
     exact⟨q.trans j.symm,m,trivial⟩
    simp[←this]
   .rw[qX j];refine af_ ?_ rfl;have:b≠mk k b.Xd:=λe=>j (by
     have:=qH Yk.Yy e;rw[q]at this;exact this.symm)
    simp[this]
theorem ref_Get_eq{s:Xx}{k:Int}{sc:Str}(m:0<=k/\k<256)(x:s.Xi.length<=1073741824)(q:∀b∈s.Xi,b.Xd.length<=1073741824):oF_ s sc k=some (getB s sc k):=by
 unfold oF_ getB;refine aa_ (at_loop sc (by omega)) ?_;rw[kH_];show(bif(cD_ s sc).isNone then _ else _)=_;cases j:cD_ s sc with
 | none=>exact af_ rfl rfl
 | some b =>
  obtain⟨u,y⟩:=nu_ j;have p:an_ s.Xi (at_ (e9_ sc) s.Xi)=some b:=by
   rw[mo_ (e9_ sc) s.Xi (by show(cD_ s sc).isNone=false;rw[j];rfl)];exact j
  refine ab_ rfl (aa_ p ?_);simp only;by_cases f:b.Yo≠k
  .rw[qV f];exact af_ (by simpa using f) rfl
  .rw[qX f];refine ab_ (by simpa using f) (aa_ (st_ m.1 m.2 (q b u)) ?_);by_cases h:b7_ k b.Xd=sc
   .rw[qV h];exact ab_ (by simp[h]) rfl
   .rw[qX h];exact af_ (by simp[h]) rfl
def BlOK(b:Yk):Prop:=1<=b.Yo/\b.Yo<=4/\b.Xd.length<=1024/\b.Yy.length=32
structure StOK(s:Xx):Prop where
 cap1:1<=s.Yi
 cap2:s.Yi<=4096
 len:(s.Xi.length:Int)<=s.Yi
 all:∀b∈s.Xi,BlOK b
 nd:(s.Xi.map (·.Yy)).Nodup
theorem StOK.size{s:Xx}(h:StOK s):s.Xi.length<=4096:=by
 have:=h.len;have:=h.cap2;omega
theorem findB_app{s:Xx}{sc:Str}(l:List Yk)(b:Yk)(h:cD_ s sc=some b):cD_ (Xx.mk s.Yi (s.Xi++l)) sc=some b:=by
 unfold cD_ at *
 rw[List.find?_append,h];rfl
def StLe(s t:Xx):Prop:=t.Yi=s.Yi/\∃l,t.Xi=s.Xi++l
theorem StLe.refl(s:Xx):StLe s s:=⟨rfl,[],by simp⟩
theorem StLe.trans{a b c:Xx}(h:StLe a b)(k:StLe b c):StLe a c:=by
 obtain⟨p,l,j⟩:=h;obtain⟨k1,m,f⟩:=k;exact⟨k1.trans p,l++m,by rw[f,j,qT]⟩
theorem StLe.find{s t:Xx}(h:StLe s t){sc:Str}{b:Yk}(m:cD_ s sc=some b):cD_ t sc=some b:=by
 obtain⟨j,l,f⟩:=h;have:t=Xx.mk s.Yi (s.Xi++l):=by cases t;simp only at j f;rw[j,f]
 rw[this];exact findB_app l b m
theorem nB_{s:Xx}{k:Int}{d:Str}(j:StOK s)(u:1<=k/\k<=4):StOK (aJ_ s k d).1/\StLe s (aJ_ s k d).1/\((aJ_ s k d).2.2=0->(aJ_ s k d).2.1=b7_ k d/\d.length<=1024/\cD_ (aJ_ s k d).1 (b7_ k d)=some (mk k d)):=by
 unfold aJ_;split
 .exact⟨j,StLe.refl s,λe=>by cases e⟩
 .rename_i y;split
  .rename_i b m;split
   .rename_i e;exact⟨j,StLe.refl s,λ_=>⟨rfl,by omega,by rw[m,e]⟩⟩
   .exact⟨j,StLe.refl s,λe=>by cases e⟩
  .rename_i m;split
   .exact⟨j,StLe.refl s,λe=>by cases e⟩
   .rename_i C;refine⟨⟨j.cap1,j.cap2,by simp;omega,λb f => ?_,?_⟩,⟨rfl,_,rfl⟩,λ_=>⟨rfl,by omega,?_⟩⟩
    .rcases qY.1 f with h|h
     .exact j.all b h
     .rw[qE]at h;subst h;exact⟨u.1,u.2,by show d.length<=1024;omega,nt_ k d⟩
    .simp only[List.map_append,zB,List.map_nil];refine List.nodup_append.2 ⟨j.nd,by simp,λa x b f e => ?_⟩;rw[qE]at f;obtain⟨c,q,p⟩:=zQ.1 x;have:=zy.1 m c q
     apply this;unfold e9_;rw[p,e,f];exact jX _
    .unfold cD_;rw[List.find?_append];have f:s.Xi.find? (e9_ (b7_ k d))=none:=m;rw[f];show List.find? _ [mk k d]=_;simp[e9_,mk]
def runE{α σ β:Type}(f:σ->α->σ ⊕ β)(fin:σ->β):σ->List α->β
 | s,[]=>fin s
 | s,x::l=>match f s x with
  | .inl s'=>runE f fin s' l
  | .inr b=>b
def stepE{σ τ β:Type}(mk:σ->τ):σ ⊕ β->Step τ β | .inl s => .next (mk s) | .inr b => .done b
theorem su_{α σ τ β:Type}{body:τ->Option (Step τ β)}(xs:List α)(f:σ->α->σ ⊕ β)(mk:Nat->σ->τ)(Inv:Nat->σ->Prop)(fin:σ->β)(s0:σ)(u:xs.length<BIG)(D:Inv 0 s0)
  (y:∀i s (h:i<xs.length),Inv i s->body (mk i s)=some (stepE (mk (i+1)) (f s xs[i]))/\∀s',f s xs[i] = .inl s'->Inv (i+1) s')
  (x:∀s,Inv xs.length s->body (mk xs.length s)=some (.done (fin s))):am_ body BIG (mk 0 s0)=some (runE f fin s0 xs):=by
 refine fE_ (J:=λi t b=>∃s,Inv i s/\t=mk i s/\b=runE f fin s (xs.drop i)) xs.length u (λt b p => ?_) (λi t b hi p => ?_) ⟨s0,D,rfl,by simp⟩
 .obtain⟨s,q,rfl,rfl⟩:=p;rw[x s q];simp[runE]
 .obtain⟨s,q,rfl,rfl⟩:=p;obtain⟨j,C⟩:=y i s hi q;rw[zV hi];simp only[runE];cases m:f s xs[i]with
  | inl s' =>
   rw[m]at j;exact .inr ⟨_,j,s',C s' m,rfl,rfl⟩
  | inr b =>
   rw[m]at j;exact .inl j
def nP(n:Nat):Nat:=max 1 ((n+1023)/1024)
def piece(s:Str)(j:Nat):Str:=(s.drop (1024*j)).take 1024
def pieces(s:Str):List Str:=(List.range (nP s.length)).map (piece s)
theorem cA_(s:Str):(pieces s).length=nP s.length:=by simp[pieces]
theorem iq_(s:Str){i:Nat}(h:i<(pieces s).length):(pieces s)[i]=piece s i:=by simp[pieces]
theorem oX_(s:Str)(j:Nat):(piece s j).length=min 1024 (s.length-1024*j):=by simp[piece]
theorem chunks_eq{s:Str}(u:s.length<=1099511627776):fY_ s 1024=some (pieces s):=by
 unfold fY_;have hm:1<=nP s.length:=jU _ _;obtain⟨m,hm⟩:∃m,nP s.length=m+1:=⟨nP s.length-1,by omega⟩;have h:max 1 ((s.length+1023)/1024)=m+1:=hm;have f:piece s m=s.drop (1024*m):=by
  unfold piece;rw[qc];rw[qS];omega
 refine aa_ (a:=(s.drop (1024*m),(List.range m).map (piece s))) ?_ (aa_ (a:=pieces s) ?_ rfl)
 .have q:(s,([]:List Str))=(s.drop (1024*0),(List.range 0).map (piece s)):=by simp
  rw[q];refine be_ (T:=λi=>(s.drop (1024*i),(List.range i).map (piece s))) m (b6_ (by omega)) (λi hi => ?_) ?_
  .unfold iB_;have p:(s.drop (1024*i)).length=s.length-1024*i:=qS;have j:1024*i+1024<s.length:=by omega
   refine af_ (by show decide (((s.drop (1024*i)).length:Int)>1024)=true;rw[p];simp;omega) (aa_ (a:=piece s i) ?_ (aa_ (a:=(List.range (i+1)).map (piece s)) ?_ (aa_ (a:=s.drop (1024*(i+1))) ?_ rfl)))
   .show bI_ (s.drop (1024*i)) 0 1024=_;rw[b5_ (by omega) (by omega) (by omega)];rfl
   .show room 16 ((List.range i).map (piece s)) [piece s i]=_;rw[bj_ (by simp;omega) (by simp;omega),List.range_succ,List.map_append];rfl
   .show bI_ (s.drop (1024*i)) 1024 ((s.drop (1024*i)).length:Int)=_;rw[b5_ (by omega) (by omega) (by omega),qTn,jm];show some ((s.drop (1024*i)).drop 1024)=_;rw[jV];rfl
  .unfold iB_;refine ab_ ?_ rfl;show decide (((s.drop (1024*m)).length:Int)>1024)=false;rw[qS];simp;omega
 .show room 16 ((List.range m).map (piece s)) [s.drop (1024*m)]=_;rw[bj_ (by simp;omega) (by simp;omega)];unfold pieces;rw[hm,List.range_succ,List.map_append,←f];rfl
def ar_(k:Int):Xx->List Str->Xx×List Str×Int|s,[]=>(s,[],0)|s,p::ps=>if(aJ_ s k p).2.2=0 then((ar_ k (aJ_ s k p).1 ps).1,(aJ_ s k p).2.1::(ar_ k (aJ_ s k p).1 ps).2.1,(ar_ k (aJ_ s k p).1 ps).2.2)else(s,[],(aJ_ s k p).2.2)
theorem gb_{k:Int}(u:1<=k/\k<=4):∀{ps:List Str} {s:Xx},StOK s->StOK (ar_ k s ps).1/\StLe s (ar_ k s ps).1/\((ar_ k s ps).2.2=0->(ar_ k s ps).2.1=ps.map (b7_ k)/\∀p∈ps,p.length<=1024/\cD_ (ar_ k s ps).1 (b7_ k p)=some (mk k p))
 | [],s,f=>⟨f,StLe.refl s,λ_=>⟨rfl,λ_ h=>nomatch h⟩⟩
 | p::ps,s,f=>by
  obtain⟨J,G,F⟩:=nB_ (d:=p) f u;obtain⟨x,i2,i3⟩:=gb_ u (ps:=ps) J;unfold ar_;split
  .rename_i m;obtain⟨D,C,y⟩:=F m;refine⟨x,G.trans i2,λe => ?_⟩;obtain⟨i4,i5⟩:=i3 e;refine⟨by rw[zB,D,i4],λq j => ?_⟩;rcases qW.1 j with rfl|j
   .exact⟨C,i2.find y⟩
   .exact i5 q j
  .rename_i m;exact⟨f,StLe.refl s,λe=>absurd e m⟩
theorem hZ_{k:Int}(j:1<=k/\k<=4){ps:List Str}{s:Xx}(h:StOK s)(m:(ar_ k s ps).2.2=0):(ar_ k s ps).2.1.length=ps.length/\∀x∈(ar_ k s ps).2.1,x.length=32:=by
 rw[((gb_ j h).2.2 m).1];refine⟨zo _,λx f => ?_⟩;obtain⟨p,_,rfl⟩:=zQ.1 f;exact nt_ k p
abbrev e6_:Xp:=Xp.mk [] 0 0
def fP(k:Int)(t:Str×Xx×Xp)(p:Str):(Str×Xx×Xp) ⊕ Out (Str×Xx×Xp×List Str) (Xx×Xp×Int):=if(aJ_ t.2.1 k p).2.2=0 then .inl (t.1++(aJ_ t.2.1 k p).2.1,(aJ_ t.2.1 k p).1,Xp.mk (aJ_ t.2.1 k p).2.1 t.2.2.Xt t.2.2.Ye)else .inr (.ret (t.2.1,e6_,(aJ_ t.2.1 k p).2.2))
theorem fP_run(k:Int)(ps:List Str):∀(l:List Str) (acc:Str) (s:Xx) (r:Xp),runE (fP k) (λt => .fall (t.1,t.2.1,t.2.2,ps)) (acc,s,r) l=(if(ar_ k s l).2.2=0 then .fall (acc++(ar_ k s l).2.1.flatten,(ar_ k s l).1,Xp.mk ((ar_ k s l).2.1.getLastD r.Yy) r.Xt r.Ye,ps)else .ret ((λo=>o) (runE (fP k) (λt => .fall (t.1,t.2.1,t.2.2,ps)) (acc,s,r) l |> λo=>match o with | .ret q=>q.1 | .fall q=>q.2.1),e6_,(ar_ k s l).2.2))
 | [],acc,s,r=>by simp[runE,ar_]
 | p::l,acc,s,r=>by
  by_cases f:(aJ_ s k p).2.2=0
  .have m:fP k (acc,s,r) p = .inl (acc++(aJ_ s k p).2.1,(aJ_ s k p).1,Xp.mk (aJ_ s k p).2.1 r.Xt r.Ye):=qV f;have j:ar_ k s (p::l)=((ar_ k (aJ_ s k p).1 l).1,(aJ_ s k p).2.1::(ar_ k (aJ_ s k p).1 l).2.1,(ar_ k (aJ_ s k p).1 l).2.2):=qV f;simp only[runE,m,j];have h:=fP_run k ps l (acc++(aJ_ s k p).2.1) (aJ_ s k p).1 (Xp.mk (aJ_ s k p).2.1 r.Xt r.Ye);by_cases u:(ar_ k (aJ_ s k p).1 l).2.2=0
   .rw[qV u]at h ⊢;rw[h];simp only[qv,qT,List.getLastD_cons]
   .rw[qX u]at h ⊢;exact h
  .have m:fP k (acc,s,r) p = .inr (.ret (s,e6_,(aJ_ s k p).2.2)):=qX f;have j:ar_ k s (p::l)=(s,[],(aJ_ s k p).2.2):=qX f;simp only[runE,m,j,qX f]
theorem passP{k:Int}(y:1<=k/\k<=4){s:Xx}(J:StOK s)(r:Xp){ps:List Str}(m:∀p∈ps,p.length<=1024)(V:ps.length<=1073741824) :
  ∃o,am_ (fZ_ (k,s,r,ps)) BIG ([],0,s.Yi,s.Xi,r,ps)=some o/\(if(ar_ k s ps).2.2=0 then o = .fall ((ar_ k s ps).2.1.flatten,(ar_ k s ps).1,Xp.mk ((ar_ k s ps).2.1.getLastD r.Yy) r.Xt r.Ye,ps)else ∃s',o = .ret (s',e6_,(ar_ k s ps).2.2)):=by
 refine⟨_,su_ (body:=fZ_ (k,s,r,ps)) ps (fP k) (λi t=>(t.1,(i:Int),t.2.1.Yi,t.2.1.Xi,t.2.2,ps)) (λi t=>StOK t.2.1/\t.1.length<=32*i) (λt => .fall (t.1,t.2.1,t.2.2,ps)) ([],s,r) (b6_ (by omega)) ⟨J,by simp⟩ (λi t hi C => ?_) (λt C => ?_),?_⟩
 .obtain⟨acc,u,q⟩:=t;obtain⟨F,D⟩:=C;have U:=m ps[i] (qr hi);have j:=Put_eq (s:=u) (d:=ps[i]) y (by have:=(show StOK u from F).size;omega) (by omega);obtain⟨G,O,x⟩:=nB_ (d:=ps[i]) F y;constructor
  .unfold fZ_;refine af_ (by show decide ((i:Int)<(ps.length:Int))=true;exact bm_ hi) (aa_ (au_ hi) (aa_ j ?_));unfold fP;simp only;by_cases h:(aJ_ u k ps[i]).2.2=0
   .rw[qV h];refine ab_ (by simp[h]) (aa_ (bK_ ?_) ?_)
    .rw[(x h).1,nt_];simp only at D ⊢;omega
    .rw[aw_ (by omega)];rfl
   .rw[qX h];exact af_ (by simp[h]) rfl
  .intro M f;unfold fP at f;simp only at f;split at f
   .rename_i h;injection f with f;subst f;refine⟨G,?_⟩;simp only[qLa,(x h).1,nt_];simp only at D;omega
   .cases f
 .obtain⟨acc,u,q⟩:=t;unfold fZ_;exact ab_ (by show decide ((ps.length:Int)<(ps.length:Int))=false;exact bC_ _) rfl
 .rw[fP_run];split
  .simp
  .exact⟨_,rfl⟩
def fR0(x0:Xx)(k:Int)(t:Xx×List Str)(p:Str):(Xx×List Str) ⊕ Out (Xx×List Str) (Xx×Xp×Int):=if(aJ_ t.1 k p).2.2=0 then .inl ((aJ_ t.1 k p).1,t.2++[(aJ_ t.1 k p).2.1])else .inr (.ret (x0,e6_,(aJ_ t.1 k p).2.2))
theorem fR0_run(x0:Xx)(k:Int):∀(l:List Str) (s:Xx) (acc:List Str),runE (fR0 x0 k) (λt => .fall t) (s,acc) l=if(ar_ k s l).2.2=0 then .fall ((ar_ k s l).1,acc++(ar_ k s l).2.1)else .ret (x0,e6_,(ar_ k s l).2.2)
 | [],s,acc=>by simp[runE,ar_]
 | p::l,s,acc=>by
  by_cases f:(aJ_ s k p).2.2=0
  .have j:fR0 x0 k (s,acc) p = .inl ((aJ_ s k p).1,acc++[(aJ_ s k p).2.1]):=qV f;have h:ar_ k s (p::l)=((ar_ k (aJ_ s k p).1 l).1,(aJ_ s k p).2.1::(ar_ k (aJ_ s k p).1 l).2.1,(ar_ k (aJ_ s k p).1 l).2.2):=qV f;simp only[runE,j,h];rw[fR0_run];simp
  .have j:fR0 x0 k (s,acc) p = .inr (.ret (x0,e6_,(aJ_ s k p).2.2)):=qX f;have h:ar_ k s (p::l)=(s,[],(aJ_ s k p).2.2):=qX f;simp only[runE,j,h,qX f]
theorem passR0{k:Int}(y:1<=k/\k<=4){x0:Xx}(F:StOK x0){d:Str}(O:d.length<=1073741824) :
  am_ (hL_ d k x0) BIG (0,x0,[])=some (if(ar_ k x0 (pieces d)).2.2=0 then .fall ((ar_ k x0 (pieces d)).1,(ar_ k x0 (pieces d)).2.1)else .ret (x0,e6_,(ar_ k x0 (pieces d)).2.2)):=by
 have M:(pieces d).length=max 1 ((d.length+1023)/1024):=cA_ d;have h:=su_ (body:=hL_ d k x0) (pieces d) (fR0 x0 k) (λi t=>(((1024*i:Nat):Int),t.1,t.2)) (λi t=>StOK t.1/\t.2.length=i) (λt => .fall t) (x0,[]) (b6_ (by omega)) ⟨F,rfl⟩ (λi t hi C => ?_) (λt C => ?_)
 .rw[fR0_run]at h;simpa using h
 .obtain⟨u,l⟩:=t;obtain⟨q,D⟩:=C;simp only at q D;have J:(pieces d)[i].length<=1024:=by rw[iq_,oX_];omega
  have m:=q6_ (s:=u) (d:=(pieces d)[i]) y (by have:=q.size;omega) (by omega);have f:w64 (((1024*i:Nat):Int)+1024)=((1024*(i+1):Nat):Int):=by rw[aq_ ⟨by omega,by omega⟩];omega
  constructor
  .unfold hL_;refine af_ ?_ (aa_ (a:=(pieces d)[i]) ?_ (aa_ m ?_))
   .simp only[qP,qG,qDe];omega
   .rw[iq_];show bI_ d ((1024*i:Nat):Int) (br_ (w64 (((1024*i:Nat):Int)+1024)) (d.length:Int))=_;have emin:br_ ((1024*(i+1):Nat):Int) (d.length:Int)=((min (1024*(i+1)) d.length:Nat):Int):=by
     unfold br_;split<;>omega
    rw[f,emin,b5_ (by omega) (by omega) (by omega),qTn,qTn];unfold piece;rw[jE];refine qH some ?_;rcases Nat.le_total (1024*(i+1)) d.length with x|x
    .rw[zi x,show 1024*(i+1)-1024*i=1024 by omega]
    .rw[jR x,qc (by rw[qS];omega),qc (by rw[qS];omega)]
   .unfold fR0;simp only;by_cases p:(aJ_ u k (pieces d)[i]).2.2=0
    .rw[qV p];refine ab_ (by simp[p]) (aa_ (bj_ (by simp;omega) (by simp;omega)) ?_);rw[f];rfl
    .rw[qX p];exact af_ (by simp[p]) rfl
  .intro G j;unfold fR0 at j;simp only at j;split at j
   .injection j with j;subst j;exact⟨(nB_ q y).1,by simp[D]⟩
   .cases j
 .obtain⟨u,l⟩:=t;unfold hL_;refine ab_ ?_ rfl;simp only[qh,qz,qDf,ne_eq];omega
def l8_(l:List Str):Prop:=∀x∈l,x.length=32
theorem gD_:∀{l:List Str},l8_ l->l.flatten.length=32*l.length
 | [],_=>rfl
 | x::l,h=>by
  rw[qv,qLa,h x qD,gD_ (l:=l) λy f=>h y (qC _ f),qLc];omega
theorem ps_:∀{l:List Str} (n:Nat),l8_ l->l.flatten.drop (32*n)=(l.drop n).flatten
 | [],n,_=>by simp
 | x::l,0,_=>by simp
 | x::l,n+1,h=>by
  have j:=h x qD;rw[qv,List.drop_append,jH (show x.length<=32*(n+1)by omega),zG,j,show 32*(n+1)-32=32*n by omega,ps_ n λy f=>h y (qC _ f)];rfl
theorem tv_:∀{l:List Str} (n:Nat),l8_ l->l.flatten.take (32*n)=(l.take n).flatten
 | [],n,_=>by simp
 | x::l,0,_=>by simp
 | x::l,n+1,h=>by
  have j:=h x qD;rw[qv,List.take_append,qc (show x.length<=32*(n+1)by omega),j,show 32*(n+1)-32=32*n by omega,tv_ n λy f=>h y (qC _ f)];rfl
theorem piece32{l:List Str}(h:l8_ l)(i:Nat):piece l.flatten i=((l.drop (32*i)).take 32).flatten:=by
 unfold piece;rw[show 1024*i=32*(32*i)by omega,ps_ _ h,show 1024=32*32 by rfl,tv_ _ λy f=>h y (List.mem_of_mem_drop f)]
theorem fR2_run(l:List Str)(p:l8_ l)(F:l.length<=1073741824)(i:Nat)(st:Xx)(acc:List Str)(hi:32*i<l.length) :
  am_ (hM_ (((32*i:Nat):Int),st,l,acc)) BIG ([],((32*i:Nat):Int),l)=some (piece l.flatten i,l):=by
 rw[piece32 p];have m:w64 (((32*i:Nat):Int)+32)=((32*i+32:Nat):Int):=by rw[aq_ ⟨by omega,by omega⟩];omega
 have hm:((l.drop (32*i)).take 32).length=min 32 (l.length-32*i):=by simp
 have h:=d4_ (body:=hM_ (((32*i:Nat):Int),st,l,acc)) ((l.drop (32*i)).take 32) (λ(s:Str) _ x=>s++x) (λj s=>(s,((32*i+j:Nat):Int),l)) (λj s=>s.length<=32*j) (λs=>(s,l)) [] (b6_ (by omega)) (by simp) (λj s G y => ?_) (λs y => ?_)
 .have C:∀(xs:List Str) (s:Str) (k:Nat),bH_ (λ(s:Str) _ x=>s++x) s k xs=s++xs.flatten:=λxs=>by
   induction xs with
   | nil=>intro s k;simp[bH_]
   | cons x xs u=>intro s k;simp[bH_,u]
  rw[C]at h;simpa using h
 .have f:32*i+j<l.length:=by omega
  have q:((l.drop (32*i)).take 32)[j]=l[32*i+j]:=by simp
  have D:=p l[32*i+j] (qr f);constructor
  .unfold hM_;refine af_ ?_ (aa_ (au_ f) (aa_ (bK_ (show s.length+l[32*i+j].length<=_ by omega)) ?_))
   .rw[m];simp only[qAn,qDe];omega
   .show some (Step.next (s++l[32*i+j],w64 (((32*i+j:Nat):Int)+1),l))=_;rw[aw_ (by omega),q];rfl
  .rw[q,qLa];omega
 .unfold hM_;refine ab_ ?_ rfl;rw[m];simp only[zu,qDf];omega
theorem passR{x0 s:Xx}(D:StOK s){l:List Str}(x:l8_ l)(O:1<=l.length)(G:l.length<=1073741824) :
  am_ (hN_ x0) BIG (0,s,l,[])=some (if(ar_ 2 s (pieces l.flatten)).2.2=0 then .fall ((ar_ 2 s (pieces l.flatten)).1,(ar_ 2 s (pieces l.flatten)).2.1)else .ret (x0,e6_,(ar_ 2 s (pieces l.flatten)).2.2)):=by
 have F:(pieces l.flatten).length=max 1 ((32*l.length+1023)/1024):=by rw[cA_,gD_ x];rfl
 have h:=su_ (body:=hN_ x0) (pieces l.flatten) (fR0 x0 2) (λi t=>(((32*i:Nat):Int),t.1,l,t.2)) (λi t=>StOK t.1/\t.2.length=i) (λt => .fall t) (s,[]) (b6_ (by omega)) ⟨D,rfl⟩ (λi t hi y => ?_) (λt y => ?_)
 .rw[fR0_run]at h;simpa using h
 .obtain⟨u,acc⟩:=t;obtain⟨j,C⟩:=y;simp only at j C;have M:(pieces l.flatten)[i].length<=1024:=by rw[iq_,oX_];omega
  have m:=q6_ (s:=u) (d:=(pieces l.flatten)[i]) (k:=2) (by omega) (by have:=j.size;omega) (by omega);have q:w64 (((32*i:Nat):Int)+32)=((32*(i+1):Nat):Int):=by rw[aq_ ⟨by omega,by omega⟩];omega
  constructor
  .unfold hN_;refine af_ ?_ (aa_ (fR2_run l x G i u acc (by omega)) (aa_ (a:=aJ_ u 2 (pieces l.flatten)[i]) ?_ ?_))
   .simp only[qDe];omega
   .rw[←iq_ (h:=hi)];exact m
   .unfold fR0;simp only;by_cases p:(aJ_ u 2 (pieces l.flatten)[i]).2.2=0
    .rw[qV p];refine ab_ (by simp[p]) (aa_ (bj_ (by simp;omega) (by simp;omega)) ?_);rw[q];rfl
    .rw[qX p];exact af_ (by simp[p]) rfl
  .intro J f;unfold fR0 at f;simp only at f;split at f
   .injection f with f;subst f;exact⟨(nB_ j (by omega)).1,by simp[C]⟩
   .cases f
 .obtain⟨u,acc⟩:=t;unfold hN_;refine ab_ ?_ rfl;simp only[qDf];omega
structure Up where (store:Xx) (score:Str) (levels err:Int)
def upF:Nat->Int->Xx->List Str->Up | 0,_,s,_=>⟨s,[],0,2⟩|f+1,k,s,ps=>if(ar_ k s ps).2.2=0 then(if ps.length=1 then⟨(ar_ k s ps).1,(ar_ k s ps).2.1.getLastD [],0,0⟩else⟨(upF f 2 (ar_ k s ps).1 (pieces (ar_ k s ps).2.1.flatten)).store,(upF f 2 (ar_ k s ps).1 (pieces (ar_ k s ps).2.1.flatten)).score,(upF f 2 (ar_ k s ps).1 (pieces (ar_ k s ps).2.1.flatten)).levels+1,(upF f 2 (ar_ k s ps).1 (pieces (ar_ k s ps).2.1.flatten)).err⟩)else⟨s,[],0,(ar_ k s ps).2.2⟩
theorem gE_{σ β:Type}{body:σ->Option (Step σ β)}{b:β}:∀{n m:Nat} {s:σ},am_ body n s=some b->n<=m->am_ body m s=some b
 | 0,_,_,h,_=>by cases h
 | n+1,0,_,_,hm=>by omega
 | n+1,m+1,s,h,hm=>by
  simp only[am_]at h ⊢;cases f:body s with
  | none=>rw[f]at h;cases h
  | some x =>
   rw[f]at h;cases x with
   | done j=>exact h
   | next s'=>exact gE_ (n:=n) (m:=m) (s:=s') h (by omega)
theorem nP_up{n f:Nat}(h:n<=32^(f+1)):nP (32*n)<=32^f:=by
 have j:1<=32^f:=Nat.pos_of_ne_zero (by simp);rw[Nat.pow_succ]at h;unfold nP;omega
theorem upP:∀(f:Nat) {k:Int} {s:Xx} (r:Xp) {ps:List Str},1<=k/\k<=4->StOK s->(∀p∈ps,p.length<=1024)->1<=ps.length->ps.length<=32^f->ps.length<=1073741824 ->
  ∃q,am_ ig_ (f+1) (k,s,r,ps)=some (.ret q)/\if(upF (f+1) k s ps).err=0 then q=((upF (f+1) k s ps).store,Xp.mk (upF (f+1) k s ps).score r.Xt r.Ye,0)else ∃s',q=(s',e6_,(upF (f+1) k s ps).err)
 | f, k,s,r,ps,V,G,M,h1,Z,hn=>by
  obtain⟨o,U,D⟩:=passP V G r M hn;by_cases u:(ar_ k s ps).2.2=0
  .rw [qV u]at D;subst D;obtain⟨Y,l2⟩:=hZ_ V G u;obtain⟨F,_,_⟩:=gb_ V (ps:=ps) G;by_cases h:ps.length=1
   .have y:upF (f+1) k s ps=⟨(ar_ k s ps).1,(ar_ k s ps).2.1.getLastD [],0,0⟩:=by unfold upF;rw[qV u,qV h]
    rw[y];refine⟨_,aS_ (body:=ig_) (b := .ret ((ar_ k s ps).1,Xp.mk ((ar_ k s ps).2.1.getLastD r.Yy) r.Xt r.Ye,0)) (aa_ U (af_ (by simp[h]) rfl)),?_⟩
    .rw[qV rfl];obtain⟨x,hx⟩:=List.length_eq_one_iff.1 (Y.trans h);rw[hx];rfl
   .obtain⟨f,rfl⟩:∃f',f=f'+1:=⟨f-1,by
     rcases f with _|f
     .simp at Z;omega
     .rfl⟩
    have C:(ar_ k s ps).2.1.flatten.length=32*ps.length:=by rw[gD_ l2,Y]
    have O:∀p∈pieces (ar_ k s ps).2.1.flatten,p.length<=1024:=λp hp=>by
     obtain⟨j,_,rfl⟩:=zQ.1 hp;rw[oX_];omega
    have m:(pieces (ar_ k s ps).2.1.flatten).length=nP (32*ps.length):=by rw[cA_,C]
    have hb:nP (32*ps.length)<=32^f:=nP_up Z;obtain⟨q,hq,J⟩:=upP f (k:=2) (s:=(ar_ k s ps).1) (Xp.mk ((ar_ k s ps).2.1.getLastD r.Yy) r.Xt r.Ye) (ps:=pieces (ar_ k s ps).2.1.flatten) (by omega) F O (by rw[m];exact jU _ _) (by rw[m];exact hb) (by rw[m];unfold nP;omega);refine⟨q,bh_ (s':=(2,(ar_ k s ps).1,Xp.mk ((ar_ k s ps).2.1.getLastD r.Yy) r.Xt r.Ye,pieces (ar_ k s ps).2.1.flatten)) ?_ hq,?_⟩
    .refine aa_ U (ab_ (by simp;omega) (aa_ (chunks_eq (by rw[C];omega)) rfl))
    .have y:upF (f+1+1) k s ps=⟨(upF (f+1) 2 (ar_ k s ps).1 (pieces (ar_ k s ps).2.1.flatten)).store,(upF (f+1) 2 (ar_ k s ps).1 (pieces (ar_ k s ps).2.1.flatten)).score,(upF (f+1) 2 (ar_ k s ps).1 (pieces (ar_ k s ps).2.1.flatten)).levels+1,(upF (f+1) 2 (ar_ k s ps).1 (pieces (ar_ k s ps).2.1.flatten)).err⟩:=by
      rw[upF,qV u,qX h]
     rw[y];exact J
  .rw[qX u]at D;obtain⟨s',rfl⟩:=D;have y:upF (f+1) k s ps=⟨s,[],0,(ar_ k s ps).2.2⟩:=by unfold upF;rw[qX u]
   rw[y];refine⟨_,aS_ (body:=ig_) (b := .ret (s',e6_,(ar_ k s ps).2.2)) (aa_ U rfl),?_⟩;rw[qX u];exact⟨_,rfl⟩
theorem upR(x0:Xx):∀(f:Nat) {s:Xx} {l:List Str} (lev:Int),StOK s->l8_ l->1<=l.length->l.length<=32^f->l.length<=1073741824->0<=lev->lev+f<=1000 ->
  am_ (r1_ x0) (f+1) (lev,s,l)=some (if l.length=1 then .fall (lev,s,l)else if(upF f 2 s (pieces l.flatten)).err=0 then .fall (lev+1+(upF f 2 s (pieces l.flatten)).levels,(upF f 2 s (pieces l.flatten)).store,[(upF f 2 s (pieces l.flatten)).score])else .ret (x0,e6_,(upF f 2 s (pieces l.flatten)).err))
 | f, s,l,lev,D,G,h1,J,V,Z,Y=>by
  by_cases u:l.length=1
  .rw[qV u];exact aS_ (ab_ (by simp;omega) rfl)
  .rw [qX u];obtain⟨f,rfl⟩:∃f',f=f'+1:=⟨f-1,by
    rcases f with _|f
    .simp at J;omega
    .rfl⟩
   have y:=passR (x0:=x0) D G h1 V;have h:(pieces l.flatten).length=nP (32*l.length):=by rw[cA_,gD_ G]
   have hb:nP (32*l.length)<=32^f:=nP_up J;have U:w64 (lev+1)=lev+1:=aq_ ⟨by omega,by omega⟩;by_cases j:(ar_ 2 s (pieces l.flatten)).2.2=0
   .rw[qV j]at y;obtain⟨m,l2⟩:=hZ_ (by omega) D j;obtain⟨C,_,_⟩:=gb_ (k:=2) (by omega) (ps:=pieces l.flatten) D;have F:1<=nP (32*l.length):=jU _ _;have M:=upR x0 f (s:=(ar_ 2 s (pieces l.flatten)).1) (l:=(ar_ 2 s (pieces l.flatten)).2.1) (lev+1) C l2 (by rw[m,h];exact F) (by rw[m,h];exact hb) (by rw[m,h];unfold nP;omega) (by omega) (by omega);refine bh_ (s':=(lev+1,(ar_ 2 s (pieces l.flatten)).1,(ar_ 2 s (pieces l.flatten)).2.1)) (af_ (by simp;omega) (aa_ y (by rw[U]))) (M.trans ?_);by_cases q:(ar_ 2 s (pieces l.flatten)).2.1.length=1
    .rw[qV q];have p:upF (f+1) 2 s (pieces l.flatten)=⟨(ar_ 2 s (pieces l.flatten)).1,(ar_ 2 s (pieces l.flatten)).2.1.getLastD [],0,0⟩:=by unfold upF;rw[qV j,qV (m▸q)]
     rw[p,qV rfl];obtain⟨x,O⟩:∃x,(ar_ 2 s (pieces l.flatten)).2.1=[x]:=List.length_eq_one_iff.1 q;rw[O];simp
    .rw[qX q];have p:upF (f+1) 2 s (pieces l.flatten)=⟨(upF f 2 (ar_ 2 s (pieces l.flatten)).1 (pieces (ar_ 2 s (pieces l.flatten)).2.1.flatten)).store,(upF f 2 (ar_ 2 s (pieces l.flatten)).1 (pieces (ar_ 2 s (pieces l.flatten)).2.1.flatten)).score,(upF f 2 (ar_ 2 s (pieces l.flatten)).1 (pieces (ar_ 2 s (pieces l.flatten)).2.1.flatten)).levels+1,(upF f 2 (ar_ 2 s (pieces l.flatten)).1 (pieces (ar_ 2 s (pieces l.flatten)).2.1.flatten)).err⟩:=by
      rw[upF,qV j,qX (m▸q)]
     rw[p];simp only;split
     .congr 3
      omega
     .rfl
   .rw[qX j]at y;have p:upF (f+1) 2 s (pieces l.flatten)=⟨s,[],0,(ar_ 2 s (pieces l.flatten)).2.2⟩:=by unfold upF;rw[qX j]
    rw[p];simp only;rw[qX j];exact aS_ (af_ (by simp;omega) (aa_ y rfl))
def bA:Nat->Nat->Nat|n,0=>n|n,l+1=>(bA n l+31)/32
theorem q7_{n:Nat}(h:n<=1073741824):∀l,bA n l<=1073741824
 | 0=>h
 | l+1=>by have:=q7_ h l;unfold bA;omega
theorem quo32{n:Nat}(h:n<=1073741824):IntKind.i64.wrap ((w64 ((w64 ((n:Int)+32))-1)).tdiv 32)=(((n+31)/32:Nat):Int):=by
 rw[aq_ (n:=(n:Int)+32) ⟨by omega,by omega⟩,aq_ ⟨by omega,by omega⟩,zC (by omega),dA_ ⟨by omega,by omega⟩];omega
theorem quo1024{n:Nat}(h:n<=1073741824):IntKind.i64.wrap ((w64 ((w64 ((n:Int)+1024))-1)).tdiv 1024)=(((n+1023)/1024:Nat):Int):=by
 rw[aq_ (n:=(n:Int)+1024) ⟨by omega,by omega⟩,aq_ ⟨by omega,by omega⟩,zC (by omega),dA_ ⟨by omega,by omega⟩];omega
theorem max_nP(n:Nat):bN_ 1 (((n+1023)/1024:Nat):Int)=((nP n:Nat):Int):=by
 unfold bN_ nP;split<;>omega
theorem pt_{n:Nat}(f:n<=1073741824){l:Nat}(j:l<=1073741824):eW_ (n:Int) (l:Int)=some ((bA (nP n) l:Nat):Int):=by
 unfold eW_;rw[quo1024 f,max_nP];have h:=q7_ (n:=nP n) (by unfold nP;omega);refine aa_ (a:=((bA (nP n) l:Nat):Int)) ?_ rfl;refine be_ (T:=λi=>(((bA (nP n) i:Nat):Int),(i:Int))) l (b6_ (by omega)) (λi hi => ?_) ?_
 .unfold g9_;refine af_ (by simp;omega) ?_;show some (Step.next (IntKind.i64.wrap ((w64 ((w64 (((bA (nP n) i:Nat):Int)+32))-1)).tdiv 32),w64 ((i:Int)+1)))=_;rw[quo32 (h i),aw_ (by omega)];rfl
 .unfold g9_;exact ab_ (by simp) rfl
def hN(n:Nat):Nat:=if n<=1 then 0 else if n<=32 then 1 else 2
theorem nP_le{n:Nat}(h:n<=1048576):1<=nP n/\nP n<=1024:=by unfold nP;omega
theorem bA_gt{n i:Nat}(h:n<=1024)(hi:i<hN n):1<bA n i:=by
 unfold hN at hi;split at hi
 .omega
 .split at hi
  .obtain rfl:i=0:=by omega
   show 1<n;omega
  .have:i=0\/i=1:=by omega
   rcases this with rfl|rfl
   .show 1<n;omega
   .show 1<(n+31)/32;omega
theorem bA_one{n:Nat}(f:1<=n)(h:n<=1024):bA n (hN n)=1:=by
 unfold hN;split
 .show n=1;omega
 .split
  .show(n+31)/32=1;omega
  .show((n+31)/32+31)/32=1;omega
theorem hN_le(n:Nat):hN n<=2:=by unfold hN;split<;>(try split)<;>omega
theorem hN_up{n:Nat}(h:1<n)(j:n<=1024):hN n=hN ((n+31)/32)+1:=by
 unfold hN;by_cases f:n<=32
 .rw[qX (by omega),qV f,qV (by omega)]
 .rw[qX (by omega),qX f,qX (by omega),qV (by omega)]
theorem height_eq{n:Nat}(j:n<=1048576):fU_ (n:Int)=some ((hN (nP n):Nat):Int):=by
 unfold fU_;obtain⟨h,f⟩:=nP_le j;have m:=hN_le (nP n);refine aa_ (a:=((hN (nP n):Nat):Int)) ?_ rfl;refine be_ (T:=λi=>(i:Int)) (hN (nP n)) (b6_ (by omega)) (λi hi => ?_) ?_
 .unfold iy_;refine aa_ (pt_ (by omega) (by omega)) (af_ ?_ (by rw[aw_ (by omega)]));have:=bA_gt f hi;simp only[qDe];omega
 .unfold iy_;refine aa_ (pt_ (by omega) (by omega)) (ab_ ?_ rfl);rw[bA_one h f];rfl
theorem levels_ref{n:Nat}(j:n<=1048576):kf_ (n:Int)=some ((hN (nP n):Nat):Int):=by
 unfold kf_;rw[quo1024 (by omega),max_nP];obtain⟨h,f⟩:=nP_le j;have p:=hN_le (nP n);refine aa_ (a:=((hN (nP n):Nat):Int)) ?_ rfl;refine be_ (T:=λi=>(((bA (nP n) i:Nat):Int),(i:Int))) (hN (nP n)) (b6_ (by omega)) (λi hi => ?_) ?_
 .unfold ke_;have:=bA_gt f hi;refine af_ (by simp only[qDe];omega) ?_;have m:=q7_ (n:=nP n) (by omega) i;simp only[quo32 m,aw_ (show i<9223372036854775807 by omega)];rfl
 .unfold ke_;refine ab_ ?_ rfl;simp only[bA_one h f];rfl
def gc_(s:Xx)(k:Int)(d:Str):Up:=upF 3 k s (pieces d)
theorem q8_:∀(f:Nat) {k:Int} {s:Xx} {ps:List Str},1<=k/\k<=4->StOK s->(upF f k s ps).err=0->1<=ps.length->ps.length<=1024->(upF f k s ps).levels=((hN ps.length:Nat):Int)
 | 0,k,s,ps,_,_,h,_,_=>by simp[upF]at h
 | f+1,k,s,ps,y,x,h,F,D=>by
  unfold upF at h ⊢;split at h
  .rename_i p;obtain⟨C,l2⟩:=hZ_ y x p;obtain⟨q,_,_⟩:=gb_ y (ps:=ps) x;rw[qV p];split at h
   .rename_i j;rw[qV j,j];rfl
   .rename_i j;rw[qX j];simp only at h ⊢;have m:(pieces (ar_ k s ps).2.1.flatten).length=nP (32*ps.length):=by rw[cA_,gD_ l2,C]
    have u:nP (32*ps.length)=(ps.length+31)/32:=by unfold nP;omega
    rw[q8_ f (by omega) q h (by rw[m,u];omega) (by rw[m,u];omega),m,u];rw[hN_up (by omega) D];rfl
  .rename_i p;exact absurd h p
theorem putP{s:Xx}{k:Int}{d:Str}(y:1<=k/\k<=4)(u:StOK s)(h:d.length<=1048576) :
  ∃q,gX_ s k d=some q/\if(gc_ s k d).err=0 then q=((gc_ s k d).store,Xp.mk (gc_ s k d).score (d.length:Int) ((hN (nP d.length):Nat):Int),0)else ∃s',q=(s',e6_,(gc_ s k d).err):=by
 have f:(pieces d).length=nP d.length:=cA_ d;obtain⟨F,m⟩:=nP_le h;obtain⟨q,D,C⟩:=upP 2 (Xp.mk [] (d.length:Int) ((hN (nP d.length):Nat):Int)) (ps:=pieces d) y u (λp x=>by
  obtain⟨j,_,rfl⟩:=zQ.1 x;rw[oX_];omega) (by omega) (by rw[f];exact m) (by omega)
 refine⟨q,?_,C⟩;unfold gX_;exact aa_ (height_eq h) (aa_ (chunks_eq (by omega)) (aa_ (gE_ D (by decide)) rfl))
theorem putR{s:Xx}{k:Int}{d:Str}(D:1<=k/\k<=4)(C:StOK s)(O:d.length<=1048576) :
  hO_ s k d=some (if(gc_ s k d).err=0 then((gc_ s k d).store,Xp.mk (gc_ s k d).score (d.length:Int) ((hN (nP d.length):Nat):Int),0)else(s,e6_,(gc_ s k d).err)):=by
 have j:(pieces d).length=nP d.length:=cA_ d;obtain⟨U,J⟩:=nP_le O;have f:=q8_ 3 (k:=k) (s:=s) (ps:=pieces d) D C;unfold hO_ gc_;refine ab_ (by simp;omega) (aa_ (passR0 D C (by omega)) ?_);by_cases p:(ar_ k s (pieces d)).2.2=0
 .simp only[qV p];obtain⟨G,l2⟩:=hZ_ D C p;obtain⟨F,_,_⟩:=gb_ D (ps:=pieces d) C;have h:=gE_ (upR s 2 (s:=(ar_ k s (pieces d)).1) (l:=(ar_ k s (pieces d)).2.1) 0 F l2 (by omega) (by rw[G,j];exact J) (by omega) (by omega) (by omega)) (show 2+1<=BIG by decide);refine aa_ h ?_;rw[G];by_cases y:(pieces d).length=1
  .have u:upF 3 k s (pieces d)=⟨(ar_ k s (pieces d)).1,(ar_ k s (pieces d)).2.1.getLastD [],0,0⟩:=by unfold upF;rw[qV p,qV y]
   rw[u]at f ⊢;rw[qV y];obtain⟨x,M⟩:∃x,(ar_ k s (pieces d)).2.1=[x]:=List.length_eq_one_iff.1 (G.trans y);rw[M];have m:=f rfl (by omega) (by omega);rw[j]at m;simp only at m;rw[←m];simp only[an_,ot_];simp
  .have u:upF 3 k s (pieces d)=⟨(upF 2 2 (ar_ k s (pieces d)).1 (pieces (ar_ k s (pieces d)).2.1.flatten)).store,(upF 2 2 (ar_ k s (pieces d)).1 (pieces (ar_ k s (pieces d)).2.1.flatten)).score,(upF 2 2 (ar_ k s (pieces d)).1 (pieces (ar_ k s (pieces d)).2.1.flatten)).levels+1,(upF 2 2 (ar_ k s (pieces d)).1 (pieces (ar_ k s (pieces d)).2.1.flatten)).err⟩:=by
    rw[upF,qV p,qX y]
   rw[u]at f ⊢;rw[qX y];simp only at f ⊢;by_cases q:(upF 2 2 (ar_ k s (pieces d)).1 (pieces (ar_ k s (pieces d)).2.1.flatten)).err=0
   .have m:=f q (by omega) (by omega);rw[j]at m;rw[qV q,qV q,←m];simp only[an_,ot_];simp[Int.add_comm]
   .rw[qX q,qX q]
 .have u:upF 3 k s (pieces d)=⟨s,[],0,(ar_ k s (pieces d)).2.2⟩:=by unfold upF;rw[qX p]
  rw[u];simp only[qX p]
theorem own_eq{s:Xx}(h:s.Xi.length<=1073741824):gW_ s=some s:=by
 unfold gW_;exact aa_ (ud_ h) rfl
theorem upF_ok:∀(f:Nat) {k:Int} {s:Xx} {ps:List Str},1<=k/\k<=4->StOK s->StOK (upF f k s ps).store/\StLe s (upF f k s ps).store
 | 0,k,s,ps,_,h=>⟨h,StLe.refl s⟩
 | f+1,k,s,ps,p,h=>by
  obtain⟨m,j,_⟩:=gb_ p (ps:=ps) h;unfold upF;split
  .split
   .exact⟨m,j⟩
   .obtain⟨u,q⟩:=upF_ok f (k:=2) (ps:=pieces (ar_ k s ps).2.1.flatten) (by omega) m;exact⟨u,j.trans q⟩
  .exact⟨h,StLe.refl s⟩
def aW_{α σ ε:Type}(f:σ->α->σ ⊕ ε):σ->List α->σ ⊕ ε
 | s,[] => .inl s
 | s,x::l=>match f s x with
  | .inl s'=>aW_ f s' l
  | .inr e => .inr e
def outS{σ ε β:Type}(fin:σ->β)(err:ε->β):σ ⊕ ε->β | .inl s=>fin s | .inr e=>err e
def stepS{σ ε τ β:Type}(mk:σ->τ)(err:ε->β):σ ⊕ ε->Step τ β | .inl s => .next (mk s) | .inr e => .done (err e)
theorem oY_{α σ ε τ β:Type}{body:τ->Option (Step τ β)}(xs:List α)(f:σ->α->σ ⊕ ε)(mk:Nat->σ->τ)(Inv:Nat->σ->Prop)(fin:σ->β)(err:ε->β)(s0:σ)(u:xs.length<BIG)(D:Inv 0 s0)
  (y:∀i s (h:i<xs.length),Inv i s->body (mk i s)=some (stepS (mk (i+1)) err (f s xs[i]))/\∀s',f s xs[i] = .inl s'->Inv (i+1) s')
  (x:∀s,Inv xs.length s->body (mk xs.length s)=some (.done (fin s))):am_ body BIG (mk 0 s0)=some (outS fin err (aW_ f s0 xs)):=by
 refine fE_ (J:=λi t b=>∃s,Inv i s/\t=mk i s/\b=outS fin err (aW_ f s (xs.drop i))) xs.length u (λt b p => ?_) (λi t b hi p => ?_) ⟨s0,D,rfl,by simp⟩
 .obtain⟨s,q,rfl,rfl⟩:=p;rw[x s q];simp[aW_,outS]
 .obtain⟨s,q,rfl,rfl⟩:=p;obtain⟨j,C⟩:=y i s hi q;rw[zV hi];simp only[aW_];cases m:f s xs[i]with
  | inl s' =>
   rw[m]at j;exact .inr ⟨_,j,s',C s' m,rfl,rfl⟩
  | inr b =>
   rw[m]at j;exact .inl j
theorem runS_inv'{σ ε:Type}{f:σ->Nat->σ ⊕ ε}(Inv:Nat->σ->Prop)(Q:ε->Prop):∀{m k:Nat} {s0:σ},Inv k s0->(∀i s,k<=i->i<k+m->Inv i s->(∀s',f s i = .inl s'->Inv (i+1) s')/\∀e,f s i = .inr e->Q e) ->
  (∀s,aW_ f s0 (List.range' k m) = .inl s->Inv (k+m) s)/\∀e,aW_ f s0 (List.range' k m) = .inr e->Q e
 | 0,k,s0,j,_=>⟨λs e=>by simp only[List.range',aW_,Sum.inl.injEq]at e;subst e;exact j,λe h=>by simp[aW_]at h⟩
 | m+1,k,s0,j,h=>by
  obtain⟨y,x⟩:=h k s0 (qA _) (by omega) j;simp only[List.range'_succ,aW_];cases p:f s0 k with
  | inl s' =>
   obtain⟨q,i2⟩:=runS_inv' Inv Q (m:=m) (y s' p) λi s hi u=>h i s (by omega) (by omega)
   refine⟨λs e => ?_,i2⟩;have:=q s e
   rwa [show k+1+m=k+(m+1)by omega]at this
  | inr e =>
   refine⟨λs e'=>(by cases e'),λe' C => ?_⟩;obtain rfl:=zk C;exact x e p
theorem lx_{σ ε:Type}{f:σ->Nat->σ ⊕ ε}(Inv:Nat->σ->Prop)(Q:ε->Prop){n:Nat}{s0:σ}(j:Inv 0 s0)(h:∀i s,i<n->Inv i s->(∀s',f s i = .inl s'->Inv (i+1) s')/\∀e,f s i = .inr e->Q e) :
  (∀s,aW_ f s0 (List.range n) = .inl s->Inv n s)/\∀e,aW_ f s0 (List.range n) = .inr e->Q e:=by
 have:=runS_inv' (f:=f) Inv Q (m:=n) (k:=0) (s0:=s0) j λi s _ hi=>h i s (by omega)
 rwa [qo,←List.range_eq_range']at this
def blk(s:Xx)(sc:Str)(k:Int):Str×Int:=if(getB s sc k).2=1 then([],2)else getB s sc k
theorem nC_{s:Xx}(f:StOK s)(sc:Str)(k:Int):(blk s sc k).1.length<=1024:=by
 unfold blk;split
 .simp
 .unfold getB;split
  .simp
  .rename_i b h;split
   .simp
   .split
    .exact(f.all b (nu_ h).1).2.2.1
    .simp
theorem ol_{s:Xx}(f:StOK s)(sc:Str){k:Int}(j:0<=k/\k<256):gT_ s sc k=some (blk s sc k):=by
 unfold gT_ blk;refine aa_ (ref_Get_eq j (by have:=f.size;omega) λb m=>by have:=(f.all b m).2.2.1;omega) ?_;by_cases h:(getB s sc k).2=1
 .rw[qV h];exact af_ (by simp[h]) rfl
 .rw[qX h];exact ab_ (by simp[h]) rfl
theorem ft_{s:Xx}(f:StOK s)(sc:Str)(k:Int){seen:List Str}(p:seen.length<=1073741824) :
  cO_ (Xm.mk s seen) sc k=some (if(blk s sc k).2=0 then((blk s sc k).1,0,Xm.mk s (seen++[sc]))else([],(blk s sc k).2,Xm.mk s seen)):=by
 unfold cO_;refine aa_ (Get_eq (by have:=f.size;show s.Xi.length<=_;omega) λb j=>by have:=(f.all b j).2.2.1;omega) (aa_ (a:=(blk s sc k).2) ?_ ?_)
 .unfold blk;by_cases h:(getB s sc k).2=1
  .rw[qV h];exact af_ (by simp[h]) rfl
  .rw[qX h];exact ab_ (by simp[h]) rfl
 .by_cases h:(blk s sc k).2=0
  .rw[qV h];refine ab_ (by simp[h]) (aa_ (bj_ (by simp;omega) (by simp;omega)) ?_);have:(getB s sc k).1=(blk s sc k).1:=by
    unfold blk at h ⊢;split
    .rename_i m;rw[qV m]at h;cases h
    .rfl
   rw[this]
  .rw[qX h];exact af_ (by simp[h]) rfl
def ag_(l:Nat):Nat:=1024*32^l
theorem j0_(l:Nat):1024<=ag_ l:=by
 unfold ag_;have:1<=32^l:=Nat.pos_of_ne_zero (by simp);omega
theorem q9_(l:Nat):ag_ (l+1)=32*ag_ l:=by unfold ag_;rw[Nat.pow_succ];omega
abbrev Rd:=Str×List Str×Int
def ay_(u len i:Nat):Nat:=min u (len-i*u)
def fRd(rec:Str->Nat->Nat->Nat->Rd)(d:Str)(u len a b:Nat)(acc:Str×List Str)(i:Nat):(Str×List Str) ⊕ Rd :=
 if min (b-i*u) (ay_ u len i)<=min (a-i*u) (ay_ u len i)then .inl acc else
  (λr:Rd=>if r.2.2=0 then .inl (acc.1++r.1,acc.2++r.2.1)else .inr ([],acc.2++r.2.1,r.2.2)) (rec ((d.drop (32*i)).take 32) (ay_ u len i) (min (a-i*u) (ay_ u len i)) (min (b-i*u) (ay_ u len i)))
def rdF(s:Xx)(k:Int):Nat->Str->Nat->Nat->Nat->Rd | 0,sc,len,a,b=>if(blk s sc k).2=0 then(if(blk s sc k).1.length=len then(((blk s sc k).1.take b).drop a,[sc],0)else([],[sc],2))else([],[],(blk s sc k).2)|l+1,sc,len,a,b=>if(blk s sc 2).2=0 then(if(blk s sc 2).1.length=32*((len+ag_ l-1)/ag_ l)then outS (λacc=>(acc.1,acc.2,0)) (λr=>r) (aW_ (fRd (rdF s k l) (blk s sc 2).1 (ag_ l) len a b) ([],[sc]) (List.range ((len+ag_ l-1)/ag_ l)))else([],[sc],2))else([],[],(blk s sc 2).2)
def dk_:Nat->Nat | 0=>1|l+1=>1+32*dk_ l
theorem oZ_ {s:Xx} (m:StOK s) (k:Int):∀(l:Nat) (sc:Str) (len a b:Nat),(rdF s k l sc len a b).1.length<=ag_ l/\(rdF s k l sc len a b).2.1.length<=dk_ l
 | 0,sc,len,a,b=>by
  have:=nC_ m sc k;unfold rdF;split
  .split
   .simp only[qS,qb,jh,dk_];unfold ag_;omega
   .simp[dk_]
  .simp[dk_]
 | l + 1,sc,len,a,b=>by
  have G:=nC_ m sc 2;unfold rdF;split
  .split
   .rename_i F;have p:(len+ag_ l-1)/ag_ l<=32:=by omega
    generalize(len+ag_ l-1)/ag_ l=n at *
    have h:=lx_ (f:=fRd (rdF s k l) (blk s sc 2).1 (ag_ l) len a b) (λi acc=>acc.1.length<=i*ag_ l/\acc.2.length<=1+i*dk_ l) (λr=>r.1.length<=ag_ (l+1)/\r.2.1.length<=dk_ (l+1)) (n:=n) (s0:=([],[sc])) ⟨by simp,by simp⟩ λi acc hi ⟨u,q⟩ => ?_
    .obtain⟨y,x⟩:=h;cases hr:aW_ (fRd (rdF s k l) (blk s sc 2).1 (ag_ l) len a b) ([],[sc]) (List.range n)with
     | inl acc =>
      obtain⟨u,q⟩:=y acc hr;simp only[outS,q9_,dk_];exact⟨qk u (qg _ p),qk q (Nat.add_le_add_left (qg _ p) 1)⟩
     | inr r=>exact x r hr
    .obtain⟨D,C⟩:=oZ_ m k l (((blk s sc 2).1.drop (32*i)).take 32) (ay_ (ag_ l) len i) (min (a-i*ag_ l) (ay_ (ag_ l) len i)) (min (b-i*ag_ l) (ay_ (ag_ l) len i));have O:(i+1)*ag_ l=i*ag_ l+ag_ l:=zD _ _;have M:(i+1)*dk_ l=i*dk_ l+dk_ l:=zD _ _;have J:(i+1)*dk_ l<=32*dk_ l:=qg _ (by omega);unfold fRd;refine⟨λs' j => ?_,λe j => ?_⟩
     .split at j
      .obtain rfl:=zU j;constructor<;>omega
      .simp only at j;split at j
       .obtain rfl:=zU j;simp only[qLa];constructor<;>omega
       .cases j
     .split at j
      .cases j
      .simp only at j;split at j
       .cases j
       .obtain rfl:=zk j;simp only[qLa,zn,dk_];constructor<;>omega
   .simp only[zn,jh,dk_];omega
  .simp[dk_]
theorem unit_eq{l:Nat}(f:l<=2):ia_ (l:Int)=some ((ag_ l:Nat):Int):=by
 have:l=0\/l=1\/l=2:=by omega
 rcases this with rfl|rfl|rfl
 .exact(by kernel_rfl:ia_ 0=some 1024)
 .exact(by kernel_rfl:ia_ 1=some 32768)
 .exact(by kernel_rfl:ia_ 2=some 1048576)
theorem ue_{l:Nat}(f:l<=2):cL_ (l:Int)=some ((ag_ l:Nat):Int):=by
 have:l=0\/l=1\/l=2:=by omega
 rcases this with rfl|rfl|rfl
 .exact(by kernel_rfl:cL_ 0=some 1024)
 .exact(by kernel_rfl:cL_ 1=some 32768)
 .exact(by kernel_rfl:cL_ 2=some 1048576)
theorem uf_{l:Nat}(f:l<=2):ag_ l<=1048576:=by
 have:l=0\/l=1\/l=2:=by omega
 rcases this with rfl|rfl|rfl<;>decide
theorem p3_(a b:Nat):br_ (a:Int) (b:Int)=((min a b:Nat):Int):=by
 unfold br_;split<;>omega
theorem max_sub(a b:Nat):bN_ ((a:Int)-(b:Int)) 0=((a-b:Nat):Int):=by
 unfold bN_;split<;>omega
theorem tw_ {s:Xx} (G:StOK s) {k:Int} (hk:0<=k/\k<256) (whole:Bool):∀(l n:Nat) {sc:Str} {len a b:Nat},l<=2->l<n->len<=1048576->a<=b->b<=len->(whole=true->a=0/\b=len) ->
  fk_ n s sc k (l:Int) (len:Int) (a:Int) (b:Int) whole=some ((rdF s k l sc len a b).1,(rdF s k l sc len a b).2.2)
 | 0,n,sc,len,a,b,_,hn,M,ZS,hb,hw=>by
  obtain⟨n,rfl⟩:∃m,n=m+1:=⟨n-1,by omega⟩;show fT_ (fk_ n) s sc k 0 len a b whole=_;unfold fT_ rdF;refine af_ rfl (aa_ (ol_ G sc hk) ?_);by_cases h:(blk s sc k).2=0
  .rw[qV h];refine ab_ (by simp[h]) ?_;by_cases D:(blk s sc k).1.length=len
   .rw[qV D];refine ab_ (by simp[D]) (aa_ (b5_ (by omega) (by omega) (by omega)) ?_);rw[qTn,qTn]
   .rw[qX D];exact af_ (by simp;omega) rfl
  .rw[qX h];exact af_ (by simp[h]) rfl
 | l + 1,n,sc,len,a,b,hl,hn,M,ZS,hb,hw=>by
  obtain⟨n,rfl⟩:∃m,n=m+1:=⟨n-1,by omega⟩;show fT_ (fk_ n) s sc k ((l+1:Nat):Int) len a b whole=_;have hu:=uf_ (l:=l) (by omega);have ZW:=j0_ l;have hd:=nC_ G sc 2;have el:w64 (((l+1:Nat):Int)-1)=(l:Int):=by rw[aq_ ⟨by omega,by omega⟩];omega
  have eq:quoI .i64 (w64 ((w64 ((len:Int)+((ag_ l:Nat):Int)))-1)) ((ag_ l:Nat):Int)=some (((len+ag_ l-1)/ag_ l:Nat):Int):=by
   unfold quoI;rw[qX (by omega),aq_ (n:=(len:Int)+((ag_ l:Nat):Int)) ⟨by omega,by omega⟩,aq_ ⟨by omega,by omega⟩,zC (by omega)];have e:((len:Int)+((ag_ l:Nat):Int)-1)=((len+ag_ l-1:Nat):Int):=by omega
   have:(len+ag_ l-1)/ag_ l<=len+ag_ l-1:=Nat.div_le_self _ _;rw[e,←Int.natCast_ediv];generalize(len+ag_ l-1)/ag_ l=q at *
   rw[dA_ ⟨by omega,by omega⟩]
  unfold fT_;rw[rdF];refine ab_ (by simp;omega) (aa_ (ol_ G sc (by omega)) ?_);by_cases h:(blk s sc 2).2=0
  .rw [qV h];refine ab_ (by simp[h]) (aa_ (by rw[el];exact unit_eq (by omega)) (aa_ eq ?_));have ZP:(len+ag_ l-1)/ag_ l<=1048576:=by
    have F:(len+ag_ l-1)/ag_ l<=(len+ag_ l-1)/1024:=Nat.div_le_div_left ZW (by omega);omega
   have U:w64 (32*(((len+ag_ l-1)/ag_ l:Nat):Int))=((32*((len+ag_ l-1)/ag_ l):Nat):Int):=by
    generalize(len+ag_ l-1)/ag_ l=q at *
    rw[aq_ ⟨by omega,by omega⟩];omega
   by_cases D:(blk s sc 2).1.length=32*((len+ag_ l-1)/ag_ l)
   .rw [qV D];refine ab_ (by rw[U,D];simp) ?_;have ZQ:(len+ag_ l-1)/ag_ l<=32:=by omega
    have p:∀i,i<(len+ag_ l-1)/ag_ l->i*ag_ l<len:=λi hi=>by
     have F:(i+1)*ag_ l<=len+ag_ l-1:=qk (qg _ (by omega:i+1<=(len+ag_ l-1)/ag_ l)) (Nat.div_mul_le_self _ _);rw[zD]at F;omega
    generalize(len+ag_ l-1)/ag_ l=N at *
    have y:∀i,i<N->br_ ((ag_ l:Nat):Int) (w64 ((len:Int)-w64 ((i:Int)*((ag_ l:Nat):Int))))=((ay_ (ag_ l) len i:Nat):Int)/\1<=ay_ (ag_ l) len i/\ay_ (ag_ l) len i<=len:=λi hi=>by
     have F:=p i hi;have V:(i:Int)*((ag_ l:Nat):Int)=((i*ag_ l:Nat):Int):=by simp
     rw[V,aq_ (n:=((i*ag_ l:Nat):Int)) ⟨by omega,by omega⟩,aq_ ⟨by omega,by omega⟩];have e2:(len:Int)-((i*ag_ l:Nat):Int)=((len-i*ag_ l:Nat):Int):=by omega
     rw[e2,p3_];unfold ay_;exact⟨rfl,by omega,by omega⟩
    have O:∀i,i<N->∀c:Nat,c<=len->br_ (bN_ (w64 ((c:Int)-w64 ((i:Int)*((ag_ l:Nat):Int)))) 0) (br_ ((ag_ l:Nat):Int) (w64 ((len:Int)-w64 ((i:Int)*((ag_ l:Nat):Int)))))=((min (c-i*ag_ l) (ay_ (ag_ l) len i):Nat):Int):=λi hi c hc=>by
     have F:=p i hi;rw[(y i hi).1];have V:(i:Int)*((ag_ l:Nat):Int)=((i*ag_ l:Nat):Int):=by simp
     rw[V,aq_ (n:=((i*ag_ l:Nat):Int)) ⟨by omega,by omega⟩,aq_ ⟨by omega,by omega⟩,max_sub,p3_]
    have J:=λ(i:Nat) (hi:i<N)=>tw_ G hk whole l n (sc:=((blk s sc 2).1.drop (32*i)).take 32) (len:=ay_ (ag_ l) len i) (a:=min (a-i*ag_ l) (ay_ (ag_ l) len i)) (b:=min (b-i*ag_ l) (ay_ (ag_ l) len i)) (by omega) (by omega) (by have:=(y i hi).2.2;omega) (by omega) (by omega)
     (λZX=>by
      obtain⟨Z,Y⟩:=hw ZX;have F:=p i hi;subst Z;subst Y;unfold ay_;omega)
    have ZV:=oY_ (body:=i4_ ((N:Nat):Int) (a:Int) ((ag_ l:Nat):Int) (len:Int) (b:Int) whole (blk s sc 2) (fk_ n) s k ((l+1:Nat):Int)) (List.range N) (fRd (rdF s k l) (blk s sc 2).1 (ag_ l) len a b) (λi acc=>(acc.1,(i:Int))) (λi acc=>acc.1.length<=i*ag_ l) (λacc=>Out.fall acc.1) (λr=>Out.ret (([]:Str),r.2.2)) ([],[sc]) (b6_ (by simp;omega)) (by simp) (λi acc hi hI => ?_) (λacc hI => ?_)
    .refine aa_ ZV ?_;have hq:=lx_ (f:=fRd (rdF s k l) (blk s sc 2).1 (ag_ l) len a b) (λ_ _=>True) (λr=>r.1=[]) (n:=N) (s0:=([],[sc])) trivial λi acc hi _=>⟨λ_ _=>trivial,λe j=>by
      unfold fRd at j;split at j
      .cases j
      .simp only at j;split at j
       .cases j
       .obtain rfl:=zk j;rfl⟩
     cases hr:aW_ (fRd (rdF s k l) (blk s sc 2).1 (ag_ l) len a b) ([],[sc]) (List.range N)with
     | inl acc=>rfl
     | inr r =>
      simp only[outS];rw[hq.2 r hr]
    .have u:i<N:=by simpa using hi
     rw[List.getElem_range];obtain⟨z1,z2,z3⟩:=y i u;obtain⟨r1,_⟩:=oZ_ G k l (((blk s sc 2).1.drop (32*i)).take 32) (ay_ (ag_ l) len i) (min (a-i*ag_ l) (ay_ (ag_ l) len i)) (min (b-i*ag_ l) (ay_ (ag_ l) len i));have V:(i+1)*ag_ l=i*ag_ l+ag_ l:=zD _ _;have e2:i*ag_ l<=32*ag_ l:=qg _ (by omega);constructor
     .unfold i4_;refine af_ (by simp;omega) ?_;rw[O i u a (by omega),O i u b hb,z1];unfold fRd;by_cases C:min (b-i*ag_ l) (ay_ (ag_ l) len i)<=min (a-i*ag_ l) (ay_ (ag_ l) len i)
      .rw[qV C];have ZY:whole=false:=by
        cases ZZ:whole with
        | false=>rfl
        | true =>
         obtain⟨Z,Y⟩:=hw ZZ;have F:=p i u;subst Z;subst Y;unfold ay_ at C;omega
       refine aa_ (a:=Out.fall acc.1) (af_ (by rw[ZY];simp;omega) rfl) ?_;show some (Step.next (acc.1,w64 ((i:Int)+1)))=_;rw[aw_ (by omega)];rfl
      .rw[qX C];have es:w64 (32*(i:Int))=((32*i:Nat):Int):=by rw[aq_ ⟨by omega,by omega⟩];omega
       have ZR:w64 (((32*i:Nat):Int)+32)=((32*i+32:Nat):Int):=by rw[aq_ ⟨by omega,by omega⟩];omega
       have x:bI_ (blk s sc 2).1 (w64 (32*(i:Int))) (w64 ((w64 (32*(i:Int)))+32))=some (((blk s sc 2).1.drop (32*i)).take 32):=by
        rw[es,ZR,b5_ (by omega) (by omega) (by omega),qTn,qTn,jE,Nat.add_sub_cancel_left]
       have ZT:∀X:Option (Out Str (Str×Int)),(bif(decide (((min (a-i*ag_ l) (ay_ (ag_ l) len i):Nat):Int)>=((min (b-i*ag_ l) (ay_ (ag_ l) len i):Nat):Int)) && !whole)then some (Out.fall acc.1)else X)=X:=λX=>ab_ (by simp;omega) rfl
       rw[ZT];have hr:=J i u;generalize rdF s k l (((blk s sc 2).1.drop (32*i)).take 32) (ay_ (ag_ l) len i) (min (a-i*ag_ l) (ay_ (ag_ l) len i)) (min (b-i*ag_ l) (ay_ (ag_ l) len i))=r at *
       have ZU:w64 (((l+1:Nat):Int)-1)=(l:Int):=el;rw[ZU];by_cases j:r.2.2=0
       .simp only[qV j];refine aa_ (a:=Out.fall (acc.1++r.1)) (aa_ x (aa_ hr (ab_ (by simp[j]) (aa_ (bK_ ?_) rfl)))) ?_
        .show acc.1.length+r.1.length<=_;omega
        .show some (Step.next (acc.1++r.1,w64 ((i:Int)+1)))=_;rw[aw_ (by omega)];rfl
       .simp only[qX j];exact aa_ (a:=Out.ret ([],r.2.2)) (aa_ x (aa_ hr (af_ (by simp[j]) rfl))) rfl
     .intro s' j;unfold fRd at j;split at j
      .obtain rfl:=zU j;omega
      .simp only at j;split at j
       .obtain rfl:=zU j;simp only[qLa];omega
       .cases j
    .unfold i4_;exact ab_ (by simp) rfl
   .rw[qX D];refine af_ ?_ rfl;rw[U];simp only[zM,ne_eq];omega
  .rw[qX h];exact af_ (by simp[h]) rfl
theorem exp_eq{l L i:Nat}(j:l<=1)(p:1<=L)(m:L<=1048576)(hi:i*ag_ (l+1)<L):min 32 (bA (nP L) l-32*i)=(ay_ (ag_ (l+1)) L i+ag_ l-1)/ag_ l/\32*i<bA (nP L) l:=by
 have j:l=0\/l=1:=by omega
 rcases j with rfl|rfl
 .have f:ag_ 1=32768:=rfl;have h:ag_ 0=1024:=rfl;rw[f]at hi;simp only[f,h,ay_,bA,nP];omega
 .have f:ag_ 2=1048576:=rfl;have h:ag_ 1=32768:=rfl;rw[f]at hi;simp only[f,h,ay_,bA,nP];omega
theorem cntN_le{l:Nat}(f:l<=2):dk_ l<=1057:=by
 have:l=0\/l=1\/l=2:=by omega
 rcases this with rfl|rfl|rfl<;>decide
def my_(s:Xx)(k:Int)(l:Nat)(sc:Str)(L lo hi i:Nat):Rd:=rdF s k l sc (ay_ (ag_ l) L i) (min (lo-i*ag_ l) (ay_ (ag_ l) L i)) (min (hi-i*ag_ l) (ay_ (ag_ l) L i))
theorem part_eq {s:Xx} (hs:StOK s) (k:Int) {L lo hi:Nat} (hL:L<=1048576) (h1:lo<hi) (h2:hi<=L):∀(l n:Nat) {sc:Str} {i:Nat} {seen:List Str},l<=2->l<n->i*ag_ l<hi->lo<i*ag_ l+ag_ l->seen.length+dk_ l<=1073741824 ->
  b8_ n (Xm.mk s seen) (Yu.mk k (L:Int) (lo:Int) (hi:Int)) sc (l:Int) (i:Int)=some ((my_ s k l sc L lo hi i).1,(my_ s k l sc L lo hi i).2.2,Xm.mk s (seen++(my_ s k l sc L lo hi i).2.1))
 | 0,n,sc,i,seen,_,hn,h3,h4,h5=>by
  obtain⟨n,rfl⟩:∃m,n=m+1:=⟨n-1,by omega⟩;show cC_ (b8_ n) (Xm.mk s seen) _ sc 0 (i:Int)=_;have e0:ag_ 0=1024:=rfl;rw[e0]at h3 h4;have ei:w64 ((i:Int)*1024)=((i*1024:Nat):Int):=by rw[aq_ ⟨by omega,by omega⟩];omega
  have J:cB_ (Yu.mk k (L:Int) (lo:Int) (hi:Int)) 0 (i:Int)=some ((ay_ 1024 L i:Nat):Int):=by
   unfold cB_;refine af_ rfl ?_;show some (br_ 1024 (w64 ((L:Int)-w64 ((i:Int)*1024))))=_;have e2:(L:Int)-((i*1024:Nat):Int)=((L-i*1024:Nat):Int):=by omega
   rw[ei,e2,aq_ ⟨by omega,by omega⟩];exact qH some (p3_ 1024 (L-i*1024))
  unfold cC_ my_ rdF;rw[e0];refine aa_ (a:=k) (af_ rfl rfl) (aa_ (ft_ hs sc k (by simp[dk_]at h5;omega)) ?_);by_cases h:(blk s sc k).2=0
  .simp only[qV h];refine ab_ rfl (aa_ J ?_);by_cases M:(blk s sc k).1.length=ay_ 1024 L i
   .rw[qV M];refine ab_ (by simp[M]) (aa_ (a:=1024) (by kernel_rfl) (af_ rfl (aa_ (a:=((blk s sc k).1.take (min (hi-i*1024) (ay_ 1024 L i))).drop (min (lo-i*1024) (ay_ 1024 L i))) ?_ rfl)));show bI_ (blk s sc k).1 (bN_ 0 (w64 ((lo:Int)-w64 ((i:Int)*1024)))) (br_ ((blk s sc k).1.length:Int) (w64 ((hi:Int)-w64 ((i:Int)*1024))))=_;have e3:bN_ 0 ((lo:Int)-((i*1024:Nat):Int))=((lo-i*1024:Nat):Int):=by
     unfold bN_;split<;>omega
    have e4:(hi:Int)-((i*1024:Nat):Int)=((hi-i*1024:Nat):Int):=by omega
    rw[ei,aq_ (n:=(lo:Int)-((i*1024:Nat):Int)) ⟨by omega,by omega⟩,e3,e4,aq_ ⟨by omega,by omega⟩,p3_,M];have e5:min (lo-i*1024) (ay_ 1024 L i)=lo-i*1024:=by unfold ay_;omega
    rw[e5,Nat.min_comm,b5_ (by omega) (by unfold ay_;omega) (by rw[M];omega),qTn,qTn]
   .rw[qX M];exact af_ (by simp;omega) rfl
  .simp only[qX h];refine af_ (by simp[h]) ?_;rw[zj]
 | l + 1,n,sc,i,seen,hl,hn,h3,h4,h5=>by
  obtain⟨n,rfl⟩:∃m,n=m+1:=⟨n-1,by omega⟩;show cC_ (b8_ n) (Xm.mk s seen) _ sc ((l+1:Nat):Int) (i:Int)=_;have hu:=uf_ (l:=l) (by omega);have ZK:=j0_ l;have ZV:=q9_ l;have hc:=cntN_le (l:=l) (by omega);have hd:=nC_ hs sc 2;have el:w64 (((l+1:Nat):Int)-1)=(l:Int):=by rw[aq_ ⟨by omega,by omega⟩];omega
  obtain⟨x1,x2⟩:=exp_eq (l:=l) (L:=L) (i:=i) (by omega) (by omega) hL (by omega);have ZG:i<=i*ag_ (l+1):=Nat.le_mul_of_pos_right i (by omega);have ZE:=q7_ (n:=nP L) (by unfold nP;omega) l;have J:cB_ (Yu.mk k (L:Int) (lo:Int) (hi:Int)) ((l+1:Nat):Int) (i:Int)=some ((32*((ay_ (ag_ (l+1)) L i+ag_ l-1)/ag_ l):Nat):Int):=by
   unfold cB_;refine ab_ (by simp;omega) (aa_ (by rw[el];exact pt_ (by omega) (by omega)) ?_);have e1:w64 ((i:Int)*32)=((i*32:Nat):Int):=by rw[aq_ ⟨by omega,by omega⟩];omega
   have e2:((bA (nP L) l:Nat):Int)-((i*32:Nat):Int)=((bA (nP L) l-32*i:Nat):Int):=by omega
   rw[e1,e2,aq_ (n:=((bA (nP L) l-32*i:Nat):Int)) ⟨by omega,by omega⟩];have e3:br_ 32 ((bA (nP L) l-32*i:Nat):Int)=((min 32 (bA (nP L) l-32*i):Nat):Int):=p3_ 32 _;have ZJ:(ay_ (ag_ (l+1)) L i+ag_ l-1)/ag_ l<=32:=by rw[←x1];omega
   rw[e3,x1];generalize(ay_ (ag_ (l+1)) L i+ag_ l-1)/ag_ l=q at *
   rw[aq_ ⟨by omega,by omega⟩];rfl
  unfold cC_ my_;rw[rdF];refine aa_ (a:=2) (ab_ (by simp;omega) rfl) (aa_ (ft_ hs sc 2 (by simp[dk_]at h5;omega)) ?_);by_cases h:(blk s sc 2).2=0
  .simp only[qV h];refine ab_ rfl (aa_ J ?_);by_cases M:(blk s sc 2).1.length=32*((ay_ (ag_ (l+1)) L i+ag_ l-1)/ag_ l)
   .rw [qV M];refine ab_ (by rw[M];simp) (aa_ (ue_ hl) (ab_ (by simp;omega) ?_));have ZM:ay_ (ag_ (l+1)) L i=min (32*ag_ l) (L-i*ag_ (l+1)):=by unfold ay_;rw[ZV]
    have Z:∀j,j<(ay_ (ag_ (l+1)) L i+ag_ l-1)/ag_ l->j*ag_ l<ay_ (ag_ (l+1)) L i:=λj G=>by
     have h7:(j+1)*ag_ l<=ay_ (ag_ (l+1)) L i+ag_ l-1:=qk (qg _ (by omega:j+1<=(ay_ (ag_ (l+1)) L i+ag_ l-1)/ag_ l)) (Nat.div_mul_le_self _ _);rw[zD]at h7;omega
    have hN:(ay_ (ag_ (l+1)) L i+ag_ l-1)/ag_ l<=32:=by rw[←x1];omega
    generalize ZO:ay_ (ag_ (l+1)) L i=len at *
    generalize(len+ag_ l-1)/ag_ l=N at *
    have ZY:(32*i)*ag_ l=i*ag_ (l+1):=by rw[ZV,jQ 32 i,Nat.mul_assoc]
    have V:∀j,(32*i+j)*ag_ l=i*ag_ (l+1)+j*ag_ l:=λj=>by rw[Nat.add_mul,ZY]
    have ZZ:∀j,j<N->j*ag_ l+ag_ l<=32*ag_ l:=λj G=>by
     have:(j+1)*ag_ l<=32*ag_ l:=qg _ (by omega)
     rwa [zD]at this
    -- what a part of the part is
    have x:∀j,j<N->ay_ (ag_ l) len j=ay_ (ag_ l) L (32*i+j):=λj G=>by
     have:=ZZ j G;unfold ay_;rw[V j];omega
    have Y:∀j,j<N->∀c,min (min (c-i*ag_ (l+1)) len-j*ag_ l) (ay_ (ag_ l) len j)=min (c-(32*i+j)*ag_ l) (ay_ (ag_ l) L (32*i+j)):=λj G c=>by
     have:=ZZ j G;rw[←x j G,V j];unfold ay_;omega
    have C:∀j,j<N->(min (hi-(32*i+j)*ag_ l) (ay_ (ag_ l) L (32*i+j))<=min (lo-(32*i+j)*ag_ l) (ay_ (ag_ l) L (32*i+j))↔hi<=(32*i+j)*ag_ l\/(32*i+j)*ag_ l+ag_ l<=lo):=λj G=>by
     have h7:=Z j G;have h8:=x j G;have h9:(32*i+j)*ag_ l<L:=by rw[V j];omega
     unfold ay_;omega
    have ZP:=oY_ (body:=d1_ ((blk s sc 2).1,0,Xm.mk s (seen++[sc])) ((l+1:Nat):Int) (i:Int) (Yu.mk k (L:Int) (lo:Int) (hi:Int)) (b8_ n)) (List.range N) (fRd (rdF s k l) (blk s sc 2).1 (ag_ l) len (min (lo-i*ag_ (l+1)) len) (min (hi-i*ag_ (l+1)) len)) (λj acc=>(acc.1,(j:Int),s.Yi,s.Xi,seen++acc.2)) (λj acc=>acc.1.length<=j*ag_ l/\acc.2.length<=1+j*dk_ l) (λacc=>Out.fall (acc.1,s.Yi,s.Xi,seen++acc.2)) (λr=>Out.ret (([]:Str),r.2.2,Xm.mk s (seen++r.2.1))) ([],[sc]) (b6_ (by simp;omega)) (by simp) (λj acc G hI => ?_) (λacc hI => ?_)
    .refine aa_ ZP ?_;have hq:=lx_ (f:=fRd (rdF s k l) (blk s sc 2).1 (ag_ l) len (min (lo-i*ag_ (l+1)) len) (min (hi-i*ag_ (l+1)) len)) (λ_ _=>True) (λr=>r.1=[]) (n:=N) (s0:=([],[sc])) trivial λi acc hi _=>⟨λ_ _=>trivial,λe u=>by
      unfold fRd at u;split at u
      .cases u
      .simp only at u;split at u
       .cases u
       .obtain rfl:=zk u;rfl⟩
     cases hr:aW_ (fRd (rdF s k l) (blk s sc 2).1 (ag_ l) len (min (lo-i*ag_ (l+1)) len) (min (hi-i*ag_ (l+1)) len)) ([],[sc]) (List.range N)with
     | inl acc=>rfl
     | inr r =>
      simp only[outS];rw[hq.2 r hr]
    .have p:j<N:=by simpa using G
     rw[List.getElem_range];obtain⟨ZC,ZD⟩:=hI;have ZI:j*dk_ l+dk_ l<=32*dk_ l:=by
      have:(j+1)*dk_ l<=32*dk_ l:=qg _ (by omega)
      rwa [zD]at this
     have e1:(j+1)*ag_ l=j*ag_ l+ag_ l:=zD _ _;have e1c:(j+1)*dk_ l=j*dk_ l+dk_ l:=zD _ _;have ZH:=ZZ j p;have ZF:seen.length+(1+32*dk_ l)<=1073741824:=h5;have ZL:(32*i+j)*ag_ l<=2097152:=by
      have h7:=Z j p;rw[V j];omega
     have ZU:=λ(h8:(32*i+j)*ag_ l<hi) (h9:lo<(32*i+j)*ag_ l+ag_ l)=>part_eq hs k hL h1 h2 l n (sc:=((blk s sc 2).1.drop (32*j)).take 32) (i:=32*i+j) (seen:=seen++acc.2) (by omega) (by omega) h8 h9 (by rw[qLa];omega)
     obtain⟨r1,r2⟩:=oZ_ hs k l (((blk s sc 2).1.drop (32*j)).take 32) (ay_ (ag_ l) len j) (min (min (lo-i*ag_ (l+1)) len-j*ag_ l) (ay_ (ag_ l) len j)) (min (min (hi-i*ag_ (l+1)) len-j*ag_ l) (ay_ (ag_ l) len j));have ZR:w64 (w64 ((i:Int)*32)+(j:Int))=((32*i+j:Nat):Int):=by
      rw[aq_ (n:=(i:Int)*32) ⟨by omega,by omega⟩,aq_ ⟨by omega,by omega⟩];omega
     have ZW:w64 (((32*i+j:Nat):Int)*((ag_ l:Nat):Int))=(((32*i+j)*ag_ l:Nat):Int):=by
      rw[←Int.natCast_mul,aq_ ⟨by omega,by omega⟩]
     constructor
     .unfold d1_;have F:IntKind.i64.wrap (((blk s sc 2).1.length:Int).tdiv 32)=((N:Nat):Int):=by
       rw[M,zC (by omega),dA_ ⟨by omega,by omega⟩];omega
      refine af_ (by simp only[F,qDe];omega) ?_;simp only[el,ZR];have O:∀X:Option (Out (Str×Int×List Yk×List Str) (Str×Int×Xm)),((cL_ (l:Int)).bind λZX=>Option.bind (bif decide (w64 (((32*i+j:Nat):Int)*ZX)>=(hi:Int))then some true else(cL_ (l:Int)).bind λZS=>some (decide (w64 (w64 (((32*i+j:Nat):Int)*ZX)+ZS)<=(lo:Int)))) λ(ZT:Bool)=>bif ZT then some (Out.fall (acc.1,s.Yi,s.Xi,seen++acc.2))else X)=if hi<=(32*i+j)*ag_ l\/(32*i+j)*ag_ l+ag_ l<=lo then some (Out.fall (acc.1,s.Yi,s.Xi,seen++acc.2))else X:=λX=>by
       refine aa_ (ue_ (by omega)) ?_;rw[ZW,ue_ (by omega)];have e7:w64 ((((32*i+j)*ag_ l:Nat):Int)+((ag_ l:Nat):Int))=(((32*i+j)*ag_ l+ag_ l:Nat):Int):=by rw[aq_ ⟨by omega,by omega⟩];omega
       simp only[qBs,e7];by_cases h8:hi<=(32*i+j)*ag_ l
       .rw[qV (.inl h8)];exact aa_ (a:=true) (af_ (by simp only[qDe];omega) rfl) rfl
       .by_cases h9:(32*i+j)*ag_ l+ag_ l<=lo
        .rw[qV (.inr h9)];exact aa_ (a:=true) (ab_ (by simp only[qDf];omega) (by congr 1;simp only[qDe];omega)) rfl
        .rw[qX (by omega)];exact aa_ (a:=false) (ab_ (by simp only[qDf];omega) (by congr 1;simp only[qDf];omega)) rfl
      rw[O];unfold fRd;rw[Y j p hi,Y j p lo];by_cases U:min (hi-(32*i+j)*ag_ l) (ay_ (ag_ l) L (32*i+j))<=min (lo-(32*i+j)*ag_ l) (ay_ (ag_ l) L (32*i+j))
      .rw[qV ((C j p).1 U)];rw[x j p,qV U];show some (Step.next (acc.1,w64 ((j:Int)+1),s.Yi,s.Xi,seen++acc.2))=_;rw[aw_ (by omega)];rfl
      .have D:=λh=>U ((C j p).2 h)
       rw[qX D];rw[x j p,qX U];have es:w64 ((j:Int)*32)=((32*j:Nat):Int):=by rw[aq_ ⟨by omega,by omega⟩];omega
       have ZN:w64 (w64 ((j:Int)+1)*32)=((32*j+32:Nat):Int):=by rw[aw_ (by omega),aq_ ⟨by omega,by omega⟩];omega
       have y:bI_ (blk s sc 2).1 (w64 ((j:Int)*32)) (w64 (w64 ((j:Int)+1)*32))=some (((blk s sc 2).1.drop (32*j)).take 32):=by
        rw[es,ZN,b5_ (by omega) (by omega) (by omega),qTn,qTn,jE,Nat.add_sub_cancel_left]
       have hr:=ZU (Nat.lt_of_not_le λh=>D (.inl h)) (Nat.lt_of_not_le λh=>D (.inr h));have ZQ:my_ s k l (((blk s sc 2).1.drop (32*j)).take 32) L lo hi (32*i+j)=rdF s k l (((blk s sc 2).1.drop (32*j)).take 32) (ay_ (ag_ l) L (32*i+j)) (min (lo-(32*i+j)*ag_ l) (ay_ (ag_ l) L (32*i+j))) (min (hi-(32*i+j)*ag_ l) (ay_ (ag_ l) L (32*i+j))):=rfl;rw[ZQ]at hr;rw[Y j p hi,Y j p lo,x j p]at r1 r2;generalize rdF s k l (((blk s sc 2).1.drop (32*j)).take 32) (ay_ (ag_ l) L (32*i+j)) (min (lo-(32*i+j)*ag_ l) (ay_ (ag_ l) L (32*i+j))) (min (hi-(32*i+j)*ag_ l) (ay_ (ag_ l) L (32*i+j)))=r at *
       by_cases u:r.2.2=0
       .simp only[qV u];refine aa_ (a:=Out.fall (acc.1++r.1,s.Yi,s.Xi,seen++(acc.2++r.2.1))) (aa_ y (aa_ hr (ab_ (by simp[u]) (aa_ (bK_ ?_) ?_)))) ?_
        .show acc.1.length+r.1.length<=_;omega
        .rw[qT]
        .show some (Step.next (acc.1++r.1,w64 ((j:Int)+1),s.Yi,s.Xi,seen++(acc.2++r.2.1)))=_;rw[aw_ (by omega)];rfl
       .simp only[qX u];refine aa_ (a:=Out.ret ([],r.2.2,Xm.mk s (seen++(acc.2++r.2.1)))) (aa_ y (aa_ hr (af_ (by simp[u]) ?_))) rfl;rw[qT]
     .intro s' u;unfold fRd at u;split at u
      .obtain rfl:=zU u;omega
      .simp only at u;split at u
       .obtain rfl:=zU u;simp only[qLa];omega
       .cases u
    .have F:IntKind.i64.wrap (((blk s sc 2).1.length:Int).tdiv 32)=((N:Nat):Int):=by
      rw[M,zC (by omega),dA_ ⟨by omega,by omega⟩];omega
     unfold d1_;refine ab_ ?_ rfl;simp only[F,List.length_range,qDf];omega
   .rw[qX M];refine af_ ?_ rfl;simp only[zM,ne_eq];omega
  .simp only[qX h];refine af_ (by simp[h]) ?_;rw[zj]
def eD_(r:Xp):Bool:=(((r.Yy.length:Int)==32)&&decide (r.Xt>=0))&&decide (r.Xt<=1048576)&&(r.Ye==((hN (nP r.Xt.toNat):Nat):Int))
theorem valid_eq(r:Xp):i9_ r=some (eD_ r):=by
 unfold i9_ eD_;cases h:(((r.Yy.length:Int)==32)&&decide (r.Xt>=0))&&decide (r.Xt<=1048576)with
 | false=>rfl
 | true =>
  simp only[qAn,qDe]at h;refine aa_ (a:=(r.Ye==((hN (nP r.Xt.toNat):Nat):Int))) (af_ rfl ?_) rfl;have e:r.Xt=((r.Xt.toNat:Nat):Int):=by omega
  have f:=height_eq (n:=r.Xt.toNat) (by omega);rw[←e]at f;exact aa_ f rfl
theorem om_(r:Xp):iP_ r=some (eD_ r):=by
 unfold iP_ eD_;cases h:(((r.Yy.length:Int)==32)&&decide (r.Xt>=0))&&decide (r.Xt<=1048576)with
 | false=>rfl
 | true =>
  simp only[qAn,qDe]at h;refine aa_ (a:=(r.Ye==((hN (nP r.Xt.toNat):Nat):Int))) (af_ rfl ?_) rfl;have e:r.Xt=((r.Xt.toNat:Nat):Int):=by omega
  have f:=levels_ref (n:=r.Xt.toNat) (by omega);rw[←e]at f;exact aa_ f rfl
theorem vJ_{r:Xp}(h:eD_ r=true):∃n:Nat,r.Xt=(n:Int)/\n<=1048576/\r.Ye=((hN (nP n):Nat):Int)/\r.Yy.length=32:=by
 unfold eD_ at h;simp only[qAn,qDe,qG]at h;exact⟨r.Xt.toNat,by omega,by omega,h.2,by omega⟩
def az_(s:Xx)(k:Int)(r:Xp):Rd:=if eD_ r then rdF s k (hN (nP r.Xt.toNat)) r.Yy r.Xt.toNat 0 r.Xt.toNat else([],[],2)
theorem hN_zero:hN (nP 0)=0:=by decide
theorem top_size{n:Nat}(f:n<=1048576):ay_ (ag_ (hN (nP n))) n 0=n:=by
 have:n<=ag_ (hN (nP n)):=by
  unfold hN nP;split
  .show n<=1024;omega
  .split
   .show n<=32768;omega
   .exact f
 unfold ay_;omega
theorem contents_eq{s:Xx}(q:StOK s)(k:Int)(r:Xp){seen:List Str}(F:seen.length<=1073000000) :
  dG_ (Xm.mk s seen) r k=some ((az_ s k r).1,(az_ s k r).2.2,Xm.mk s (seen++(az_ s k r).2.1)):=by
 unfold dG_ az_;refine aa_ (valid_eq r) ?_;by_cases hr:eD_ r=true
 .rw [hr,qV rfl];obtain⟨n,p,u,D,J⟩:=vJ_ hr;refine ab_ rfl ?_;have f:=hN_le (nP n);by_cases x:n=0
  .subst x;have y:rdF s k (hN (nP r.Xt.toNat)) r.Yy r.Xt.toNat 0 r.Xt.toNat=rdF s k 0 r.Yy 0 0 0:=by rw[p,qTn,hN_zero]
   refine af_ (by rw[p];rfl) ?_;rw[y];unfold rdF;refine aa_ (ft_ q r.Yy k (by omega)) ?_;by_cases h:(blk s r.Yy k).2=0
   .simp only[qV h];by_cases m:(blk s r.Yy k).1.length=0
    .rw[qV m];have j:(blk s r.Yy k).1=[]:=zq.1 m;refine aa_ (a:=0) (ab_ (by rw[j];rfl) rfl) ?_;rw[j];rfl
    .rw[qX m];refine aa_ (a:=2) (af_ ?_ rfl) rfl;have j:(blk s r.Yy k).1≠[]:=λe=>m (by rw[e];rfl)
     simp[j]
   .simp only[qX h];refine aa_ (a:=(blk s r.Yy k).2) (ab_ (by simp) rfl) ?_;rw[zj]
  .refine ab_ (by rw[p];simp;omega) ?_;rw[p,D,qTn];have G:=cntN_le f;have h:=part_eq q k (L:=n) (lo:=0) (hi:=n) u (by omega) (qA _) (hN (nP n)) BIG (sc:=r.Yy) (i:=0) (seen:=seen) f (b6_ (by omega)) (by omega) (by have:=j0_ (hN (nP n));omega) (by omega);have C:my_ s k (hN (nP n)) r.Yy n 0 n 0=rdF s k (hN (nP n)) r.Yy n 0 n:=by
    unfold my_;rw[top_size u];simp
   rw[C]at h;exact aa_ h rfl
 .rw[qX hr];have:eD_ r=false:=by simpa using hr
  rw[this];refine af_ rfl ?_;rw[zj]
theorem o0_{s:Xx}(h:StOK s){k:Int}(j:0<=k/\k<256)(r:Xp):dO_ s k r=some ((az_ s k r).1,(az_ s k r).2.2):=by
 unfold dO_ az_;refine aa_ (om_ r) ?_;by_cases hr:eD_ r=true
 .rw[hr,qV rfl];obtain⟨n,q,p,m,u⟩:=vJ_ hr;have f:=hN_le (nP n);refine ab_ rfl ?_;rw[q,m,qTn];exact aa_ (tw_ h j true (hN (nP n)) BIG (len:=n) (a:=0) (b:=n) f (b6_ (by omega)) p (qq _) (qA _) λ_=>⟨rfl,rfl⟩) rfl
 .rw[qX hr];have:eD_ r=false:=by simpa using hr
  rw[this];exact af_ rfl rfl
theorem sv_{u:Xx}{k:Int}{p:Str}(h:cD_ u (b7_ k p)=some (mk k p)):blk u (b7_ k p) k=(p,0):=by
 have:getB u (b7_ k p) k=(p,0):=by
  unfold getB;rw[h];simp[mk]
 unfold blk;rw[this];rfl
theorem ly_{u:Xx}{sc:Str}{k:Int}(h:(blk u sc k).2=0):∃b,cD_ u sc=some b:=by
 cases j:cD_ u sc with
 | some b=>exact⟨b,rfl⟩
 | none =>
  have f:getB u sc k=([],35):=by unfold getB;rw[j]
  unfold blk at h;rw[f]at h;cases h
theorem StLe.blk{s t:Xx}(h:StLe s t){sc:Str}{k:Int}(m:(blk s sc k).2=0):blk t sc k=blk s sc k:=by
 obtain⟨b,j⟩:=ly_ m;have f:=h.find j;have:getB t sc k=getB s sc k:=by
  unfold getB;rw[j,f]
 unfold Go.Proofs.YtebokaoegomboaaGreatDoor.blk;rw[this]
def fu_(u:Nat)(d:Str)(i:Nat):Str:=(d.drop (i*u)).take u
def Sto(u:Xx)(k:Int):Nat->Str->Str->Prop | 0,sc,d=>d.length<=1024/\blk u sc k=(d,0)|l+1,sc,d=>∃scs:List Str,l8_ scs/\scs.length=(d.length+ag_ l-1)/ag_ l/\blk u sc 2=(scs.flatten,0)/\∀(i:Nat) (h:i<scs.length),Sto u k l scs[i] (fu_ (ag_ l) d i)
theorem Sto.le{s t:Xx}{k:Int}(f:StLe s t):∀{l:Nat} {sc d:Str},Sto s k l sc d->Sto t k l sc d
 | 0,sc,d,h=>⟨h.1,by rw[f.blk (by rw[h.2])];exact h.2⟩
 | l+1,sc,d,⟨scs,q,p,j,m⟩=>⟨scs,q,p,by rw[f.blk (by rw[j])];exact j,λi hi=>Sto.le f (m i hi)⟩
theorem take_step(d:Str){a b p u:Nat}(x:b<=d.length):(d.take (min b p)).drop a++((((d.drop p).take u).take (min (b-p) (min u (d.length-p)))).drop (min (a-p) (min u (d.length-p))))=(d.take (min b (p+u))).drop a:=by
 rcases Nat.le_total b p with h|h
 .rw[zi h,zi (show b<=p+u by omega),show b-p=0 by omega];simp
 .rw[jR h];have q:(d.take p).length=p:=by rw[qb];omega
  have s:d.take (min b (p+u))=d.take p++((d.drop p).take u).take (min (b-p) (min u (d.length-p))):=by
   rw[List.take_take,show min (min (b-p) (min u (d.length-p))) u=min b (p+u)-p by omega]
   conv=>lhs;rw[show min b (p+u)=p+(min b (p+u)-p)by omega]
   exact List.take_add
  rw[s,List.drop_append,q]
  congr 1
  generalize m:((d.drop p).take u).take (min (b-p) (min u (d.length-p)))=Y;have j:Y.length<=min u (d.length-p):=by rw[←m];simp;omega
  rcases Nat.le_total (a-p) (min u (d.length-p))with f|f
  .rw[zi f]
  .rw[jR f,jH j,jH (by omega)]
theorem flat_get32{scs:List Str}(h:l8_ scs){i:Nat}(hi:i<scs.length):(scs.flatten.drop (32*i)).take 32=scs[i]:=by
 rw[ps_ i h,zV hi,qv];have:=h scs[i] (qr hi);rw[zO (by omega),qc (by omega)]
theorem rd_sto{u:Xx}{k:Int}:∀{l:Nat} {sc d:Str} {a b:Nat},Sto u k l sc d->a<=b->b<=d.length->(rdF u k l sc d.length a b).1=(d.take b).drop a/\(rdF u k l sc d.length a b).2.2=0
 | 0,sc,d,a,b,h,C,J=>by
  obtain⟨D,x⟩:=h;unfold rdF;rw[x];simp
 | l + 1,sc,d,a,b,⟨scs,D,x,h3,Z⟩,C,J=>by
  unfold rdF;rw[h3];have V:scs.flatten.length=32*((d.length+ag_ l-1)/ag_ l):=by rw[gD_ D,x]
  simp only[jB,qV V];have U:=j0_ l;have hN:d.length<=scs.length*ag_ l:=by
   rw[x];have Y:=ja (d.length+ag_ l-1) (ag_ l);have h6:=jc (d.length+ag_ l-1) (show ag_ l>0 by omega);rw[jQ]at Y;omega
  rw[←x];have h:=lx_ (f:=fRd (rdF u k l) scs.flatten (ag_ l) d.length a b) (λi acc=>acc.1=(d.take (min b (i*ag_ l))).drop a) (λ_=>False) (n:=scs.length) (s0:=([],[sc])) (by simp) λi acc hi M => ?_
  .cases hr:aW_ (fRd (rdF u k l) scs.flatten (ag_ l) d.length a b) ([],[sc]) (List.range scs.length)with
   | inl acc =>
    have:=h.1 acc hr;rw[zi (by omega)]at this;exact⟨this,rfl⟩
   | inr r=>exact(h.2 r hr).elim
  .have m:=take_step d (a:=a) (b:=b) (p:=i*ag_ l) (u:=ag_ l) J;have q:(i+1)*ag_ l=i*ag_ l+ag_ l:=zD _ _;have s:(fu_ (ag_ l) d i).length=ay_ (ag_ l) d.length i:=by simp[fu_,ay_]
   unfold fRd;rw[flat_get32 D hi];by_cases j:min (b-i*ag_ l) (ay_ (ag_ l) d.length i)<=min (a-i*ag_ l) (ay_ (ag_ l) d.length i)
   .rw[qV j];refine⟨λs' e => ?_,λe y=>(by cases y)⟩;obtain rfl:=zU e;have O:(((d.drop (i*ag_ l)).take (ag_ l)).take (min (b-i*ag_ l) (min (ag_ l) (d.length-i*ag_ l)))).drop (min (a-i*ag_ l) (min (ag_ l) (d.length-i*ag_ l)))=[]:=by
     refine jH ?_;rw[qb];unfold ay_ at j;omega
    rw[q,←m,M,O,zj]
   .rw[qX j];obtain⟨G,F⟩:=rd_sto (Z i hi) (a:=min (a-i*ag_ l) (ay_ (ag_ l) d.length i)) (b:=min (b-i*ag_ l) (ay_ (ag_ l) d.length i)) (by omega) (by rw[s];omega);rw[s]at G F;simp only[qV F];refine⟨λs' e => ?_,λe y=>(by cases y)⟩;obtain rfl:=zU e;simp only;rw[q,←m,M,G];rfl
structure Lev(u:Xx)(k:Int)(l:Nat)(d:Str)(scs:List Str):Prop where
 a32:l8_ scs
 len:scs.length=max 1 ((d.length+ag_ l-1)/ag_ l)
 sto:∀(i:Nat) (h:i<scs.length),Sto u k l scs[i] (fu_ (ag_ l) d i)
theorem Lev.one{u:Xx}{k:Int}{l:Nat}{d:Str}{scs:List Str}(h:Lev u k l d scs)(s:scs.length=1):Sto u k l (scs.getLastD []) d:=by
 obtain⟨x,rfl⟩:=List.length_eq_one_iff.1 s;have f:=h.sto 0 (by simp);have p:=h.len;have m:=j0_ l;have q:d.length<=ag_ l:=by
  rcases qN (ag_ l) d.length with j|j
  .have:2<=(d.length+ag_ l-1)/ag_ l:=(Nat.le_div_iff_mul_le (by omega)).2 (by omega);simp at p;omega
  .exact j
 have e:fu_ (ag_ l) d 0=d:=by
  unfold fu_;rw[Nat.zero_mul,zm,qc q]
 rw[e]at f;exact f
theorem lev_zero{s:Xx}{k:Int}(m:1<=k/\k<=4)(j:StOK s){d:Str}(p:(ar_ k s (pieces d)).2.2=0):Lev (ar_ k s (pieces d)).1 k 0 d (ar_ k s (pieces d)).2.1:=by
 obtain⟨_,_,C⟩:=gb_ m (ps:=pieces d) j;obtain⟨h,l2⟩:=hZ_ m j p;obtain⟨y,x⟩:=C p;refine⟨l2,by rw[h,cA_];rfl,λi hi => ?_⟩;have f:i<(pieces d).length:=by rw[←h];exact hi
 have F:(ar_ k s (pieces d)).2.1[i]=b7_ k (pieces d)[i]:=by simp[y]
 obtain⟨u,q⟩:=x (pieces d)[i] (qr f);rw[F];have D:fu_ (ag_ 0) d i=(pieces d)[i]:=by
  rw[iq_];unfold fu_ piece;rw[show ag_ 0=1024 from rfl,jQ]
 rw[D];exact⟨u,sv_ q⟩
theorem lev_next{s:Xx}{k:Int}{l:Nat}{d:Str}{scs:List Str}(hs:StOK s)(h:Lev s k l d scs)(h1:1<scs.length)(he:(ar_ 2 s (pieces scs.flatten)).2.2=0):Lev (ar_ 2 s (pieces scs.flatten)).1 k (l+1) d (ar_ 2 s (pieces scs.flatten)).2.1:=by
 obtain⟨_,O,h3⟩:=gb_ (k:=2) (by omega) (ps:=pieces scs.flatten) hs;obtain⟨Z,l2⟩:=hZ_ (k:=2) (by omega) hs he;obtain⟨h4,Y⟩:=h3 he;have ZZ:=j0_ l;have f:=q9_ l;have C:(pieces scs.flatten).length=nP (32*scs.length):=by rw[cA_,gD_ h.a32]
 have D:=h.len;generalize hq:(d.length+ag_ l-1)/ag_ l=q at D;have ZW:q*ag_ l<=d.length+ag_ l-1:=by rw[←hq];exact Nat.div_mul_le_self _ _
 have ZX:d.length<=q*ag_ l:=by
  have Y:=ja (d.length+ag_ l-1) (ag_ l);have G:=jc (d.length+ag_ l-1) (show ag_ l>0 by omega);rw[hq,jQ]at Y;omega
 have y:scs.length=q:=by omega
 have M:(d.length+ag_ (l+1)-1)/ag_ (l+1)=(q+31)/32:=by
  rw[f];refine Nat.div_eq_of_lt_le ?_ ?_
  .have:(q+31)/32*32<=q+31:=Nat.div_mul_le_self _ _;have G:(q+31)/32*32*ag_ l<=(q+31)*ag_ l:=qg _ this;rw[Nat.mul_assoc]at G;have h7:(q+31)*ag_ l=q*ag_ l+31*ag_ l:=Nat.add_mul _ _ _;omega
  .have:q<((q+31)/32+1)*32:=by omega
   have G:(q+1)*ag_ l<=((q+31)/32+1)*32*ag_ l:=qg _ (by omega);have h8:q<=(q+31)/32*32:=by omega
   have h9:q*ag_ l<=(q+31)/32*32*ag_ l:=qg _ h8;have ZS:((q+31)/32+1)*(32*ag_ l)=(q+31)/32*32*ag_ l+32*ag_ l:=by rw[zD,Nat.mul_assoc]
   omega
 refine⟨l2,?_,λi hi => ?_⟩
 .rw[Z,C,M,y];unfold nP;omega
 .have m:i<(pieces scs.flatten).length:=by rw[←Z];exact hi
  have ZT:32*i<scs.length:=by
   rw[C]at m;unfold nP at m;omega
  have e1:(ar_ 2 s (pieces scs.flatten)).2.1[i]=b7_ 2 (pieces scs.flatten)[i]:=by simp[h4]
  obtain⟨p1,p2⟩:=Y (pieces scs.flatten)[i] (qr m);rw[e1];have e2:(pieces scs.flatten)[i]=((scs.drop (32*i)).take 32).flatten:=by rw[iq_,piece32 h.a32]
  have V:(fu_ (ag_ (l+1)) d i).length=min (ag_ (l+1)) (d.length-i*ag_ (l+1)):=by simp[fu_]
  have p:((scs.drop (32*i)).take 32).length=min 32 (q-32*i):=by simp[y]
  have F:i*ag_ (l+1)=32*i*ag_ l:=by rw[f,←Nat.mul_assoc,jQ i 32]
  refine⟨(scs.drop (32*i)).take 32,λx hx=>h.a32 x (List.mem_of_mem_drop (zd hx)),?_,?_,λj hj => ?_⟩
  .rw[p,V,F,f]
   -- ceil of a piece
   symm;have ZY:q*ag_ l=(q-32*i)*ag_ l+32*i*ag_ l:=by rw[←Nat.add_mul];congr 1;omega
   rcases Nat.le_total 32 (q-32*i)with J|J
   .rw[zi J];have G:32*ag_ l<=(q-32*i)*ag_ l:=qg _ J;have h7:31*ag_ l<d.length-32*i*ag_ l:=by
     have:(q-32*i)*ag_ l+ag_ l>=32*ag_ l+ag_ l:=by omega
     omega
    have u:(32+1)*ag_ l=32*ag_ l+ag_ l:=by omega
    refine Nat.div_eq_of_lt_le ?_ ?_
    .omega
    .rw[u];omega
   .rw[jR J];have G:(q-32*i)*ag_ l<=32*ag_ l:=qg _ J;have u:(q-32*i+1)*ag_ l=(q-32*i)*ag_ l+ag_ l:=zD _ _;refine Nat.div_eq_of_lt_le ?_ ?_
    .omega
    .rw[u];omega
  .rw[←e2];exact sv_ p2
  .have ZU:j<32:=by rw[p]at hj;omega
   have U:32*i+j<scs.length:=by rw[p]at hj;omega
   have e3:((scs.drop (32*i)).take 32)[j]=scs[32*i+j]:=by simp
   rw[e3];have e4:fu_ (ag_ l) (fu_ (ag_ (l+1)) d i) j=fu_ (ag_ l) d (32*i+j):=by
    have ZV:j*ag_ l+ag_ l<=32*ag_ l:=by
     have:(j+1)*ag_ l<=32*ag_ l:=qg _ (by omega)
     rwa [zD]at this
    unfold fu_;rw[jE,List.take_take,jV,F,Nat.add_mul,f,zi (by omega)]
   rw[e4];exact(h.sto (32*i+j) U).le O
theorem up_sto{k:Int}{d:Str}:∀(f:Nat) {s:Xx} {l:Nat} {scs:List Str},StOK s->Lev s k l d scs->1<scs.length->(upF f 2 s (pieces scs.flatten)).err=0->∃n:Nat,(upF f 2 s (pieces scs.flatten)).levels=(n:Int)/\Sto (upF f 2 s (pieces scs.flatten)).store k (l+1+n) (upF f 2 s (pieces scs.flatten)).score d
 | 0,s,l,scs,_,_,_,h=>by simp[upF]at h
 | f+1,s,l,scs,q,y,D,h=>by
  unfold upF at h ⊢;split at h
  .rename_i j;rw[qV j];have u:=lev_next q y D j;obtain⟨x,l2⟩:=hZ_ (k:=2) (by omega) q j;obtain⟨p,_,_⟩:=gb_ (k:=2) (by omega) (ps:=pieces scs.flatten) q;split at h
   .rename_i m;rw[qV m];exact⟨0,rfl,u.one (x.trans m)⟩
   .rename_i m;rw[qX m];have C:1<=(pieces scs.flatten).length:=by rw[cA_];exact jU _ _
    obtain⟨n,G,F⟩:=up_sto f p u (by omega) h;refine⟨n+1,by simp only[G];rfl,?_⟩;rw[show l+1+(n+1)=l+1+1+n by omega];exact F
  .rename_i j;exact absurd h j
theorem put_sto{s:Xx}{k:Int}{d:Str}(q:1<=k/\k<=4)(p:StOK s)(M:d.length<=1048576)(j:(gc_ s k d).err=0):Sto (gc_ s k d).store k (hN (nP d.length)) (gc_ s k d).score d:=by
 obtain⟨C,F⟩:=nP_le M;have f:=q8_ 3 q p j (by rw[cA_];exact C) (by rw[cA_];exact F);rw[cA_]at f;unfold gc_ at j ⊢;have m:(ar_ k s (pieces d)).2.2=0:=by
  rcases Decidable.em ((ar_ k s (pieces d)).2.2=0)with h|h
  .exact h
  .unfold upF at j;rw[qX h]at j;exact absurd j h
 have D:=lev_zero q p m;obtain⟨G,l2⟩:=hZ_ q p m;obtain⟨u,_,_⟩:=gb_ q (ps:=pieces d) p;by_cases y:(pieces d).length=1
 .have x:upF 3 k s (pieces d)=⟨(ar_ k s (pieces d)).1,(ar_ k s (pieces d)).2.1.getLastD [],0,0⟩:=by unfold upF;rw[qV m,qV y]
  rw[x]at f ⊢;have:hN (nP d.length)=0:=by
   simp only at f;omega
  rw[this];exact D.one (G.trans y)
 .have x:upF 3 k s (pieces d)=⟨(upF 2 2 (ar_ k s (pieces d)).1 (pieces (ar_ k s (pieces d)).2.1.flatten)).store,(upF 2 2 (ar_ k s (pieces d)).1 (pieces (ar_ k s (pieces d)).2.1.flatten)).score,(upF 2 2 (ar_ k s (pieces d)).1 (pieces (ar_ k s (pieces d)).2.1.flatten)).levels+1,(upF 2 2 (ar_ k s (pieces d)).1 (pieces (ar_ k s (pieces d)).2.1.flatten)).err⟩:=by
   rw[upF,qV m,qX y]
  rw[x]at f j ⊢;simp only at f j ⊢;have J:1<=(pieces d).length:=by rw[cA_];exact C
  obtain⟨n,U,O⟩:=up_sto 2 u D (by omega) j;have:hN (nP d.length)=0+1+n:=by
   rw[U]at f;omega
  rw[this];exact O
theorem root_ok{s:Xx}{k:Int}{d:Str}(h:d.length<=1048576)(f:(gc_ s k d).score.length=32):eD_ (Xp.mk (gc_ s k d).score (d.length:Int) ((hN (nP d.length):Nat):Int))=true:=by
 unfold eD_;simp only[qAn,qDe,qG,qTn];exact⟨⟨⟨qH Int.ofNat f,Int.natCast_nonneg _⟩,by show(d.length:Int)<=1048576;omega⟩,trivial⟩
theorem sto_score{u:Xx}(m:StOK u){k:Int}:∀{l:Nat} {sc d:Str},Sto u k l sc d->sc.length=32:=by
 intro l sc d h;have f:∃j,(blk u sc j).2=0:=by
  cases l with
  | zero=>exact⟨k,by rw[h.2]⟩
  | succ l =>
   obtain⟨scs,_,_,q,_⟩:=h;exact⟨2,by rw[q]⟩
 obtain⟨j,f⟩:=f;obtain⟨b,p⟩:=ly_ f;obtain⟨x,s⟩:=nu_ p;rw[←s];exact(m.all b x).2.2.2
theorem fileR_sto{u:Xx}{k:Int}{sc d:Str}(j:d.length<=1048576)(f:sc.length=32)(h:Sto u k (hN (nP d.length)) sc d) :
  (az_ u k (Xp.mk sc (d.length:Int) ((hN (nP d.length):Nat):Int))).1=d/\(az_ u k (Xp.mk sc (d.length:Int) ((hN (nP d.length):Nat):Int))).2.2=0:=by
 have hr:eD_ (Xp.mk sc (d.length:Int) ((hN (nP d.length):Nat):Int))=true:=by
  unfold eD_;simp only[qAn,qDe,qG,qTn];exact⟨⟨⟨qH Int.ofNat f,Int.natCast_nonneg _⟩,by show(d.length:Int)<=1048576;omega⟩,trivial⟩
 unfold az_;rw[qV hr];have:=rd_sto h (a:=0) (b:=d.length) (qq _) (qA _);simp only[qTn];simpa using this
def ee_(n:Xq)(r:Xp):Str:=leB n.Id_ 4++leB n.Xy 4++leB n.Xs 4++leB n.Xv 4++leB n.Yj 8++leB n.Xl 8++b1_ n.Xh++b1_ n.Yg++b1_ n.Yq++b1_ n.Ym++leB r.Xt 4++leB r.Ye 1++r.Yy
structure EntOK(n:Xq)(r:Xp):Prop where
 id:0<=n.Id_/\n.Id_<4294967296
 par:0<=n.Xy/\n.Xy<4294967296
 vers:0<=n.Xs/\n.Xs<4294967296
 mode:0<=n.Xv/\n.Xv<4294967296
 atime:0<=n.Yj
 mtime:0<=n.Xl
 name:n.Xh.length<=64
 uid:n.Yg.length<=64
 gid:n.Yq.length<=64
 muid:n.Ym.length<=64
 len:0<=r.Xt/\r.Xt<4294967296
 lev:0<=r.Ye/\r.Ye<256
 score:r.Yy.length=32
theorem fH_{n:Xq}{r:Xp}(h:EntOK n r):(ee_ n r).length<=333/\77<=(ee_ n r).length:=by
 have q:=h.name;have p:=h.uid;have m:=h.gid;have j:=h.muid;have f:=h.score;simp only[ee_,qLa,aM_,b2_];omega
theorem ef_(n:Int){w:Nat}(f:w<=8):f4_ n (w:Int)=some (leB n w):=by
 unfold f4_;refine aa_ (a:=leB n w) ?_ rfl;refine be_ (T:=λi=>(leB n i,(i:Int))) w (b6_ (by omega)) (λi hi => ?_) ?_
 .unfold kD_;refine af_ (by simp;omega) (aa_ (tX_ n i (by omega)) (aa_ (a:=leB n (i+1)) ?_ (by rw[aw_ (by omega)])));rw[bK_ (by rw[aM_];simp[bytesS];omega),leB_succ];show some (leB n i++bytesS [IntKind.u8.wrap (n.fdiv (2^(8*i)))])=_;rw[wu8];rfl
 .unfold kD_;exact ab_ (by simp) rfl
theorem nv_{s:Str}(h:s.length<=1000000):jn_ s=some (b1_ s):=by
 unfold jn_ kE_;exact aa_ (ef_ (s.length:Int) (w:=2) (by omega)) (aa_ (bK_ (by rw[aM_];omega)) rfl)
theorem ref_Entry_eq{n:Xq}{r:Xp}(s:n.Xh.length<=65535)(q:n.Yg.length<=65535)(p:n.Yq.length<=65535)(m:n.Ym.length<=65535)(j:r.Yy.length<=100):g1_ n r=some (ee_ n r):=by
 unfold g1_ mJ_;have c:∀{a b:Str},a.length<=1000000->b.length<=1000000->cat a b=some (a++b):=λh f=>bK_ (by omega)
 refine aa_ (ef_ n.Id_ (w:=4) (by omega)) ?_;refine aa_ (ef_ n.Xy (w:=4) (by omega)) (aa_ (c (by simp[aM_]) (by simp[aM_])) ?_);refine aa_ (ef_ n.Xs (w:=4) (by omega)) (aa_ (c (by simp[aM_]) (by simp[aM_])) ?_);refine aa_ (ef_ n.Xv (w:=4) (by omega)) (aa_ (c (by simp[aM_]) (by simp[aM_])) ?_);refine aa_ (ef_ n.Yj (w:=8) (by omega)) (aa_ (c (by simp[aM_]) (by simp[aM_])) ?_);refine aa_ (ef_ n.Xl (w:=8) (by omega)) (aa_ (c (by simp[aM_]) (by simp[aM_])) ?_);refine aa_ (nv_ (by omega)) (aa_ (c (by simp[aM_]) (by simp[b2_];omega)) ?_);refine aa_ (nv_ (by omega)) (aa_ (c (by simp[aM_,b2_];omega) (by simp[b2_];omega)) ?_)
 refine aa_ (nv_ (by omega)) (aa_ (c (by simp[aM_,b2_];omega) (by simp[b2_];omega)) ?_);refine aa_ (nv_ (by omega)) (aa_ (c (by simp[aM_,b2_];omega) (by simp[b2_];omega)) ?_);refine aa_ (ef_ r.Xt (w:=4) (by omega)) (aa_ (c (by simp[aM_,b2_];omega) (by simp[aM_])) ?_);refine aa_ (ef_ r.Ye (w:=1) (by omega)) (aa_ (c (by simp[aM_,b2_];omega) (by simp[aM_])) ?_);refine aa_ (c (by simp[aM_,b2_];omega) (by omega)) rfl
theorem ra_{n:Int}{w:Nat}(j:1<=w)(h:w<=8)(m:0<=n)(f:w<8->n<2^(8*w)){s:Str}(p:s.length<=1000000):bS_ n (w:Int) s=some (s++leB n w):=by
 unfold bS_;exact aa_ (kN_ n w j h m f) (aa_ (bK_ (by rw[aM_];omega)) rfl)
theorem encode_eq{n:Xq}{r:Xp}(h:EntOK n r):fX_ (Xr.mk n r)=some (ee_ n r):=by
 unfold fX_;have D:=h.name;have u:=h.uid;have F:=h.gid;have hm:=h.muid;have y:=h.score;have p:∀{x:Int},0<=x/\x<4294967296->∀{s:Str},s.length<=1000000->bS_ x 4 s=some (s++leB x 4):=λj _ m=>ra_ (w:=4) (by omega) (by omega) j.1 (λ_=>by show _<(4294967296:Int);exact j.2) m
 have q:∀{x:Int},0<=x->∀{s:Str},s.length<=1000000->bS_ x 8 s=some (s++leB x 8):=λj _ m=>ra_ (w:=8) (by omega) (by omega) j (λh=>by omega) m
 have G:∀{x:Int},0<=x/\x<256->∀{s:Str},s.length<=1000000->bS_ x 1 s=some (s++leB x 1):=λj _ m=>ra_ (w:=1) (by omega) (by omega) j.1 (λ_=>by show _<(256:Int);exact j.2) m
 refine aa_ (a:=leB n.Id_ 4++leB n.Xy 4++leB n.Xs 4++leB n.Xv 4) ?_ ?_
 .refine be_ (T:=λi=>((i:Int),(match i with | 0=>[] | 1=>leB n.Id_ 4 | 2=>leB n.Id_ 4++leB n.Xy 4 | 3=>leB n.Id_ 4++leB n.Xy 4++leB n.Xs 4|_=>leB n.Id_ 4++leB n.Xy 4++leB n.Xs 4++leB n.Xv 4),[n.Id_,n.Xy,n.Xs,n.Xv])) 4 (by decide) (λi hi => ?_) ?_
  .unfold iz_;have:i=0\/i=1\/i=2\/i=3:=by omega
   rcases this with rfl|rfl|rfl|rfl
   .exact af_ rfl (aa_ (a:=n.Id_) rfl (aa_ (p h.id (by simp)) rfl))
   .exact af_ rfl (aa_ (a:=n.Xy) rfl (aa_ (p h.par (by simp[aM_])) rfl))
   .exact af_ rfl (aa_ (a:=n.Xs) rfl (aa_ (p h.vers (by simp[aM_])) rfl))
   .exact af_ rfl (aa_ (a:=n.Xv) rfl (aa_ (p h.mode (by simp[aM_])) rfl))
  .unfold iz_;exact ab_ rfl rfl
 refine aa_ (q h.atime (by simp[aM_])) (aa_ (q h.mtime (by simp[aM_])) ?_);generalize f:leB n.Id_ 4++leB n.Xy 4++leB n.Xs 4++leB n.Xv 4++leB n.Yj 8++leB n.Xl 8=pre;have C:pre.length=32:=by rw[←f];simp[aM_]
 refine aa_ (a:=pre++b1_ n.Xh++b1_ n.Yg++b1_ n.Yq++b1_ n.Ym) ?_ ?_
 .refine be_ (T:=λi=>((i:Int),(match i with | 0=>pre | 1=>pre++b1_ n.Xh | 2=>pre++b1_ n.Xh++b1_ n.Yg | 3=>pre++b1_ n.Xh++b1_ n.Yg++b1_ n.Yq|_=>pre++b1_ n.Xh++b1_ n.Yg++b1_ n.Yq++b1_ n.Ym),[n.Xh,n.Yg,n.Yq,n.Ym])) 4 (by decide) (λi hi => ?_) ?_
  .unfold iA_;have:i=0\/i=1\/i=2\/i=3:=by omega
   have t:∀{s:Str},s.length<=64->gN_ s=some (b1_ s,0):=λm=>text_put _ (by omega)
   rcases this with rfl|rfl|rfl|rfl
   .exact af_ rfl (aa_ (a:=n.Xh) rfl (aa_ (t D) (aa_ (bK_ (by show pre.length+(b1_ n.Xh).length<=_;simp[b2_];omega)) rfl)))
   .exact af_ rfl (aa_ (a:=n.Yg) rfl (aa_ (t u) (aa_ (bK_ (by show(pre++b1_ n.Xh).length+(b1_ n.Yg).length<=_;simp[b2_];omega)) rfl)))
   .exact af_ rfl (aa_ (a:=n.Yq) rfl (aa_ (t F) (aa_ (bK_ (by show(pre++b1_ n.Xh++b1_ n.Yg).length+(b1_ n.Yq).length<=_;simp[b2_];omega)) rfl)))
   .exact af_ rfl (aa_ (a:=n.Ym) rfl (aa_ (t hm) (aa_ (bK_ (by show(pre++b1_ n.Xh++b1_ n.Yg++b1_ n.Yq).length+(b1_ n.Ym).length<=_;simp[b2_];omega)) rfl)))
  .unfold iA_;exact ab_ rfl rfl
 refine aa_ (p h.len (by simp[b2_];omega)) (aa_ (G h.lev (by simp[b2_,aM_];omega)) (aa_ (bK_ (by simp[b2_,aM_];omega)) ?_));rw[←f];rfl
theorem gF_{n:Xq}(h:aY_ n=true):aD_ n.Xv=true/\(0<=n.Xs/\n.Xs<=2147483647)/\(0<=n.Yj/\n.Yj<=1099511627776)/\(0<=n.Xl/\n.Xl<=1099511627776)/\n.Yg.length<=64/\n.Yq.length<=64/\n.Ym.length<=64/\n.Xd.length<=65536/\(al_ n.Xv 31=true->n.Xd=[]):=by
 unfold aY_ at h;simp only[qAn,qDe,qP,qL,qG]at h;obtain⟨⟨⟨⟨⟨⟨q,p⟩,m⟩,j⟩,x⟩,u⟩,f⟩:=h;refine⟨q,p,m,j,?_,?_,?_,?_,λs => ?_⟩
 all_goals first|omega|(rcases f with f|f<;>simp_all)
theorem OkT.name{l:List Xq}{next:Int}(h:OkT l next){n:Xq}(f:n∈l):n.Xh.length<=64:=by
 by_cases j:n.Id_=1
 .obtain⟨r,q,rfl,p,_,m,_⟩:=h.root;have:n=r:=kI_ h.srt f qD (by rw[j,p]);rw[this,m]
  decide
 .have:=h.nam n f j;unfold bs_ at this;simp only[qAn,qDe]at this;exact this.1.1.1.2
theorem OkT.parent{l:List Xq}{next:Int}(h:OkT l next){n:Xq}(f:n∈l):1<=n.Xy/\n.Xy<=n.Id_:=by
 by_cases m:n.Id_=1
 .obtain⟨r,q,rfl,j,x,y,_⟩:=h.root;have:n=r:=kI_ h.srt f qD (by rw[m,j]);rw[this,j,x]
  decide
 .obtain⟨p,s,e,u,_⟩:=h.par n f m;have:=h.ge s;omega
theorem OkT.ent{l:List Xq}{next:Int}(h:OkT l next){n:Xq}(f:n∈l){r:Xp}(hr:(0<=r.Xt/\r.Xt<=1048576)/\(0<=r.Ye/\r.Ye<=2)/\r.Yy.length=32):EntOK n r:=by
 obtain⟨_,C,s,q,p,m,j,_,_⟩:=gF_ (h.flds n f);have hi:=h.ge f;have u:=h.nxt n f;have y:=h.nx2;have x:=h.parent f;have hm:=h.mode f;exact⟨by omega,by omega,by omega,hm,s.1,q.1,h.name f,p,m,j,by omega,by omega,hr.2.2⟩
def da_(s:Xx)(k:Int)(d:Str):Xx×Xp×Int:=if(gc_ s k d).err=0 then((gc_ s k d).store,Xp.mk (gc_ s k d).score (d.length:Int) ((hN (nP d.length):Nat):Int),0)else(s,e6_,(gc_ s k d).err)
def fPN(l:List Xq)(rec:Xx->Xq->Xx×Xp×Int)(a:Str×Xx)(id:Int):(Str×Xx) ⊕ Int:=if(rec a.2 (ai_ l id).1).2.2=0 then .inl (a.1++ee_ (ai_ l id).1 (rec a.2 (ai_ l id).1).2.1,(rec a.2 (ai_ l id).1).1)else .inr (rec a.2 (ai_ l id).1).2.2
def bi_(l:List Xq):Nat->Xx->Xq->Xx×Xp×Int | 0,s,_=>(s,e6_,2)|f+1,s,n=>if al_ n.Xv 31 then outS (λa=>da_ a.2 3 a.1) (λe=>(s,e6_,e)) (aW_ (fPN l (bi_ l f)) ([],s) (aQ_ l n.Id_))else da_ s 1 n.Xd
def RootF(r:Xp):Prop:=(0<=r.Xt/\r.Xt<=1048576)/\(0<=r.Ye/\r.Ye<=2)/\r.Yy.length=32
theorem finP_ok{s:Xx}{k:Int}{d:Str}(j:1<=k/\k<=4)(f:StOK s)(p:d.length<=1048576):StOK (da_ s k d).1/\StLe s (da_ s k d).1/\((da_ s k d).2.2=0->RootF (da_ s k d).2.1):=by
 unfold da_;split
 .rename_i h;obtain⟨m,x⟩:=upF_ok 3 j f (ps:=pieces d);have u:=put_sto j f p h;have q:=sto_score m u;have:=hN_le (nP d.length);exact⟨m,x,λ_=>⟨by simp only;omega,by simp only;omega,q⟩⟩
 .rename_i h;exact⟨f,StLe.refl s,λe=>absurd e h⟩
theorem ey_{l:List Xq}{next:Int}(h:OkT l next){id c:Int}(m:c∈aQ_ l id):∃n∈l,n.Id_=c/\n.Xy=id/\n.Id_≠1/\ai_ l c=(n,true)/\id<c:=by
 unfold aQ_ at m;obtain⟨n,q,rfl⟩:=zQ.1 m;obtain⟨j,f⟩:=zS.1 q;simp only[qAn,qG,zM,ne_eq]at f;obtain⟨p,_,e,s,_⟩:=h.par n j f.2;exact⟨n,j,rfl,f.1,f.2,cc_ h.srt j,by omega⟩
theorem nw_(l:List Xq)(id:Int):(aQ_ l id).length<=l.length:=by
 unfold aQ_;rw[zo];exact ji _ _
theorem fv_{α σ ε:Type}{f:σ->α->σ ⊕ ε}(Inv:Nat->σ->Prop)(Q:ε->Prop):∀{xs:List α} {k:Nat} {s0:σ},Inv k s0->(∀i s x,x∈xs->Inv i s->(∀s',f s x = .inl s'->Inv (i+1) s')/\∀e,f s x = .inr e->Q e) ->
  (∀s,aW_ f s0 xs = .inl s->Inv (k+xs.length) s)/\∀e,aW_ f s0 xs = .inr e->Q e
 | [],k,s0,j,_=>⟨λs e=>by simp only[aW_,Sum.inl.injEq]at e;subst e;exact j,λe h=>by simp[aW_]at h⟩
 | x::l,k,s0,j,h=>by
  obtain⟨C,u⟩:=h k s0 x qD j;simp only[aW_];cases m:f s0 x with
  | inl s' =>
   obtain⟨p,i2⟩:=fv_ Inv Q (xs:=l) (C s' m) λi s y q=>h i s y (qC _ q)
   refine⟨λs e => ?_,i2⟩;have:=p s e
   rwa [show k+1+l.length=k+(x::l).length by simp;omega]at this
  | inr e =>
   refine⟨λs e'=>(by cases e'),λe' D => ?_⟩;obtain rfl:=zk D;exact u e m
theorem fe_{l:List Xq}{next:Int}(h:OkT l next):∀(f:Nat) {s:Xx} {n:Xq},n∈l->StOK s->StOK (bi_ l f s n).1/\StLe s (bi_ l f s n).1/\((bi_ l f s n).2.2=0->RootF (bi_ l f s n).2.1)
 | 0,s,n,_,p=>⟨p,StLe.refl s,λe=>by cases e⟩
 | f + 1,s,n,F,p=>by
  have D:=gF_ (h.flds n F);unfold bi_;split
  .have hr:=fv_ (f:=fPN l (bi_ l f)) (λi a=>StOK a.2/\StLe s a.2/\a.1.length<=333*i) (λe=>e≠0) (xs:=aQ_ l n.Id_) (k:=0) (s0:=([],s)) ⟨p,StLe.refl s,by simp⟩ λi a id u ⟨x,a2,a3⟩=>by
    obtain⟨c,C,_,_,_,j,_⟩:=ey_ h u;obtain⟨V,U,O⟩:=fe_ h f (s:=a.2) C x;unfold fPN;rw[j];simp only;refine⟨λs' m => ?_,λe m => ?_⟩
    .split at m
     .rename_i q;obtain rfl:=zU m;have:=(fH_ (h.ent C (O q))).1;refine⟨V,a2.trans U,?_⟩;simp only[qLa];omega
     .cases m
    .split at m
     .cases m
     .rename_i q;obtain rfl:=zk m;exact q
   cases y:aW_ (fPN l (bi_ l f)) ([],s) (aQ_ l n.Id_)with
   | inl a =>
    obtain⟨x,a2,a3⟩:=hr.1 a y;have:=nw_ l n.Id_;have:=h.len;obtain⟨M,J,G⟩:=finP_ok (s:=a.2) (k:=3) (d:=a.1) (by omega) x (by omega);exact⟨M,a2.trans J,G⟩
   | inr e=>exact⟨p,StLe.refl s,λq=>absurd q (hr.2 e y)⟩
  .exact finP_ok (by omega) p (by omega)
theorem finP_P{s:Xx}{k:Int}{d:Str}(m:1<=k/\k<=4)(j:StOK s)(p:d.length<=1048576):∃q,gX_ s k d=some q/\q.2.2=(da_ s k d).2.2/\((da_ s k d).2.2=0->q=da_ s k d):=by
 obtain⟨q,u,f⟩:=putP m j p;refine⟨q,u,?_⟩;unfold da_;split
 .rename_i h;rw[qV h]at f;exact⟨by rw[f],λ_=>f⟩
 .rename_i h;rw[qX h]at f;obtain⟨s',rfl⟩:=f;exact⟨rfl,λe=>absurd e h⟩
theorem finP_R{s:Xx}{k:Int}{d:Str}(h:1<=k/\k<=4)(f:StOK s)(j:d.length<=1048576):hO_ s k d=some (da_ s k d):=putR h f j
def bare(n:Xq):Xq:=Xq.mk n.Id_ n.Xy n.Xs n.Xh n.Xv n.Yg n.Yq n.Ym n.Yj n.Xl []
theorem sw_(n:Xq)(r:Xp):ee_ (bare n) r=ee_ n r:=rfl
theorem EntOK.bare{n:Xq}{r:Xp}(h:EntOK n r):EntOK (bare n) r:=⟨h.id,h.par,h.vers,h.mode,h.atime,h.mtime,h.name,h.uid,h.gid,h.muid,h.len,h.lev,h.score⟩
theorem putNode_P{t:Xk}(h:OkT t.Xz t.Xn):∀(f m:Nat) {s:Xx} {n:Xq},f<=m->n∈t.Xz->(t.Xn-n.Id_).toNat<f->StOK s ->
  ∃q,dv_ m s t n.Id_=some q/\q.2.2=(bi_ t.Xz f s n).2.2/\((bi_ t.Xz f s n).2.2=0->q.1=(bi_ t.Xz f s n).1/\q.2.1=Xr.mk (bare n) (bi_ t.Xz f s n).2.1)
 | 0,_,s,n,_,_,hf,_=>by omega
 | f + 1,m,s,n,hm,hn,hf,hs=>by
  obtain⟨m,rfl⟩:∃m',m=m'+1:=⟨m-1,by omega⟩;have ZW:=gF_ (h.flds n hn);have ZV:=h.len;show ∃q,fK_ (dv_ m) s t n.Id_=some q/\_;unfold fK_ bi_;have p:dD_ t n.Id_=some (n,true):=by rw[dw_ t n.Id_ (by omega),cc_ h.srt hn]
  have j:cK_ (bare n)=some (al_ n.Xv 31):=by
   unfold cK_;rw[←eY_ ZW.1];rfl
  have fin:∀{s1:Xx} {k:Int} {d:Str},1<=k/\k<=4->StOK s1->d.length<=1048576->∃q,((gX_ s1 k d).bind λY=>some (Y.1,(Xr.mk (bare n) Y.2.1),Y.2.2))=some q/\q.2.2=(da_ s1 k d).2.2/\((da_ s1 k d).2.2=0->q.1=(da_ s1 k d).1/\q.2.1=Xr.mk (bare n) (da_ s1 k d).2.1):=λhk h1 hd=>by
   obtain⟨q,h2,h3,h4⟩:=finP_P hk h1 hd;exact⟨_,aa_ h2 rfl,h3,λe=>by rw[h4 e];exact⟨rfl,rfl⟩⟩
  cases hD:al_ n.Xv 31 with
  | false =>
   obtain⟨q,h1,h2⟩:=fin (s1:=s) (k:=1) (d:=n.Xd) (by omega) hs (by omega);rw[hD]at j;exact⟨q,aa_ p (aa_ (a:=Out.fall (1,n.Xd,s)) (aa_ j rfl) h1),h2⟩
  | true =>
   rw[hD]at j;have ZT:=nw_ t.Xz n.Id_;have u:∀(a:Str×Xx) (id:Int),id∈aQ_ t.Xz n.Id_->StOK a.2->∃c∈t.Xz,ai_ t.Xz id=(c,true)/\c.Id_=id/\(t.Xn-c.Id_).toNat<f:=λa id C _=>by
    obtain⟨c,J,e,_,_,y,ZZ⟩:=ey_ h C;have:=h.nxt c J;exact⟨c,J,y,e,by omega⟩
   have G:=oY_ (body:=eb_ (aQ_ t.Xz n.Id_) (dv_ m) t) (aQ_ t.Xz n.Id_) (λ(a:Str×Xx) id=>(match fPN t.Xz (bi_ t.Xz f) a id with | .inl Z => .inl Z | .inr e => .inr (a.2,e):(Str×Xx) ⊕ (Xx×Int))) (λi a=>(a.1,(i:Int),a.2,aQ_ t.Xz n.Id_)) (λi a=>StOK a.2/\a.1.length<=333*i) (λa=>Out.fall (a.1,a.2)) (λe=>Out.ret (e.1,(Xr.mk (Xq.mk 0 0 0 [] 0 [] [] [] 0 0 []) (Xp.mk [] 0 0)),e.2)) ([],s) (b6_ (by omega)) ⟨hs,by simp⟩ (λi a hi hI => ?_) (λa hI => ?_)
   .
    have M:∀(xs:List Int) (a:Str×Xx),(∀b,aW_ (fPN t.Xz (bi_ t.Xz f)) a xs = .inl b->aW_ (λ(a:Str×Xx) id=>(match fPN t.Xz (bi_ t.Xz f) a id with | .inl Z => .inl Z | .inr e => .inr (a.2,e):(Str×Xx) ⊕ (Xx×Int))) a xs = .inl b)/\(∀e,aW_ (fPN t.Xz (bi_ t.Xz f)) a xs = .inr e->∃s',aW_ (λ(a:Str×Xx) id=>(match fPN t.Xz (bi_ t.Xz f) a id with | .inl Z => .inl Z | .inr e => .inr (a.2,e):(Str×Xx) ⊕ (Xx×Int))) a xs = .inr (s',e)):=λxs=>by
     induction xs with
     | nil=>exact λa=>⟨λb e=>by rw[show a=b from zU e];rfl,λe h=>(by cases h)⟩
     | cons x xs ih =>
      intro a;simp only[aW_];cases ZU:fPN t.Xz (bi_ t.Xz f) a x with
      | inl Z=>exact ih Z
      | inr e=>exact⟨λb h=>(by cases h),λe' h=>⟨a.2,by rw[zk h]⟩⟩
    have O:=fv_ (f:=fPN t.Xz (bi_ t.Xz f)) (λi a=>StOK a.2/\a.1.length<=333*i) (λe=>e≠0) (xs:=aQ_ t.Xz n.Id_) (k:=0) (s0:=([],s)) ⟨hs,by simp⟩ λi a id C ⟨V,a3⟩=>by
     obtain⟨c,J,y,_,_⟩:=u a id C V;obtain⟨b1,b2,b3⟩:=fe_ h f (s:=a.2) J V;unfold fPN;rw[y];simp only;refine⟨λs' D => ?_,λe D => ?_⟩
     .split at D
      .rename_i F;obtain rfl:=zU D;have:=(fH_ (h.ent J (b3 F))).1;refine⟨b1,?_⟩;simp only[qLa];omega
      .cases D
     .split at D
      .cases D
      .rename_i F;obtain rfl:=zk D;exact F
    cases hq:aW_ (fPN t.Xz (bi_ t.Xz f)) ([],s) (aQ_ t.Xz n.Id_)with
    | inl a =>
     rw[(M _ _).1 a hq]at G;obtain⟨V,a2⟩:=O.1 a hq;obtain⟨q,h1,h2⟩:=fin (s1:=a.2) (k:=3) (d:=a.1) (by omega) V (by omega);exact⟨q,aa_ p (aa_ (a:=Out.fall (3,a.1,a.2)) (aa_ j (af_ rfl (aa_ (jF_ t n.Id_ h) (aa_ G rfl)))) h1),h2⟩
    | inr e =>
     obtain⟨s',ZX⟩:=(M _ _).2 e hq;rw[ZX]at G;refine⟨_,aa_ p (aa_ (a:=Out.ret (s',(Xr.mk (Xq.mk 0 0 0 [] 0 [] [] [] 0 0 []) (Xp.mk [] 0 0)),e)) (aa_ j (af_ rfl (aa_ (jF_ t n.Id_ h) (aa_ G rfl)))) rfl),rfl,λe0=>absurd e0 (O.2 e hq)⟩
   .obtain⟨V,a2⟩:=hI;have C:=qr hi;obtain⟨c,J,y,e1,ZZ⟩:=u a _ C V;obtain⟨q,q1,q2,q3⟩:=putNode_P h f m (s:=a.2) (n:=c) (by omega) J ZZ V;obtain⟨b1,b2,b3⟩:=fe_ h f (s:=a.2) J V;rw[e1]at q1;unfold fPN;rw[y];simp only;by_cases F:(bi_ t.Xz f a.2 c).2.2=0
    .rw[qV F];obtain⟨q4,q5⟩:=q3 F;have U:=(h.ent J (b3 F)).bare;have ZY:=(fH_ U).1;constructor
     .unfold eb_;refine af_ (bm_ hi) (aa_ (au_ hi) (aa_ q1 (ab_ (by rw[q2,F];rfl) (aa_ (a:=ee_ c (bi_ t.Xz f a.2 c).2.1) (by rw[q5,encode_eq U];rfl) (aa_ (bK_ ?_) ?_)))))
      .rw[sw_]at ZY;show a.1.length+_<=_;omega
      .rw[q4,aw_ (by omega)];rfl
     .intro s' D;obtain rfl:=zU D;rw[sw_]at ZY;refine⟨b1,?_⟩;simp only[qLa];omega
    .rw[qX F];constructor
     .unfold eb_;refine af_ (bm_ hi) (aa_ (au_ hi) (aa_ q1 (af_ (by rw[q2];simpa using F) ?_)));rw[q2];rfl
     .intro s' D;cases D
   .unfold eb_;exact ab_ (bC_ _) rfl
theorem putNode_R{t:Xk}(h:OkT t.Xz t.Xn):∀(f m:Nat) {s:Xx} {n:Xq},f<=m->n∈t.Xz->(t.Xn-n.Id_).toNat<f->StOK s ->
  ∃q,ev_ m s t n=some q/\q.2.2=(bi_ t.Xz f s n).2.2/\((bi_ t.Xz f s n).2.2=0->q.1=(bi_ t.Xz f s n).1/\q.2.1=ee_ n (bi_ t.Xz f s n).2.1)
 | 0,_,s,n,_,_,hf,_=>by omega
 | f + 1,m,s,n,hm,hn,hf,hs=>by
  obtain⟨m,rfl⟩:∃m',m=m'+1:=⟨m-1,by omega⟩;have ZW:=gF_ (h.flds n hn);have ZU:=h.len;have ZV:=h.name hn;show ∃q,hs_ (ev_ m) s t n=some q/\_;unfold hs_ bi_;have j:bf_ n.Xv=some (al_ n.Xv 31):=by
   unfold bf_;rw[←eY_ ZW.1]
  have fin:∀{s1:Xx} {k:Int} {d:Str},1<=k/\k<=4->StOK s1->d.length<=1048576->((hO_ s1 k d).bind λV=>(g1_ n V.2.1).bind λZY=>some (V.1,ZY,V.2.2))=some ((da_ s1 k d).1,ee_ n (da_ s1 k d).2.1,(da_ s1 k d).2.2):=fun{s1 k d} hk h1 hd=>by
   refine aa_ (finP_R hk h1 hd) (aa_ (ref_Entry_eq (by omega) (by omega) (by omega) (by omega) ?_) rfl);have Y:=(finP_ok hk h1 hd).2.2;unfold da_ at Y ⊢;split
   .rename_i u;rw[qV u]at Y;have:=(Y rfl).2.2;omega
   .simp
  cases hD:al_ n.Xv 31 with
  | false =>
   rw[hD]at j;exact⟨_,aa_ j (af_ rfl (fin (by omega) hs (by omega))),rfl,λ_=>⟨rfl,rfl⟩⟩
  | true =>
   rw[hD]at j;have ZR:=nw_ t.Xz n.Id_;have y:∀(a:Str×Xx) (id:Int),id∈aQ_ t.Xz n.Id_->StOK a.2->∃c∈t.Xz,ai_ t.Xz id=(c,true)/\c.Id_=id/\(t.Xn-c.Id_).toNat<f:=λa id D _=>by
    obtain⟨c,J,e,_,_,p,ZZ⟩:=ey_ h D;have:=h.nxt c J;exact⟨c,J,p,e,by omega⟩
   have G:=oY_ (body:=eX_ t (ev_ m)) (aQ_ t.Xz n.Id_) (λ(a:Str×Xx) id=>(match fPN t.Xz (bi_ t.Xz f) a id with | .inl Z => .inl Z | .inr e => .inr (a.2,e):(Str×Xx) ⊕ (Xx×Int))) (λi a=>(a.1,(i:Int),a.2,aQ_ t.Xz n.Id_)) (λi a=>StOK a.2/\a.1.length<=333*i) (λa=>Out.fall (a.1,a.2)) (λe=>Out.ret (e.1,[],e.2)) ([],s) (b6_ (by omega)) ⟨hs,by simp⟩ (λi a hi hI => ?_) (λa hI => ?_)
   .have M:∀(xs:List Int) (a:Str×Xx),(∀b,aW_ (fPN t.Xz (bi_ t.Xz f)) a xs = .inl b->aW_ (λ(a:Str×Xx) id=>(match fPN t.Xz (bi_ t.Xz f) a id with | .inl Z => .inl Z | .inr e => .inr (a.2,e):(Str×Xx) ⊕ (Xx×Int))) a xs = .inl b)/\(∀e,aW_ (fPN t.Xz (bi_ t.Xz f)) a xs = .inr e->∃s',aW_ (λ(a:Str×Xx) id=>(match fPN t.Xz (bi_ t.Xz f) a id with | .inl Z => .inl Z | .inr e => .inr (a.2,e):(Str×Xx) ⊕ (Xx×Int))) a xs = .inr (s',e)):=λxs=>by
     induction xs with
     | nil=>exact λa=>⟨λb e=>by rw[show a=b from zU e];rfl,λe h=>(by cases h)⟩
     | cons x xs ih =>
      intro a;simp only[aW_];cases ZT:fPN t.Xz (bi_ t.Xz f) a x with
      | inl Z=>exact ih Z
      | inr e=>exact⟨λb h=>(by cases h),λe' h=>⟨a.2,by rw[zk h]⟩⟩
    have O:=fv_ (f:=fPN t.Xz (bi_ t.Xz f)) (λi a=>StOK a.2/\a.1.length<=333*i) (λe=>e≠0) (xs:=aQ_ t.Xz n.Id_) (k:=0) (s0:=([],s)) ⟨hs,by simp⟩ λi a id D ⟨U,a3⟩=>by
     obtain⟨c,J,p,_,_⟩:=y a id D U;obtain⟨b1,b2,b3⟩:=fe_ h f (s:=a.2) J U;unfold fPN;rw[p];simp only;refine⟨λs' u => ?_,λe u => ?_⟩
     .split at u
      .rename_i F;obtain rfl:=zU u;have:=(fH_ (h.ent J (b3 F))).1;refine⟨b1,?_⟩;simp only[qLa];omega
      .cases u
     .split at u
      .cases u
      .rename_i F;obtain rfl:=zk u;exact F
    cases hq:aW_ (fPN t.Xz (bi_ t.Xz f)) ([],s) (aQ_ t.Xz n.Id_)with
    | inl a =>
     rw[(M _ _).1 a hq]at G;obtain⟨U,a2⟩:=O.1 a hq;exact⟨_,aa_ j (ab_ rfl (aa_ (iF_ t n.Id_ h) (aa_ G (fin (s1:=a.2) (k:=3) (d:=a.1) (by omega) U (by omega))))),rfl,λ_=>⟨rfl,rfl⟩⟩
    | inr e =>
     obtain⟨s',ZX⟩:=(M _ _).2 e hq;rw[ZX]at G;exact⟨_,aa_ j (ab_ rfl (aa_ (iF_ t n.Id_ h) (aa_ G rfl))),rfl,λe0=>absurd e0 (O.2 e hq)⟩
   .obtain⟨U,a2⟩:=hI;have D:=qr hi;obtain⟨c,J,p,e1,ZZ⟩:=y a _ D U;obtain⟨q,q1,q2,q3⟩:=putNode_R h f m (s:=a.2) (n:=c) (by omega) J ZZ U;obtain⟨b1,b2,b3⟩:=fe_ h f (s:=a.2) J U;have C:aR_ t (aQ_ t.Xz n.Id_)[i]=some (c,true):=by rw[aO_ t _ (by omega),p]
    unfold fPN;rw[p];simp only;by_cases F:(bi_ t.Xz f a.2 c).2.2=0
    .rw[qV F];obtain⟨q4,q5⟩:=q3 F;have ZS:=(fH_ (h.ent J (b3 F))).1;constructor
     .unfold eX_;refine af_ (bm_ hi) (aa_ (au_ hi) (aa_ C (aa_ q1 (ab_ (by rw[q2,F];rfl) (aa_ (a:=a.1++ee_ c (bi_ t.Xz f a.2 c).2.1) (by rw[q5];exact bK_ (show a.1.length+(ee_ c (bi_ t.Xz f a.2 c).2.1).length<=_ by omega)) ?_)))));rw[q4,aw_ (by omega)];rfl
     .intro s' u;obtain rfl:=zU u;refine⟨b1,?_⟩;simp only[qLa];omega
    .rw[qX F];constructor
     .unfold eX_;refine af_ (bm_ hi) (aa_ (au_ hi) (aa_ C (aa_ q1 (af_ (by rw[q2];simpa using F) ?_))));rw[q2];rfl
     .intro s' u;cases u
   .unfold eX_;exact ab_ (bC_ _) rfl
def d7_(t:Xk)(n:Xq)(r:Xp):Str:=leB t.Xn 4++leB (t.Xz.length:Int) 4++ee_ n r
def b9_(l:List Xq):Xq:=l.headD zeroN
@[irreducible] def putT (l:List Xq) (s:Xx):Xx×Xp×Int:=bi_ l BIG s (b9_ l)
theorem p4_(l:List Xq)(s:Xx):bi_ l BIG s (b9_ l)=putT l s:=by unfold putT;rfl
def dH_(s:Xx)(t:Xk):Xx×Str×Int :=
 if(putT t.Xz s).2.2=0 then
  (if(aJ_ (putT t.Xz s).1 4 (d7_ t (b9_ t.Xz) (putT t.Xz s).2.1)).2.2=0 then aJ_ (putT t.Xz s).1 4 (d7_ t (b9_ t.Xz) (putT t.Xz s).2.1)else(s,[],(aJ_ (putT t.Xz s).1 4 (d7_ t (b9_ t.Xz) (putT t.Xz s).2.1)).2.2))
 else(s,[],(putT t.Xz s).2.2)
theorem vK_{α β:Type}{q:α×β×Int}(h:q.2.2=0):(q.1,q.2.1,(0:Int))=q:=by rw[←h]
theorem nD_{l:List Xq}{next:Int}(h:OkT l next):b9_ l∈l/\(b9_ l).Id_=1/\l[0]? = some (b9_ l)/\al_ (b9_ l).Xv 31=true:=by
 obtain⟨r,q,rfl,j,_,_,f⟩:=h.root;exact⟨qD,j,rfl,f⟩
theorem headT_len{t:Xk}{n:Xq}{r:Xp}(h:EntOK n r):(d7_ t n r).length<=341:=by
 have:=(fH_ h).1;simp only[d7_,qLa,aM_];omega
theorem ug_{t:Xk}(h:OkT t.Xz t.Xn){n:Xq}(f:n∈t.Xz):(t.Xn-n.Id_).toNat<BIG:=by
 have m:=h.ge f;have j:=h.nx2;exact b6_ (by omega)
theorem PutTree_eq{s:Xx}{t:Xk}(C:StOK s)(h:OkT t.Xz t.Xn)(hr:eJ_ t=some true):hl_ s t=some (dH_ s t):=by
 obtain⟨m,O,r3,r4⟩:=nD_ h;obtain⟨q,F,y,D⟩:=putNode_P h BIG BIG (s:=s) (n:=b9_ t.Xz) (qA _) m (ug_ h m) C;obtain⟨M,b2,J⟩:=fe_ h BIG (s:=s) m C;rw[p4_]at y D M J;have j:=own_eq (s:=s) (by have:=C.size;omega);have G:=h.len;have Y:=h.nx2;have ZZ:=h.ge m;have Z:=h.nxt _ m;rw[O]at F;unfold hl_ dH_;refine aa_ hr (ab_ rfl (aa_ F ?_));generalize putT t.Xz s=R at *
 by_cases p:R.2.2=0
 .rw[qV p];obtain⟨V,U⟩:=D p;have f:=h.ent m (J p);have ZY:=(fH_ f).1;have u:=Put_eq (s:=R.1) (k:=4) (d:=d7_ t (b9_ t.Xz) R.2.1) (by omega) (by have:=M.size;omega) (by have:=headT_len (t:=t) f;omega);refine ab_ (by rw[y,p];rfl) (aa_ (kN_ t.Xn 4 (by omega) (by omega) (by omega) (λ_=>by show t.Xn<(4294967296:Int);omega)) (aa_ (kN_ (t.Xz.length:Int) 4 (by omega) (by omega) (by omega) (λ_=>by show(t.Xz.length:Int)<(4294967296:Int);omega)) (aa_ (a:=leB t.Xn 4++leB (t.Xz.length:Int) 4) (bK_ (by simp[aM_])) (aa_ (a:=ee_ (b9_ t.Xz) R.2.1) (by rw[U,encode_eq f.bare];rfl) (aa_ (a:=d7_ t (b9_ t.Xz) R.2.1) (bK_ (by simp only[qLa,aM_];omega)) ?_)))))
  rw[V];refine aa_ u ?_;generalize aJ_ R.1 4 (d7_ t (b9_ t.Xz) R.2.1)=B at *
  by_cases x:B.2.2=0
  .rw[qV x];exact ab_ (by simp[x]) (qH some (vK_ x))
  .rw[qX x];exact af_ (by simp[x]) (aa_ j rfl)
 .rw[qX p];refine af_ (by rw[y];simpa using p) (aa_ j ?_);rw[y]
theorem w1_{s:Xx}{t:Xk}(C:StOK s)(h:OkT t.Xz t.Xn)(hr:d0_ t=some true):jo_ s t=some (dH_ s t):=by
 obtain⟨u,Z,G,Y⟩:=nD_ h;obtain⟨q,O,x,y⟩:=putNode_R h BIG BIG (s:=s) (n:=b9_ t.Xz) (qA _) u (ug_ h u) C;obtain⟨F,b2,D⟩:=fe_ h BIG (s:=s) u C;rw[p4_]at x y F D;have U:an_ t.Xz 0=some (b9_ t.Xz):=by rw[show(0:Int)=((0:Nat):Int)from rfl,bx_];exact G
 unfold jo_ kF_ dH_;refine aa_ hr (ab_ rfl (aa_ U (aa_ O ?_)));generalize putT t.Xz s=R at *
 by_cases j:R.2.2=0
 .rw[qV j];obtain⟨M,J⟩:=y j;have f:=h.ent u (D j);have V:=(fH_ f).1;have m:=q6_ (s:=R.1) (k:=4) (d:=d7_ t (b9_ t.Xz) R.2.1) (by omega) (by have:=F.size;omega) (by have:=headT_len (t:=t) f;omega);refine ab_ (by rw[x,j];rfl) (aa_ (ef_ t.Xn (w:=4) (by omega)) (aa_ (ef_ (t.Xz.length:Int) (w:=4) (by omega)) (aa_ (a:=leB t.Xn 4++leB (t.Xz.length:Int) 4) (bK_ (by simp[aM_])) (aa_ (a:=d7_ t (b9_ t.Xz) R.2.1) (by rw[J,bK_ (by simp only[qLa,aM_];omega)];rfl) ?_))));rw[M];refine aa_ m ?_;generalize aJ_ R.1 4 (d7_ t (b9_ t.Xz) R.2.1)=B at *
  by_cases p:B.2.2=0
  .rw[qV p];exact ab_ (by simp[p]) (qH some (vK_ p))
  .rw[qX p];exact af_ (by simp[p]) rfl
 .rw[qX j];refine af_ (by rw[x];simpa using j) ?_;rw[x]
theorem treeS_ok{s:Xx}{t:Xk}(f:StOK s)(h:OkT t.Xz t.Xn):StOK (dH_ s t).1/\StLe s (dH_ s t).1:=by
 obtain⟨p,_⟩:=nD_ h;obtain⟨m,j,_⟩:=fe_ h BIG (s:=s) p f;rw[p4_]at m j;unfold dH_;generalize putT t.Xz s=R at *
 split
 .split
  .obtain⟨u,q,_⟩:=nB_ (s:=R.1) (k:=4) (d:=d7_ t (b9_ t.Xz) R.2.1) m (by omega);exact⟨u,j.trans q⟩
  .exact⟨f,StLe.refl s⟩
 .exact⟨f,StLe.refl s⟩
def nD(s:Str)(w a:Nat):Option (Int×Nat):=if s.length-a<w\/leV (win s a w)>9223372036854775807 then none else some ((leV (win s a w):Int),a+w)
def tD(s:Str)(a:Nat):Option (Str×Nat):=takeT s a
def sD(s:Str)(a:Nat):Option (Str×Nat):=if s.length-a<32 then none else some (win s a 32,a+32)
theorem l9_{s:Str}{w a f:Nat}{v:Int}(j:a<=s.length)(h:nD s w a=some (v,f)):f<=s.length/\f=a+w/\0<=v/\v<=9223372036854775807:=by
 unfold nD at h;split at h
 .cases h
 .simp only[qOi,qF]at h;omega
theorem sD_le{s t:Str}{a f:Nat}(m:a<=s.length)(h:sD s a=some (t,f)):f<=s.length/\f=a+32/\t.length=32:=by
 unfold sD at h;split at h
 .cases h
 .simp only[qOi,qF]at h;obtain⟨j,p⟩:=h;refine⟨by omega,by omega,?_⟩;rw[←j,jZ_ (by omega)]
def DS(s:Str)(o:Option Nat)(d:Yw):Prop:=d.s_=s/\d.Zw=o.isNone/\∃a:Nat,d.at_=(a:Int)/\a<=s.length/\∀b,o=some b->a=b
def RS(s:Str)(o:Option Nat)(d:Yn):Prop:=d.S_=s/\d.Zg=o.isNone/\∃a:Nat,d.At_=(a:Int)/\a<=s.length/\∀b,o=some b->a=b
theorem ma_{s:Str}(U:s.length<=2000000){o:Option Nat}{d:Yw}(h:DS s o d){w:Nat}(G:1<=w)(F:w<=8) :
  ∃v D,aG_ d (w:Int)=some (v,D)/\DS s (o.bind λa=>(nD s w a).map (·.2)) D/\∀a q,o=some a->nD s w a=some q->v=q.1:=by
 obtain⟨O,u,a,M,x,J⟩:=h;unfold aG_;rw[O,M];have j:=get_eq s a w G F x (by omega);cases o with
 | none =>
  refine⟨_,_,aa_ j (af_ (by rw[u];rfl) rfl),⟨rfl,rfl,a,rfl,x,λb m=>by cases m⟩,λa q p=>by cases p⟩
 | some b =>
  obtain rfl:=J b rfl;simp only[qBs];unfold nD;by_cases C:s.length-a<w
  .rw[qV C]at j;rw[qV (.inl C)];exact⟨_,_,aa_ j (af_ (by rw[u];rfl) rfl),⟨rfl,rfl,a,rfl,x,λb m=>by cases m⟩,λa q p f=>by
    obtain rfl:=qSj p;rw[qV (.inl C)]at f;cases f⟩
  .rw[qX C]at j;by_cases y:leV (win s a w)>9223372036854775807
   .rw[qV y]at j;rw[qV (.inr y)];exact⟨_,_,aa_ j (af_ (by rw[u];rfl) rfl),⟨rfl,rfl,a,rfl,x,λb m=>by cases m⟩,λa q p f=>by
     obtain rfl:=qSj p;rw[qV (.inr y)]at f;cases f⟩
   .rw[qX y]at j;rw[qX (by omega)];exact⟨_,_,aa_ j (ab_ (by rw[u];rfl) rfl),⟨rfl,u,a+w,rfl,by omega,λb m=>(qSj m).symm▸rfl⟩,λa q p f=>by
     obtain rfl:=qSj p;rw[qX (by omega)]at f;obtain rfl:=qSj f;rfl⟩
theorem d_text{s:Str}(F:s.length<=2000000){o:Option Nat}{d:Yw}(h:DS s o d) :
  ∃v D,cm_ d=some (v,D)/\DS s (o.bind λa=>(tD s a).map (·.2)) D/\∀a q,o=some a->tD s a=some q->v=q.1:=by
 obtain⟨M,y,a,J,C,G⟩:=h;unfold cm_;rw[M,J];have m:=gettext_eq s a C F;cases o with
 | none =>
  refine⟨_,_,aa_ m (af_ (by rw[y];rfl) rfl),⟨rfl,rfl,a,rfl,C,λb u=>by cases u⟩,λa q x=>by cases x⟩
 | some b =>
  obtain rfl:=G b rfl;simp only[qBs];unfold tD;cases f:takeT s a with
  | none =>
   rw[f]at m;exact⟨_,_,aa_ m (af_ (by rw[y];rfl) rfl),⟨rfl,rfl,a,rfl,C,λb u=>by cases u⟩,λa q x j=>by
    obtain rfl:=qSj x;rw[f]at j;cases j⟩
  | some p =>
   obtain⟨t,p⟩:=p;rw[f]at m;exact⟨_,_,aa_ m (ab_ (by rw[y];rfl) rfl),⟨rfl,y,p,rfl,(oj_ f).1,λb u=>qSj u⟩,λa q x j=>by
    obtain rfl:=qSj x;rw[f]at j;obtain rfl:=qSj j;rfl⟩
theorem d_score{s:Str}(O:s.length<=2000000){o:Option Nat}{d:Yw}(h:DS s o d) :
  ∃v D,el_ d=some (v,D)/\DS s (o.bind λa=>(sD s a).map (·.2)) D/\∀a q,o=some a->sD s a=some q->v=q.1:=by
 obtain⟨M,u,a,J,C,G⟩:=h;unfold el_;rw[M,J];have el:w64 ((s.length:Int)-(a:Int))=((s.length-a:Nat):Int):=by rw[aq_ ⟨by omega,by omega⟩];omega
 rw[el];cases o with
 | none =>
  refine⟨_,_,af_ (by rw[u];rfl) rfl,⟨rfl,rfl,a,rfl,C,λb m=>by cases m⟩,λa q p=>by cases p⟩
 | some b =>
  obtain rfl:=G b rfl;simp only[qBs];unfold sD;by_cases x:s.length-a<32
  .rw[qV x];exact⟨_,_,af_ (by rw[u];simp;omega) rfl,⟨rfl,rfl,a,rfl,C,λb m=>by cases m⟩,λa q p j=>by
    obtain rfl:=qSj p;rw[qV x]at j;cases j⟩
  .rw[qX x];have y:w64 ((a:Int)+32)=((a+32:Nat):Int):=by rw[aq_ ⟨by omega,by omega⟩];rfl
   have F:w64 (((a+32:Nat):Int)-32)=(a:Int):=by rw[aq_ ⟨by omega,by omega⟩];omega
   have f:bI_ s (w64 ((w64 ((a:Int)+32))-32)) (w64 ((a:Int)+32))=some (win s a 32):=by
    rw[y,F,b5_ (by omega) (by omega) (by omega),qTn,qTn,jE,Nat.add_sub_cancel_left];rfl
   exact⟨_,_,ab_ (by rw[u];simp;omega) (aa_ f rfl),⟨rfl,u,a+32,y,by omega,λb m=>qSj m⟩,λa q p j=>by
    obtain rfl:=qSj p;rw[qX x]at j;obtain rfl:=qSj j;rfl⟩
theorem kR_{s:Str}(hs:s.length<=2000000){o:Option Nat}{d:Yn}(h:RS s o d){w:Nat}(h1:1<=w)(h8:w<=8) :
  ∃v d',aE_ d (w:Int)=some (v,d')/\RS s (o.bind λa=>(nD s w a).map (·.2)) d'/\∀a q,o=some a->nD s w a=some q->v=q.1:=by
 obtain⟨F,O,a,D,e4,e5⟩:=h;unfold aE_;have el:w64 ((s.length:Int)-(a:Int))=((s.length-a:Nat):Int):=by rw[aq_ ⟨by omega,by omega⟩];omega
 cases o with
 | none =>
  refine⟨_,_,af_ (by rw[O];rfl) rfl,⟨F,rfl,a,D,e4,λb y=>by cases y⟩,λa q C=>by cases C⟩
 | some b =>
  obtain rfl:=e5 b rfl;simp only[qBs];by_cases c1:s.length-a<w
  .unfold nD;rw[qV (.inl c1)];exact⟨_,_,af_ (by rw[F,O,D,el];simp;omega) rfl,⟨F,rfl,a,D,e4,λb y=>by cases y⟩,λa q C x=>by
    obtain rfl:=qSj C;rw[qV (.inl c1)]at x;cases x⟩
  .have h:a+w<=s.length:=by omega
   have hc:(d.Zg||decide ((w64 ((d.S_.length:Int)-d.At_))<(w:Int)))=false:=by rw[F,O,D,el];simp;omega
   have Z:∀j,j<=w->((win s a w).drop (w-j)).length=j:=λj u=>by rw[qS,jZ_ h];omega
   have J:∀j,j<=w->leV ((win s a w).drop (w-j))<2^(8*j):=λj u=>by
    have:=leV_lt ((win s a w).drop (w-j))
    rwa [Z j u]at this
   have m:∀j,j<w->leV ((win s a w).drop (w-j))<36028797018963968->cl_ d (((leV ((win s a w).drop (w-j)):Nat):Int),(w:Int)-1-(j:Int))=some (.next (((leV ((win s a w).drop (w-(j+1))):Nat):Int),(w:Int)-1-((j+1:Nat):Int))):=λj u V=>by
    unfold cl_;refine af_ (by simp;omega) (ab_ (by simp;omega) ?_);have ei:w64 (d.At_+((w:Int)-1-(j:Int)))=((a+(w-1-j):Nat):Int):=by
     rw[D,aq_ ⟨by omega,by omega⟩];omega
    show Option.bind (cx_ d.S_ (w64 (d.At_+((w:Int)-1-(j:Int))))) _=_;rw[ei,F];refine aa_ (lj_ (by omega)) ?_;rw[q4_ h u];simp only[leV];generalize s[a+(w-1-j)]'(by omega)=b;have y:=b.toNat_lt;generalize leV ((win s a w).drop (w-j))=v at V ⊢;show some (Step.next (w64 ((w64 ((v:Int)*256))+(w64 (b.toNat:Int))),w64 ((w:Int)-1-(j:Int)-1)))=_;rw[aq_ (n:=(v:Int)*256) ⟨by omega,by omega⟩,aq_ (n:=(b.toNat:Int)) ⟨by omega,by omega⟩,aq_ (n:=(v:Int)*256+(b.toNat:Int)) ⟨by omega,by omega⟩,aq_ ⟨by omega,by omega⟩]
    congr 3
    .omega
    .omega
   have f:∀j,j<w->j<=6->leV ((win s a w).drop (w-j))<36028797018963968:=λj u h6=>by
    have:=J j (by omega);have hp:2^(8*j)<=2^48:=zI (by omega) (by omega);omega
   have p:(win s a w).drop (w-w)=win s a w:=by simp
   have e0:(win s a w).drop (w-0)=[]:=jI (by rw[jZ_ h];omega);have estart:((0:Int),w64 ((w:Int)-1))=(((leV ((win s a w).drop (w-0)):Nat):Int),(w:Int)-1-((0:Nat):Int)):=by
    rw[e0,aq_ ⟨by omega,by omega⟩];simp[leV]
   by_cases G:leV (win s a w)>9223372036854775807
   .
    have U:w=8:=by
     have:=J w (qA _);rw[p]at this;rcases qN w 8 with h'|h'
     .have hp:2^(8*w)<=2^56:=zI (by omega) (by omega);omega
     .omega
    subst U;have h7:¬leV ((win s a 8).drop (8-7))<36028797018963968:=by
     have M:=q4_ (s:=s) (at_:=a) (w:=8) (j:=7) h (by omega);have e8:(win s a 8).drop (8-(7+1))=win s a 8:=by simp
     rw[e8]at M;rw[M]at G;simp only[leV]at G;have:=(s[a+(8-1-7)]'(by omega)).toNat_lt;omega
    have Y:am_ (cl_ d) BIG (0,w64 (((8:Nat):Int)-1))=some (.ret (0,Yn.mk d.S_ d.At_ true)):=by
     rw[estart];refine be_ (T:=λj=>(((leV ((win s a 8).drop (8-j)):Nat):Int),((8:Nat):Int)-1-(j:Int))) 7 (by decide) (λj u=>m j (by omega) (f j (by omega) (by omega))) ?_;unfold cl_;exact af_ (by show decide (((8:Nat):Int)-1-((7:Nat):Int)>=0)=true;decide) (af_ (by show decide (((leV ((win s a 8).drop (8-7)):Nat):Int)>=36028797018963968)=true;simp only[qDe];omega) rfl)
    unfold nD;rw[qV (.inr G)];exact⟨_,_,ab_ hc (aa_ Y rfl),⟨F,rfl,a,D,e4,λb y=>by cases y⟩,λa q C x=>by
     obtain rfl:=qSj C;rw[qV (.inr G)]at x;cases x⟩
   .have Y:am_ (cl_ d) BIG (0,w64 ((w:Int)-1))=some (.fall ((leV (win s a w):Nat):Int)):=by
     rw[estart];refine be_ (T:=λj=>(((leV ((win s a w).drop (w-j)):Nat):Int),(w:Int)-1-(j:Int))) w (b6_ (by omega)) (λj u=>m j u ?_) ?_
     .rcases qN 6 j with h6|h6
      .have:j=7/\w=8:=by omega
       obtain⟨rfl,rfl⟩:=this;have M:=q4_ (s:=s) (at_:=a) (w:=8) (j:=7) h (by omega);have e8:(win s a 8).drop (8-(7+1))=win s a 8:=by simp
       rw[e8]at M;rw[M]at G;simp only[leV]at G;omega
      .exact f j u h6
     .unfold cl_;refine ab_ (by simp;omega) ?_;rw[p]
    unfold nD;rw[qX (by omega)];refine⟨_,_,ab_ hc (aa_ Y rfl),⟨F,O,a+w,?_,by omega,λb y=>qSj y⟩,λa q C x=>by
     obtain rfl:=qSj C;rw[qX (by omega)]at x;obtain rfl:=qSj x;rfl⟩
    show w64 (d.At_+(w:Int))=_;rw[D,aq_ ⟨by omega,by omega⟩];rfl
theorem r_text{s:Str}(M:s.length<=2000000){o:Option Nat}{d:Yn}(h:RS s o d)(n:Nat)(O:n<=1000000) :
  ∃v C,bZ_ d (n:Int)=some (v,C)/\RS s (o.bind λa=>if s.length-a<n then none else some (a+n)) C/\∀a,o=some a->¬s.length-a<n->v=win s a n:=by
 obtain⟨J,p,a,G,y,F⟩:=h;unfold bZ_;have el:w64 ((s.length:Int)-(a:Int))=((s.length-a:Nat):Int):=by rw[aq_ ⟨by omega,by omega⟩];omega
 rw[J,G,el];cases o with
 | none =>
  exact⟨_,_,af_ (by rw[p];rfl) rfl,⟨rfl,rfl,a,rfl,y,λb j=>by cases j⟩,λa m=>by cases m⟩
 | some b =>
  obtain rfl:=F b rfl;simp only[qBs];by_cases q:s.length-a<n
  .rw[qV q];exact⟨_,_,af_ (by rw[p];simp;omega) rfl,⟨rfl,rfl,a,rfl,y,λb j=>by cases j⟩,λa m x=>by
    obtain rfl:=qSj m;exact absurd q x⟩
  .rw[qX q];have u:w64 ((a:Int)+(n:Int))=((a+n:Nat):Int):=by rw[aq_ ⟨by omega,by omega⟩];rfl
   have D:w64 (((a+n:Nat):Int)-(n:Int))=(a:Int):=by rw[aq_ ⟨by omega,by omega⟩];omega
   have f:bI_ s (w64 ((w64 ((a:Int)+(n:Int)))-(n:Int))) (w64 ((a:Int)+(n:Int)))=some (win s a n):=by
    rw[u,D,b5_ (by omega) (by omega) (by omega),qTn,qTn,jE,Nat.add_sub_cancel_left];rfl
   exact⟨_,_,ab_ (by rw[p];simp;omega) (aa_ f rfl),⟨rfl,p,a+n,u,by omega,λb j=>qSj j⟩,λa m x=>by
    obtain rfl:=qSj m;rfl⟩
theorem o1_{s:Str}(Z:s.length<=2000000){o:Option Nat}{d:Yn}(h:RS s o d) :
  ∃v f t D,aE_ d 2=some (v,f)/\bZ_ f v=some (t,D)/\RS s (o.bind λa=>(tD s a).map (·.2)) D/\∀a q,o=some a->tD s a=some q->t=q.1:=by
 obtain⟨v,f,J,u,h3⟩:=kR_ Z h (w:=2) (by omega) (by omega);cases o with
 | none =>
  obtain⟨V,U,a,O,C,M⟩:=u;have j:f.Zg=true:=U;refine⟨v,f,[],Yn.mk f.S_ f.At_ true,J,?_,⟨V,rfl,a,O,C,λb G=>by cases G⟩,λa q ha=>by cases ha⟩;unfold bZ_;exact af_ (by rw[j];rfl) rfl
 | some a =>
  have ha:a<=s.length:=by
   obtain⟨_,_,a',_,C,M⟩:=h;have:=M a rfl;omega
  simp only[qBs]at u ⊢;unfold tD takeT;by_cases F:s.length<a+2
  .rw[qV F];have y:nD s 2 a=none:=by unfold nD;rw[qV (.inl (by omega))]
   rw[y]at u;obtain⟨V,U,b,O,C,M⟩:=u;have j:f.Zg=true:=U;refine⟨v,f,[],Yn.mk f.S_ f.At_ true,J,?_,⟨V,rfl,b,O,C,λb G=>by cases G⟩,λa' q p m=>by
    obtain rfl:=qSj p;rw[qV F]at m;cases m⟩
   unfold bZ_;exact af_ (by rw[j];rfl) rfl
  .rw[qX F];have ZZ:=leV_two s a (by omega);have y:nD s 2 a=some ((leV (win s a 2):Int),a+2):=by unfold nD;rw[qX (by omega)]
   rw[y]at u;have hv:v=(leV (win s a 2):Int):=h3 a _ rfl y;subst hv;obtain⟨t,D,g1,x,g3⟩:=r_text Z u (leV (win s a 2)) (by omega);simp only[qM,qBs]at x g3;refine⟨_,f,t,D,J,g1,?_,λa' q p m => ?_⟩
   .by_cases Y:s.length<a+2+leV (win s a 2)
    .rw[qV Y];rw[qV (by omega)]at x;exact x
    .rw[qX Y];rw[qX (by omega)]at x;exact x
   .obtain rfl:=qSj p;rw[qX F]at m;split at m
    .cases m
    .rename_i Y;obtain rfl:=qSj m;exact g3 (a+2) rfl (by omega)
def gd_(s:Str)(a:Nat):Option (Xq×Xp×Nat):=(nD s 4 a).bind λG=>(nD s 4 G.2).bind λF=>(nD s 4 F.2).bind λD=>(nD s 4 D.2).bind λC=>(nD s 8 C.2).bind λy=>(nD s 8 y.2).bind λx=>(tD s x.2).bind λu=>(tD s u.2).bind λq=>(tD s q.2).bind λp=>(tD s p.2).bind λm=>(nD s 4 m.2).bind λj=>(nD s 1 j.2).bind λh=>(sD s h.2).bind λf=>some (Xq.mk G.1 F.1 D.1 u.1 C.1 q.1 p.1 m.1 y.1 x.1 [],Xp.mk f.1 j.1 h.1,f.2)
theorem ent_steps (s:Str) (o:Option Nat):(o.bind λa=>(gd_ s a).map (·.2.2))=(((((((((((((o.bind λa=>(nD s 4 a).map (·.2)).bind λa=>(nD s 4 a).map (·.2)).bind λa=>(nD s 4 a).map (·.2)).bind λa=>(nD s 4 a).map (·.2)).bind λa=>(nD s 8 a).map (·.2)).bind λa=>(nD s 8 a).map (·.2)).bind λa=>(tD s a).map (·.2)).bind λa=>(tD s a).map (·.2)).bind λa=>(tD s a).map (·.2)).bind λa=>(tD s a).map (·.2)).bind λa=>(nD s 4 a).map (·.2)).bind λa=>(nD s 1 a).map (·.2)).bind λa=>(sD s a).map (·.2)):=by
 cases o with
 | none=>rfl
 | some a =>
  simp only[qBs];unfold gd_;cases nD s 4 a with
  | none=>rfl
  | some F  =>
   simp only[qBs,qM];cases nD s 4 F.2 with
   | none=>rfl
   | some D  =>
    simp only[qBs,qM];cases nD s 4 D.2 with
    | none=>rfl
    | some C  =>
     simp only[qBs,qM];cases nD s 4 C.2 with
     | none=>rfl
     | some y =>
      simp only[qBs,qM];cases nD s 8 y.2 with
      | none=>rfl
      | some x =>
       simp only[qBs,qM];cases nD s 8 x.2 with
       | none=>rfl
       | some u =>
        simp only[qBs,qM];cases tD s u.2 with
        | none=>rfl
        | some q =>
         simp only[qBs,qM];cases tD s q.2 with
         | none=>rfl
         | some p =>
          simp only[qBs,qM];cases tD s p.2 with
          | none=>rfl
          | some m =>
           simp only[qBs,qM];cases tD s m.2 with
           | none=>rfl
           | some j =>
            simp only[qBs,qM];cases nD s 4 j.2 with
            | none=>rfl
            | some h =>
             simp only[qBs,qM];cases nD s 1 h.2 with
             | none=>rfl
             | some f =>
              simp only[qBs,qM];cases sD s f.2<;>rfl
theorem d_entry{s:Str}(m:s.length<=2000000){o:Option Nat}{d:Yw}(h:DS s o d) :
  ∃x d',de_ d=some (x,d')/\DS s (o.bind λa=>(gd_ s a).map (·.2.2)) d'/\∀a q,o=some a->gd_ s a=some q->x=Xr.mk q.1 q.2.1:=by
 obtain⟨v1,d1,a1,b1,c1⟩:=ma_ m h (w:=4) (by omega) (by omega);obtain⟨v2,d2,a2,b2,c2⟩:=ma_ m b1 (w:=4) (by omega) (by omega);obtain⟨v3,d3,a3,b3,c3⟩:=ma_ m b2 (w:=4) (by omega) (by omega);obtain⟨v4,d4,a4,b4,c4⟩:=ma_ m b3 (w:=4) (by omega) (by omega);obtain⟨v5,d5,a5,b5,c5⟩:=ma_ m b4 (w:=8) (by omega) (by omega);obtain⟨v6,d6,a6,b6,c6⟩:=ma_ m b5 (w:=8) (by omega) (by omega);obtain⟨v7,d7,a7,b7,c7⟩:=d_text m b6;obtain⟨v8,d8,a8,b8,c8⟩:=d_text m b7;obtain⟨v9,d9,a9,b9,c9⟩:=d_text m b8;obtain⟨ZD,ZA,ZH,ZL,ZP⟩:=d_text m b9;obtain⟨ZE,ZB,ZI,ZM,ZQ⟩:=ma_ m ZL (w:=4) (by omega) (by omega);obtain⟨ZF,ZC,ZJ,ZN,ZR⟩:=ma_ m ZM (w:=1) (by omega) (by omega)
 obtain⟨ZG,ZT,ZK,ZO,ZS⟩:=d_score m ZN;refine⟨_,ZT,aa_ a1 (aa_ a2 (aa_ a3 (aa_ a4 (aa_ a5 (aa_ a6 (aa_ a7 (aa_ a8 (aa_ a9 (aa_ ZH (aa_ ZI (aa_ ZJ (aa_ ZK rfl)))))))))))),?_,?_⟩
 .rw[ent_steps s o];exact ZO
 .intro a q ha f;subst ha;unfold gd_ at f;obtain⟨q1,j,f⟩:=qOb.1 f;obtain⟨q2,p,f⟩:=qOb.1 f;obtain⟨q3,u,f⟩:=qOb.1 f;obtain⟨q4,y,f⟩:=qOb.1 f;obtain⟨q5,C,f⟩:=qOb.1 f;obtain⟨q6,F,f⟩:=qOb.1 f;obtain⟨q7,G,f⟩:=qOb.1 f;obtain⟨q8,M,f⟩:=qOb.1 f;obtain⟨q9,Y,f⟩:=qOb.1 f;obtain⟨V,D,f⟩:=qOb.1 f;obtain⟨U,J,f⟩:=qOb.1 f;obtain⟨O,Z,f⟩:=qOb.1 f;obtain⟨ZZ,ZY,f⟩:=qOb.1 f;obtain rfl:=qSj f;have f1:=c1 a q1 rfl j;have f2:=c2 q1.2 q2 (by simp[j]) p;have f3:=c3 q2.2 q3 (by simp[j,p]) u;have f4:=c4 q3.2 q4 (by simp[j,p,u]) y;have f5:=c5 q4.2 q5 (by simp[j,p,u,y]) C;have f6:=c6 q5.2 q6 (by simp[j,p,u,y,C]) F;have f7:=c7 q6.2 q7 (by simp[j,p,u,y,C,F]) G
  have f8:=c8 q7.2 q8 (by simp[j,p,u,y,C,F,G]) M;have f9:=c9 q8.2 q9 (by simp[j,p,u,y,C,F,G,M]) Y;have ZU:=ZP q9.2 V (by simp[j,p,u,y,C,F,G,M,Y]) D;have ZV:=ZQ V.2 U (by simp[j,p,u,y,C,F,G,M,Y,D]) J;have ZW:=ZR U.2 O (by simp[j,p,u,y,C,F,G,M,Y,D,J]) Z;have ZX:=ZS O.2 ZZ (by simp[j,p,u,y,C,F,G,M,Y,D,J,Z]) ZY;rw[f1,f2,f3,f4,f5,f6,f7,f8,f9,ZU,ZV,ZW,ZX]
theorem sD_text{s:Str}{a:Nat}:(sD s a).map (·.2)=if s.length-a<32 then none else some (a+32):=by
 unfold sD;split<;>rfl
theorem r_entry{s:Str}(m:s.length<=2000000){o:Option Nat}{d:Yn}(h:RS s o d) :
  ∃n r d',eV_ d=some (n,r,d')/\RS s (o.bind λa=>(gd_ s a).map (·.2.2)) d'/\∀a q,o=some a->gd_ s a=some q->n=q.1/\r=q.2.1:=by
 obtain⟨v1,d1,a1,b1,c1⟩:=kR_ m h (w:=4) (by omega) (by omega);obtain⟨v2,d2,a2,b2,c2⟩:=kR_ m b1 (w:=4) (by omega) (by omega);obtain⟨v3,d3,a3,b3,c3⟩:=kR_ m b2 (w:=4) (by omega) (by omega);obtain⟨v4,d4,a4,b4,c4⟩:=kR_ m b3 (w:=4) (by omega) (by omega);obtain⟨v5,d5,a5,b5,c5⟩:=kR_ m b4 (w:=8) (by omega) (by omega);obtain⟨v6,d6,a6,b6,c6⟩:=kR_ m b5 (w:=8) (by omega) (by omega);obtain⟨_,_,v7,d7,a7,ZH,b7,c7⟩:=o1_ m b6;obtain⟨_,_,v8,d8,a8,ZI,b8,c8⟩:=o1_ m b7;obtain⟨_,_,v9,d9,a9,ZJ,b9,c9⟩:=o1_ m b8;obtain⟨_,_,Zy,Zu,ZD,ZY,ZK,ZO⟩:=o1_ m b9;obtain⟨ZA,Zv,ZE,ZL,ZP⟩:=kR_ m ZK (w:=4) (by omega) (by omega);obtain⟨ZB,Zw,ZF,ZM,ZQ⟩:=kR_ m ZL (w:=1) (by omega) (by omega)
 obtain⟨ZC,ZS,ZG,ZN,ZR⟩:=r_text m ZM 32 (by omega);refine⟨_,_,ZS,aa_ a1 (aa_ a2 (aa_ a3 (aa_ a4 (aa_ a5 (aa_ a6 (aa_ a7 (aa_ ZH (aa_ a8 (aa_ ZI (aa_ a9 (aa_ ZJ (aa_ ZD (aa_ ZY (aa_ ZE (aa_ ZF (aa_ ZG rfl)))))))))))))))),?_,?_⟩
 .have e:(o.bind λa=>(gd_ s a).map (·.2.2))=(((((((((((((o.bind λa=>(nD s 4 a).map (·.2)).bind λa=>(nD s 4 a).map (·.2)).bind λa=>(nD s 4 a).map (·.2)).bind λa=>(nD s 4 a).map (·.2)).bind λa=>(nD s 8 a).map (·.2)).bind λa=>(nD s 8 a).map (·.2)).bind λa=>(tD s a).map (·.2)).bind λa=>(tD s a).map (·.2)).bind λa=>(tD s a).map (·.2)).bind λa=>(tD s a).map (·.2)).bind λa=>(nD s 4 a).map (·.2)).bind λa=>(nD s 1 a).map (·.2)).bind λa=>if s.length-a<32 then none else some (a+32)):=by
   simp only[←sD_text];exact ent_steps s o
  rw[e];exact ZN
 .intro a q ha f;subst ha;unfold gd_ at f;obtain⟨q1,j,f⟩:=qOb.1 f;obtain⟨q2,p,f⟩:=qOb.1 f;obtain⟨q3,x,f⟩:=qOb.1 f;obtain⟨q4,y,f⟩:=qOb.1 f;obtain⟨q5,C,f⟩:=qOb.1 f;obtain⟨q6,G,f⟩:=qOb.1 f;obtain⟨q7,J,f⟩:=qOb.1 f;obtain⟨q8,O,f⟩:=qOb.1 f;obtain⟨q9,Y,f⟩:=qOb.1 f;obtain⟨V,F,f⟩:=qOb.1 f;obtain⟨U,M,f⟩:=qOb.1 f;obtain⟨u,Z,f⟩:=qOb.1 f;obtain⟨ZX,D,f⟩:=qOb.1 f;obtain rfl:=qSj f;have f1:=c1 a q1 rfl j;have f2:=c2 q1.2 q2 (by simp[j]) p;have f3:=c3 q2.2 q3 (by simp[j,p]) x;have f4:=c4 q3.2 q4 (by simp[j,p,x]) y;have f5:=c5 q4.2 q5 (by simp[j,p,x,y]) C;have f6:=c6 q5.2 q6 (by simp[j,p,x,y,C]) G;have f7:=c7 q6.2 q7 (by simp[j,p,x,y,C,G]) J
  have f8:=c8 q7.2 q8 (by simp[j,p,x,y,C,G,J]) O;have f9:=c9 q8.2 q9 (by simp[j,p,x,y,C,G,J,O]) Y;have ZT:=ZO q9.2 V (by simp[j,p,x,y,C,G,J,O,Y]) F;have ZU:=ZP V.2 U (by simp[j,p,x,y,C,G,J,O,Y,F]) M;have ZV:=ZQ U.2 u (by simp[j,p,x,y,C,G,J,O,Y,F,M]) Z;have ZZ:¬s.length-u.2<32/\ZX=(win s u.2 32,u.2+32):=by
   unfold sD at D;split at D
   .cases D
   .rename_i hh;exact⟨hh,(qSj D).symm⟩
  have ZW:=ZR u.2 (by simp[j,p,x,y,C,G,J,O,Y,F,M,Z]) ZZ.1;rw[f1,f2,f3,f4,f5,f6,f7,f8,f9,ZT,ZU,ZV,ZW,ZZ.2];exact⟨rfl,rfl⟩
theorem s4_{s:Str}{a:Nat}{q:Xq×Xp×Nat}(ha:a<=s.length)(h:gd_ s a=some q):q.2.2<=s.length/\a+77<=q.2.2/\q.1.Xv<=9223372036854775807/\q.1.Xh.length<=s.length:=by
 unfold gd_ at h;obtain⟨q1,p1,h⟩:=qOb.1 h;obtain⟨q2,p2,h⟩:=qOb.1 h;obtain⟨q3,Z,h⟩:=qOb.1 h;obtain⟨q4,Y,h⟩:=qOb.1 h;obtain⟨q5,V,h⟩:=qOb.1 h;obtain⟨q6,U,h⟩:=qOb.1 h;obtain⟨q7,O,h⟩:=qOb.1 h;obtain⟨q8,M,h⟩:=qOb.1 h;obtain⟨q9,J,h⟩:=qOb.1 h;obtain⟨G,p,h⟩:=qOb.1 h;obtain⟨F,m,h⟩:=qOb.1 h;obtain⟨D,j,h⟩:=qOb.1 h;obtain⟨C,f,h⟩:=qOb.1 h;obtain rfl:=qSj h;have b1:=l9_ ha p1;have b2:=l9_ b1.1 p2;have b3:=l9_ b2.1 Z;have b4:=l9_ b3.1 Y;have b5:=l9_ b4.1 V;have b6:=l9_ b5.1 U;have b7:=oj_ O;have b8:=oj_ M;have b9:=oj_ J;have y:=oj_ p;have x:=l9_ y.1 m;have u:=l9_ x.1 j;have ZZ:=sD_le u.1 f;simp only;omega
def fw_(s:Str):Nat->Nat->Option (List (Xq×Xp)) | 0,_=>none|f+1,a=>if a<s.length then(gd_ s a).bind λq=>(fw_ s f q.2.2).map λl=>(q.1,q.2.1)::l else some []
def fx_(q:Xq×Xp):Xr:=Xr.mk q.1 q.2
theorem P_entries{s:Str}(D:s.length<=2000000):∀(f a:Nat) (out:List Xr) {d:Yw},DS s (some a) d->a<=s.length->s.length-a<f->out.length<=a ->
  ∃o,am_ (df_ s) (f+1) (d,out)=some o/\match fw_ s f a with|some l=>o.1.Zw=false/\o.2=out++l.map fx_|none=>o.1.Zw=true
 | 0,a,out,d,_,_,Y,_=>by omega
 | f + 1,a,out,d,G,Z,Y,ho=>by
  obtain⟨e1,O,C,M,_,e5⟩:=id G;obtain rfl:=e5 a rfl;unfold fw_;by_cases j:C<s.length
  .rw[qV j];obtain⟨x,y,h1,u,h3⟩:=d_entry D G;have h:df_ s (d,out)=some (.next (y,out++[x])):=by
    unfold df_;refine af_ (by simp only[O,M];simp;omega) (aa_ h1 (aa_ (bj_ (by simp;omega) (by simp;omega)) rfl))
   cases p:gd_ s C with
   | none =>
    simp only[qBs,p,ze]at u;have J:y.Zw=true:=u.2.1;refine⟨(y,out++[x]),bh_ h (aS_ (n:=f) ?_),J⟩;unfold df_;exact ab_ (by simp[J]) rfl
   | some q =>
    obtain⟨U,l2,_⟩:=s4_ Z p;simp only[qBs,p,qM]at u ⊢;obtain⟨o,g1,m⟩:=P_entries D f q.2.2 (out++[x]) u U (by omega) (by simp;omega);refine⟨o,bh_ h g1,?_⟩;have V:=h3 C q rfl p;cases F:fw_ s f q.2.2 with
    | none=>rw[F]at m;exact m
    | some l =>
     rw[F]at m;refine⟨m.1,?_⟩;rw[m.2,V];simp[fx_]
  .rw[qX j];refine⟨(d,out),aS_ ?_,O,by simp⟩;unfold df_;exact ab_ (by simp only[M];simp;omega) rfl
def fy_(s:Str)(id:Int)(f a:Nat):Option (List (Xq×Xp)):=(fw_ s f a).bind λl=>if l.all (λq=>q.1.Xy==id)then some l else none
theorem R_entries{s:Str}(J:s.length<=2000000)(n:Xq)(e:Int):∀(f a:Nat) (ns:List Xq) (rs:List Xp) {d:Yn},RS s (some a) d->a<=s.length->s.length-a<f->ns.length<=a->rs.length<=a ->
  am_ (cF_ (s,e) n) f (ns,rs,d)=some (match fy_ s n.Id_ f a with|some l => .fall (ns++l.map (·.1),rs++l.map (·.2))|none => .ret ([],2))
 | 0,a,ns,rs,d,_,_,Z,_,_=>by omega
 | f + 1,a,ns,rs,d,M,ha,Z,hn,hr=>by
  obtain⟨e1,e2,G,y,_,e5⟩:=id M;obtain rfl:=e5 a rfl;unfold fy_ fw_;by_cases j:G<s.length
  .rw [qV j];obtain⟨m,r,F,D,p,h3⟩:=r_entry J M;cases u:gd_ s G with
   | none =>
    simp only[qBs,u,ze]at p;have C:F.Zg=true:=p.2.1;refine aS_ ?_;unfold cF_;exact af_ (by simp only[y];simp;omega) (aa_ D (af_ (by simp[C]) rfl))
   | some q =>
    obtain⟨U,l2,_⟩:=s4_ ha u;simp only[qBs,u,qM]at p ⊢;obtain⟨rfl,rfl⟩:=h3 G q rfl u;have C:F.Zg=false:=p.2.1;by_cases x:q.1.Xy=n.Id_
    .have h:cF_ (s,e) n (ns,rs,d)=some (.next (ns++[q.1],rs++[q.2.1],F)):=by
      unfold cF_;exact af_ (by simp only[y];simp;omega) (aa_ D (ab_ (by simp[C,x]) (aa_ (bj_ (by simp;omega) (by simp;omega)) (aa_ (bj_ (by simp;omega) (by simp;omega)) rfl))))
     have V:=R_entries J n e f q.2.2 (ns++[q.1]) (rs++[q.2.1]) p U (by omega) (by simp;omega) (by simp;omega);refine bh_ h (V.trans ?_);unfold fy_;cases fw_ s f q.2.2 with
     | none=>rfl
     | some l =>
      simp only[qBs,qM,jY,x,jX,zY];cases O:l.all (λq=>q.1.Xy==n.Id_)with
      | true=>simp
      | false=>simp
    .have Y:((Option.map (λl=>(q.1,q.2.1)::l) (fw_ s f q.2.2)).bind λl=>if l.all (λq=>q.1.Xy==n.Id_)then some l else none)=none:=by
      cases fw_ s f q.2.2 with
      | none=>rfl
      | some l=>simp[x]
     rw[Y];refine aS_ ?_;unfold cF_;exact af_ (by simp only[y];simp;omega) (aa_ D (af_ (by simp[x]) rfl))
  .rw[qX j];refine aS_ ?_;unfold cF_;refine ab_ (by simp only[y];simp;omega) ?_;simp
abbrev Gn:=List Xq×List Str×Int
def fG(rec:Xq->Xp->Int->Gn)(left:Int)(acc:List Xq×List Str)(q:Xq×Xp):(List Xq×List Str) ⊕ Gn:=if(rec q.1 q.2 (left-(acc.1.length:Int))).2.2=0 then .inl (acc.1++(rec q.1 q.2 (left-(acc.1.length:Int))).1,acc.2++(rec q.1 q.2 (left-(acc.1.length:Int))).2.1)else .inr ([],acc.2++(rec q.1 q.2 (left-(acc.1.length:Int))).2.1,(rec q.1 q.2 (left-(acc.1.length:Int))).2.2)
def s5_(n:Xq)(d:Str):Xq:=Xq.mk n.Id_ n.Xy n.Xs n.Xh n.Xv n.Yg n.Yq n.Ym n.Yj n.Xl d
def aT_(n:Xq):Int:=if n.Xv>=2147483648 then 3 else 1
def bb_ (s:Xx):Nat->Xq->Xp->Int->Gn
 | 0,_,_,_=>([],[],2)
 | f + 1,n,r,left=>if left<1 then([],[],2)else
   if (az_ s (aT_ n) r).2.2=0 then
    (if n.Xv>=2147483648 then
     (match fy_ (az_ s (aT_ n) r).1 n.Id_ ((az_ s (aT_ n) r).1.length+1) 0 with
      | none=>([],(az_ s (aT_ n) r).2.1,2)
      | some l=>outS (λacc=>(acc.1,acc.2,0)) (λe=>e) (aW_ (fG (bb_ s f) left) ([n],(az_ s (aT_ n) r).2.1) l))
    else([s5_ n (az_ s (aT_ n) r).1],(az_ s (aT_ n) r).2.1,0))
   else([],(az_ s (aT_ n) r).2.1,(az_ s (aT_ n) r).2.2)
theorem mb_{s:Xx}(h:StOK s)(k:Int)(r:Xp):(az_ s k r).1.length<=1048576/\(az_ s k r).2.1.length<=1057:=by
 unfold az_;split
 .have f:=hN_le (nP r.Xt.toNat);obtain⟨m,j⟩:=oZ_ h k (hN (nP r.Xt.toNat)) r.Yy r.Xt.toNat 0 r.Xt.toNat;exact⟨qk m (uf_ f),qk j (cntN_le f)⟩
 .simp
theorem kS_ {s:Xx} (x:StOK s):∀(f:Nat) {n:Xq} {r:Xp} {left:Int},(bb_ s f n r left).2.2=0->1<=(bb_ s f n r left).1.length/\((bb_ s f n r left).1.length:Int)<=left/\(bb_ s f n r left).2.1.length<=1057*(bb_ s f n r left).1.length
 | 0,n,r,left,h=>by cases h
 | f + 1,n,r,left,h=>by
  obtain⟨_,C⟩:=mb_ x (aT_ n) r;unfold bb_ at h ⊢;split at h
  .cases h
  .rename_i y;rw[qX y];split at h
   .rename_i p;rw[qV p];split at h
    .rename_i m;rw[qV m];split at h
     .cases h
     .rename_i l _;have hi:=fv_ (f:=fG (bb_ s f) left) (λ_ acc=>1<=acc.1.length/\(acc.1.length:Int)<=left/\acc.2.length<=1057*acc.1.length) (λe=>e.2.2≠0) (xs:=l) (k:=0) (s0:=([n],(az_ s (aT_ n) r).2.1)) ⟨by simp,by simp;omega,by simp;omega⟩ λi acc q _ ⟨J,a2,a3⟩=>by
       unfold fG;refine⟨λs' j => ?_,λe j => ?_⟩
       .split at j
        .rename_i u;obtain⟨G,F,D⟩:=kS_ x f u;obtain rfl:=zU j;simp only[qLa];omega
        .cases j
       .split at j
        .cases j
        .rename_i u;obtain rfl:=zk j;exact u
      cases hr:aW_ (fG (bb_ s f) left) ([n],(az_ s (aT_ n) r).2.1) l with
      | inl acc=>exact hi.1 acc hr
      | inr e =>
       rw[hr]at h;exact absurd h (hi.2 e hr)
    .rename_i m;rw[qX m];simp only[jh];omega
   .rename_i p;exact absurd h p
theorem uh_(n:Xq):cK_ n=some (decide (n.Xv>=2147483648)):=rfl
theorem add_kids{l:List (Xq×Xp)}{n:Xq}{r:Xp}(h:l.length<=1073741824):aX_ (l.map fx_) (λ(m:Xr)=>Option.bind (cG_ m (Xr.mk n r)) λ(j:Bool)=>some j)=some (!(l.all λq=>q.1.Xy==n.Id_)):=by
 unfold aX_;generalize y:(λ(u:Xr)=>u.Yc.Xy != n.Id_)=p;refine aa_ (a:=at_ p (l.map fx_)) ?_ ?_
 .unfold cf_;have h:=bG_ (body:=bw_ (l.map fx_) (λ(m:Xr)=>Option.bind (cG_ m (Xr.mk n r)) λ(j:Bool)=>some j)) (l.map fx_) (λi x=>if p x then some ((i:Nat):Int)else none) (b6_ (by simp;omega)) (λi hi => ?_) ?_
  .rw[bT_ h (λr=>rfl) (x := -1) rfl,jX_]
  .unfold bw_;refine af_ (bm_ hi) (aa_ (au_ hi) (aa_ (a:=p (l.map fx_)[i]) (by rw[←y];rfl) ?_));cases p (l.map fx_)[i]with
   | true=>rfl
   | false =>
    rw[aw_ (by simp at hi;omega)];rfl
  .unfold bw_;exact ab_ (bC_ _) rfl
 .congr 1
  rcases lk_ p (l.map fx_)with⟨F,D⟩|⟨i,x,F,D,G,C,_⟩
  .rw[D];have:l.all (λq=>q.1.Xy==n.Id_)=true:=by
    rw[qf];intro q s;have:=zy.1 F (fx_ q) (zQ.2 ⟨q,s,rfl⟩);rw[←y]at this;simpa[fx_]using this
   rw[this];rfl
  .rw[D];have:l.all (λq=>q.1.Xy==n.Id_)=false:=by
    rw[←Bool.not_eq_true,qf];intro f;obtain⟨q,s,rfl⟩:=zQ.1 (qe G);have:=f q s;rw[←y]at C;simp only[fx_,zM,ne_eq,qG]at C this;exact C this
   rw[this];simp
theorem sx_(n:Xq){R:Type}(k:Int->Option R):(Option.bind ((cK_ n).bind λf=>bif f then some 3 else some 1) k)=k (aT_ n):=by
 rw[uh_];unfold aT_;by_cases h:n.Xv>=2147483648
 .simp[h]
 .simp[h]
theorem sy_{α:Type}{l:List α}{i:Nat}{x:α}{j:List α}(h:l.drop i=x::j):l[i]? = some x/\l.drop (i+1)=j/\i<l.length:=by
 have hi:i<l.length:=by
  rcases qN i l.length with f|f
  .exact f
  .rw[jH f]at h;cases h
 rw[zV hi]at h;injection h with p m;exact⟨by rw[qQ hi,p],m,hi⟩
theorem sz_(s:Str):∀(f a:Nat) {l:List (Xq×Xp)},fw_ s f a=some l->l.length<=f
 | 0,a,l,h=>by cases h
 | f+1,a,l,h=>by
  unfold fw_ at h;split at h
  .obtain⟨q,_,h⟩:=qOb.1 h;obtain⟨m,j,rfl⟩:=Option.map_eq_some_iff.1 h;have:=sz_ s f _ j;simp;omega
  .obtain rfl:=qSj h;simp
theorem add_P {s:Xx} (hs:StOK s):∀(f m:Nat) {ns:List Xq} {seen:List Str} {most:Int} {n:Xq} {r:Xp},f<=m->(most-(ns.length:Int)).toNat<f->most<=1024->seen.length<=1057*ns.length+2 ->
  ∃e b rd,bp_ m (Xo.mk ns most) (Xm.mk s seen) (Xr.mk n r)=some (e,b,rd)/\e=(bb_ s f n r (most-(ns.length:Int))).2.2/\(e=0->b=Xo.mk (ns++(bb_ s f n r (most-(ns.length:Int))).1) most/\rd=Xm.mk s (seen++(bb_ s f n r (most-(ns.length:Int))).2.1))
 | 0,_,ns,seen,most,n,r,_,hf,_,_=>by omega
 | f + 1, m,ns,seen,most,n,r,hm,hf,J,ZX=>by
  obtain⟨m,rfl⟩:∃m',m=m'+1:=⟨m-1,by omega⟩;show ∃e b rd,bE_ (bp_ m) _ _ _=some (e,b,rd)/\_;unfold bb_;by_cases hl:most-(ns.length:Int)<1
  .rw[qV hl];refine⟨2,Xo.mk ns most,Xm.mk s seen,?_,rfl,λe=>by cases e⟩;unfold bE_;exact af_ (by simp only[qDe];omega) rfl
  .rw [qX hl];obtain⟨ZU,ZV⟩:=mb_ hs (aT_ n) r;have j:∀{R:Type} (X Y:R),(bif decide ((ns.length:Int)>=most)then X else Y)=Y:=λX Y=>by
    have:decide ((ns.length:Int)>=most)=false:=by simp only[qDf];omega
    rw[this];rfl
   have y:=contents_eq hs (aT_ n) r (seen:=seen) (by omega);by_cases hc:(az_ s (aT_ n) r).2.2=0
   .rw [qV hc];by_cases hd:n.Xv>=2147483648
    .rw [qV hd];have x:cK_ n=some true:=by rw[uh_];simp[hd]
     -- the entries
     obtain⟨o,o1,o2⟩:=P_entries (s:=(az_ s (aT_ n) r).1) (by omega) ((az_ s (aT_ n) r).1.length+1) 0 [] (d:=Yw.mk (az_ s (aT_ n) r).1 0 false) ⟨rfl,rfl,0,rfl,qq _,λb hb=>qSj hb⟩ (qq _) (by omega) (by simp);have U:hk_ (az_ s (aT_ n) r).1=some (o.2,!o.1.Zw):=by
      unfold hk_;exact aa_ (gE_ o1 (Nat.le_of_lt (b6_ (by omega)))) rfl
     have G:room 128 ns [n]=some (ns++[n]):=bj_ (by simp;omega) (by simp;omega);have u:∀{R:Option (Int×Xo×Xm)},(Option.bind (bif(!(!o.1.Zw))then some true else(aX_ o.2 (λ(u1:Xr)=>Option.bind (cG_ u1 (Xr.mk n r)) λ(v1:Bool)=>some v1)).bind λy7=>some y7) λ(y8:Bool)=>bif y8 then some (2,(Xo.mk (ns++[n]) most),Xm.mk s (seen++(az_ s (aT_ n) r).2.1))else(am_ (b4_ (o.2,!o.1.Zw) (bp_ m)) BIG (0,most,s.Yi,s.Xi,seen++(az_ s (aT_ n) r).2.1,ns++[n],o.2)).bind λF=>match F with
       | .ret r2=>some r2
       | .fall o2=>some (0,(Xo.mk o2.2.2.2.2 o2.1),(Xm.mk (Xx.mk o2.2.1 o2.2.2.1) o2.2.2.2.1)))=R->bE_ (bp_ m) (Xo.mk ns most) (Xm.mk s seen) (Xr.mk n r)=R:=λhR=>by
      unfold bE_;simp only[j,sx_];refine aa_ y (ab_ (by simp[hc]) (aa_ x (ab_ rfl (aa_ G (aa_ U hR)))))
     cases hE:fw_ (az_ s (aT_ n) r).1 ((az_ s (aT_ n) r).1.length+1) 0 with
     | none =>
      rw[hE]at o2;have hk:fy_ (az_ s (aT_ n) r).1 n.Id_ ((az_ s (aT_ n) r).1.length+1) 0=none:=by unfold fy_;rw[hE];rfl
      rw[hk];exact⟨_,_,_,u (aa_ (a:=true) (af_ (by rw[o2];rfl) rfl) (af_ rfl rfl)),rfl,λe=>by cases e⟩
     | some l =>
      rw[hE]at o2;obtain⟨o3,o4⟩:=o2;rw[zG]at o4;have ZW:=sz_ _ _ _ hE;have h:=add_kids (l:=l) (n:=n) (r:=r) (by omega);cases p:l.all (λq=>q.1.Xy==n.Id_)with
      | false =>
       have hk:fy_ (az_ s (aT_ n) r).1 n.Id_ ((az_ s (aT_ n) r).1.length+1) 0=none:=by unfold fy_;rw[hE];simp[p]
       rw[hk];rw[p]at h;refine⟨_,_,_,u (aa_ (a:=true) (ab_ (by rw[o3];rfl) ?_) (af_ rfl rfl)),rfl,λe=>by cases e⟩;rw[o4];exact aa_ h rfl
      | true =>
       have hk:fy_ (az_ s (aT_ n) r).1 n.Id_ ((az_ s (aT_ n) r).1.length+1) 0=some l:=by unfold fy_;rw[hE];simp[p]
       rw[hk];rw[p]at h;have M:∀(Z:List (Xq×Xp)) (i:Nat) (acc:List Xq×List Str),l.drop i=Z->i<=l.length->1<=acc.1.length->(acc.1.length:Int)<=most-(ns.length:Int)->acc.2.length<=1057*acc.1.length ->
         ∃w,am_ (b4_ (l.map fx_,true) (bp_ m)) (Z.length+1) ((i:Int),most,s.Yi,s.Xi,seen++acc.2,ns++acc.1,l.map fx_)=some w/\(match aW_ (fG (bb_ s f) (most-(ns.length:Int))) acc Z with
          | .inl a=>w = .fall (most,s.Yi,s.Xi,seen++a.2,ns++a.1)
          | .inr e=>e.2.2≠0/\∃b rd,w = .ret (e.2.2,b,rd)):=by
        intro Z
        induction Z with
        | nil =>
         intro i acc V hi _ _ _;have:i=l.length:=by
          have:=qH List.length V;simp at this;omega
         subst this;refine⟨.fall (most,s.Yi,s.Xi,seen++acc.2,ns++acc.1),aS_ ?_,by simp[aW_]⟩;unfold b4_;exact ab_ (by simp) rfl
        | cons q Z ih =>
         intro i acc V hi a1 a2 a3;obtain⟨g1,g2,g3⟩:=sy_ V;obtain⟨e,b,rd,k1,k2,k3⟩:=add_P hs f m (ns:=ns++acc.1) (seen:=seen++acc.2) (most:=most) (n:=q.1) (r:=q.2) (by omega) (by simp;omega) J (by simp;omega);have O:most-((ns++acc.1).length:Int)=most-(ns.length:Int)-(acc.1.length:Int):=by simp;omega
         rw[O]at k2 k3;have D:an_ (l.map fx_) (i:Int)=some (Xr.mk q.1 q.2):=by rw[bx_,qm,g1];rfl
         simp only[aW_];unfold fG;by_cases C:(bb_ s f q.1 q.2 (most-(ns.length:Int)-(acc.1.length:Int))).2.2=0
         .rw[qV C];obtain⟨k4,k5⟩:=k3 (k2.trans C);obtain⟨c1,c2,c3⟩:=kS_ hs f C;obtain⟨w,w1,w2⟩:=ih (i+1) (acc.1++(bb_ s f q.1 q.2 (most-(ns.length:Int)-(acc.1.length:Int))).1,acc.2++(bb_ s f q.1 q.2 (most-(ns.length:Int)-(acc.1.length:Int))).2.1) g2 (by omega) (by simp;omega) (by simp;omega) (by simp;omega);refine⟨w,bh_ ?_ w1,w2⟩;unfold b4_;refine af_ (by simp;omega) (aa_ D (aa_ k1 (ab_ (by rw[k2,C];rfl) ?_)));rw[k4,k5,aw_ (by omega),qT,qT]
         .rw[qX C];refine⟨.ret (e,b,rd),aS_ ?_,C,b,rd,by rw[k2]⟩;unfold b4_;exact af_ (by simp;omega) (aa_ D (aa_ k1 (af_ (by rw[k2];simpa using C) rfl)))
       obtain⟨w,w1,w2⟩:=M l 0 ([n],(az_ s (aT_ n) r).2.1) (by simp) (qq _) (by simp) (by simp;omega) (by simp;omega);have ZY:=gE_ w1 (show l.length+1<=BIG from Nat.le_of_lt (b6_ (by omega)));have ZZ:∀{R},((some w:Option (Out (Int×Int×List Yk×List Str×List Xq) (Int×Xo×Xm))).bind λF=>match F with
         | .ret r2=>some r2
         | .fall o2=>some (0,(Xo.mk o2.2.2.2.2 o2.1),(Xm.mk (Xx.mk o2.2.1 o2.2.2.1) o2.2.2.2.1)))=R->bE_ (bp_ m) (Xo.mk ns most) (Xm.mk s seen) (Xr.mk n r)=R:=λhR=>by
        refine u (aa_ (a:=false) (ab_ (by rw[o3];rfl) ?_) (ab_ rfl ?_))
        .rw[o4];exact aa_ h rfl
        .rw[o4,o3];have w1'':am_ (b4_ (l.map fx_,!false) (bp_ m)) BIG (0,most,s.Yi,s.Xi,seen++(az_ s (aT_ n) r).2.1,ns++[n],l.map fx_)=some w:=ZY;rw[w1''];exact hR
       cases hr:aW_ (fG (bb_ s f) (most-(ns.length:Int))) ([n],(az_ s (aT_ n) r).2.1) l with
       | inl a =>
        rw[hr]at w2;subst w2;simp only[hr,outS];exact⟨_,_,_,ZZ rfl,rfl,λ_=>⟨rfl,rfl⟩⟩
       | inr e =>
        rw[hr]at w2;obtain⟨C,b,rd,rfl⟩:=w2;simp only[hr,outS];exact⟨_,_,_,ZZ rfl,rfl,λe0=>absurd e0 C⟩
    .rw[qX hd];have x:cK_ n=some false:=by rw[uh_];simp[hd]
     refine⟨0,Xo.mk (ns++[s5_ n (az_ s (aT_ n) r).1]) most,Xm.mk s (seen++(az_ s (aT_ n) r).2.1),?_,rfl,λ_=>⟨rfl,rfl⟩⟩;unfold bE_;simp only[j,sx_];exact aa_ y (ab_ (by simp[hc]) (aa_ x (af_ rfl (aa_ (bj_ (by simp;omega) (by simp;omega)) rfl))))
   .rw[qX hc];refine⟨(az_ s (aT_ n) r).2.2,Xo.mk ns most,Xm.mk s (seen++(az_ s (aT_ n) r).2.1),?_,rfl,λe=>absurd e hc⟩;unfold bE_;simp only[j,sx_];exact aa_ y (af_ (by simpa using hc) rfl)
end Go.Proofs.YtebokaoegomboaaGreatDoor
