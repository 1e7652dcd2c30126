/-
 What the statements of this seat hang on,part 6: LIa LIc LIm ShIx LIx ShSb LSb Lq ShSp LSp K1 Ob Oc Od K2 K3 K4 K5 Oe Of Og K6 Os K7 K8 K9 K10 K11.
-/
import Derived.Test.YtfbcbakhdkppoaaGreatDoorWC5
import Derived.Shelf.Spec.SlicesInsertGrow
import Derived.Test.YtfbcbakhdkppoaaGreatDoorProg
import Derived.KernelRfl
import Derived.Laws.Externs
import Derived.Shelf.Strings.Search2
import Derived.Ground.NamesProg
import Derived.Lib.Agree
import Derived.Shelf.Strings.Builder1
import Derived.Sort.Grow
import Derived.Sort.EncStr
import Derived.Shelf.SlSortCmp.NoneTotal
import Derived.Shelf.SlSortCmp.WholeK
import Derived.Shelf.SlGeneric
import Derived.Shelf.Small.Strs
import Derived.Sort.AssemblyPlain
import Derived.WalkKit
namespace Go
namespace Rt
open Go.RowKit Go.Shelf Go.Sort Go.Proofs Go.Lib
section
variable{P:Program}{ρ:Ren}
theorem dM_(w:World)(dT sT ty elem:TypeId)(b o dLen dCap:Nat)(a:Addr)(sLen sCap c:Nat)(cs:List Value)
  (hu:P.underlying dT=some (.slice elem)) (hs:(P.info? elem).map (·.size)=some c) (hn:cs.length=Nat.min sLen dLen*c)
  (hsrc:∀j v,cs[j]? = some v->w.cell? (a.add j)=some v) (hc:∀j,j<cs.length->(w.cell? ⟨b,o+j,none⟩).isSome=true) (hf:∀j,j<cs.length->w.frozen? ⟨b,o+j,none⟩=false) (h1:∀v∈cs,v.oneCell'=true) :
  (Builtin.copy_ #[dT,sT] ty #[.slice (some ⟨b,o,none⟩) dLen dCap,.slice (some a) sLen sCap]).run P w = .ok (goInt ((Nat.min sLen dLen:Nat):Int)) (w.setCells b o cs):=by
 have hl:=run_loadCells_list (P:=P) w a cs hsrc;have hst:=run_storeCells_cells (P:=P) b o cs 0 w (by simpa using hc) (by simpa using hf) h1;cases hq:P.info? elem with
 | none=>simp[hq]at hs
 | some i =>
  have hi:i.size=c:=by simpa[hq]using hs
  simp[Builtin.copy_,run_underlying hu,Builtin.lenOf,Builtin.firstCells,sizeOf,typeInfo,hq,hi,←hn,hl,hst]
structure InsL(P:Program)(ρ:Ren)(c bytes:Nat)(zc:Array Value):Prop where
 mixed:P.follows .mixedOrders=true
 f22:Bears P (ρ.f 22) (Body2.n22 ρ)
 ov:∀args w,(callFunc (ρ.f 29) args).run P w=((Extern.SlicesOverlaps.overlaps #[(ρ.t 24),(ρ.t 24)] #[(ρ.t 4)] args).run P w).andThen λv w' => .ok (.value v) w'
 t0:P.underlying (ρ.t 0)=some (TypeDesc.tuple #[])
 a0:∀w,(isAgg (ρ.t 0)).run P w = .ok false w
 z0:∀w,(Go.sizeOf (ρ.t 0)).run P w = .ok 1 w
 v0:∀w,(zeroValue (ρ.t 0)).run P w = .ok (Value.tuple #[]) w
 t3:P.underlying (ρ.t 3)=some (TypeDesc.int IntKind.i64)
 a3:∀w,(isAgg (ρ.t 3)).run P w = .ok false w
 z3:∀w,(Go.sizeOf (ρ.t 3)).run P w = .ok 1 w
 v3:∀w,(zeroValue (ρ.t 3)).run P w = .ok (Value.int IntKind.i64 0) w
 t4:P.underlying (ρ.t 4)=some (TypeDesc.bool)
 a4:∀w,(isAgg (ρ.t 4)).run P w = .ok false w
 z4:∀w,(Go.sizeOf (ρ.t 4)).run P w = .ok 1 w
 v4:∀w,(zeroValue (ρ.t 4)).run P w = .ok (Value.bool false) w
 t24:P.underlying (ρ.t 24)=some (TypeDesc.slice (ρ.t 9))
 a24:∀w,(isAgg (ρ.t 24)).run P w = .ok false w
 z24:∀w,(Go.sizeOf (ρ.t 24)).run P w = .ok 1 w
 v24:∀w,(zeroValue (ρ.t 24)).run P w = .ok (Value.slice none 0 0) w
 z9:∀w,(Go.sizeOf (ρ.t 9)).run P w = .ok c w
 v9:∀w,(zeroValue (ρ.t 9)).run P w = .ok (.agg zc) w
 i9:(P.info? (ρ.t 9)).map (λi=>(i.zero,i.size,i.bytes))=some (some (.agg zc),c,bytes)
 zs:zc.size=c
 c0:0<c
 zo:∀v∈zc.toList,v.oneCell'=true
set_option maxHeartbeats 4000000 in
set_option maxRecDepth 1000000 in
theorem ins_shift{c bytes:Nat}{zc:Array Value}(L:InsL P ρ c bytes zc)(b off n cap i vb voff m vc:Nat)(cs vs:List Value)(w:World)(hi:i<n)(hm:0<m)(hroom:n+m<=cap)(hc63:cap<=9223372036854775807)(hvb:vb≠b)
  (hcl:cs.length=n*c) (hvl:vs.length=m*c)
  (hcs:∀j v,cs[j]? = some v->w.cell? ⟨b,off+j,none⟩=some v) (hsp:∀j,j<(n+m)*c->(w.cell? ⟨b,off+j,none⟩).isSome=true) (hfz:∀j,j<(n+m)*c->w.frozen? ⟨b,off+j,none⟩=false)
  (hvs:∀j v,vs[j]? = some v->w.cell? ⟨vb,voff+j,none⟩=some v) (h1c:∀v∈cs,v.oneCell'=true) (h1v:∀v∈vs,v.oneCell'=true)
  (tA tB:TypeId) (kA kB:Nat) (hsa:w.shape? vb=some (tA,kA)) (hsb:w.shape? b=some (tB,kB)) (hkB:kB≠0) (hfa:w.frozen? ⟨vb,voff,none⟩=false) (hfe:w.frozen? ⟨vb,kA,none⟩=false) :
  Calls P (ρ.f 22) #[.slice (some ⟨b,off,none⟩) n cap,.int .i64 i,.slice (some ⟨vb,voff,none⟩) m vc] w λe w' =>
   e = .returned (.slice (some ⟨b,off,none⟩) (n+m) cap)/\w'=(w.drew.setCells b (off+(i+m)*c) (cs.drop (i*c))).setCells b (off+i*c) vs:=by
 have t0:=L.t0;have a0:=L.a0;have z0:=L.z0;have v0:=L.v0;have t3:=L.t3;have a3:=L.a3;have z3:=L.z3;have v3:=L.v3;have t4:=L.t4;have a4:=L.a4;have z4:=L.z4;have v4:=L.v4;have z9:=L.z9;have t24:=L.t24;have a24:=L.a24;have z24:=L.z24;have v24:=L.v24;have u0:=run_underlying L.t0;have u3:=run_underlying L.t3;have u4:=run_underlying L.t4;have u24:=run_underlying L.t24;have hz1:¬((m:Int)=0):=by omega
 have hz2:¬((i:Int)=(n:Int)):=by omega
 have hsz:(P.info? (ρ.t 9)).map (·.size)=some c:=by
  obtain⟨i0,hi0,h0,h1,h2⟩:=info_parts L.i9;rw[hi0];simp[h1]
 have e1:(n+m)*c=n*c+m*c:=Nat.add_mul _ _ _;have e2:(i+m)*c=i*c+m*c:=Nat.add_mul _ _ _;have e3:(n-i)*c=n*c-i*c:=Nat.sub_mul _ _ _;have e4:i*c<=n*c:=Nat.mul_le_mul_right _ (Nat.le_of_lt hi);have hov:∀lb cb,(callFunc (ρ.f 29) #[.slice (some ⟨vb,voff,none⟩) m vc,.slice (some ⟨b,off+(i+m)*c,none⟩) lb cb]).run P w = .ok (.value (.bool false)) w:=λlb cb=>by
  rw[L.ov,Lib.run_overlaps_apart w (ρ.t 24) (ρ.t 4) (ρ.t 9) L.t24 c L.z9 ⟨vb,voff,none⟩ ⟨b,off+(i+m)*c,none⟩ m vc lb cb hvb tA tB kA kB hsa hsb hkB hfa hfe];rfl
 have hdl:(cs.drop (i*c)).length=(n-i)*c:=by rw[List.length_drop,hcl,e3]
 have mixed:=L.mixed;have hw1:IntKind.i64.wrap ((i:Int)+(m:Int))=(i:Int)+(m:Int):=by rw[IntKind.wrap_i64];omega
 have hb1:(0:Int)<=(i:Int)+(m:Int):=by omega
 have hin:i<=n:=by omega
 have htn:((i:Int)+(m:Int)).toNat=i+m:=by omega
 have hb2:¬(cap=i+m):=by omega
 have hb3:(i:Int)<=(n:Int)+(m:Int):=by omega
 have hb4:¬(cap=i):=by omega
 have hmin1:Nat.min (n+m-i) (n+m-(i+m))=n-i:=by simp only[Nat.min_def];split<;>omega
 have hmin2:Nat.min m (n+m-i)=m:=by simp only[Nat.min_def];split<;>omega
 have hcp1:∀ty dc sc,(Builtin.copy_ #[(ρ.t 24),(ρ.t 24)] ty #[.slice (some ⟨b,off+(i+m)*c,none⟩) (n+m-(i+m)) dc,.slice (some ⟨b,off+i*c,none⟩) (n+m-i) sc]).run P w.drew = .ok (goInt ((Nat.min (n+m-i) (n+m-(i+m)):Nat):Int)) (w.drew.setCells b (off+(i+m)*c) (cs.drop (i*c))):=λty dc sc =>
  dM_ w.drew _ _ ty (ρ.t 9) b (off+(i+m)*c) (n+m-(i+m)) dc ⟨b,off+i*c,none⟩ (n+m-i) sc c (cs.drop (i*c)) L.t24 hsz (by rw[hdl,hmin1])
   (λj v hj=>by rw[Addr.add_lit,Nat.add_assoc];exact hcs (i*c+j) v (by rwa [List.getElem?_drop]at hj))
   (λj hj=>by rw[hdl]at hj;rw[Nat.add_assoc];exact hsp _ (by omega)) (λj hj=>by rw[hdl]at hj;rw[Nat.add_assoc];exact hfz _ (by omega)) (λv hv=>h1c v (List.mem_of_mem_drop hv))
 obtain⟨W1,hW1⟩:∃W1,W1=w.drew.setCells b (off+(i+m)*c) (cs.drop (i*c)):=⟨_,rfl⟩;have hsp1:∀k,k<(n+m)*c->(W1.cell? ⟨b,off+k,none⟩).isSome=true:=λk hk=>by
  rw[hW1];exact isSome_setCells b _ _ _ (λj hj=>by rw[hdl]at hj;rw[Nat.add_assoc];exact hsp _ (by omega)) _ (hsp k hk)
 have hcp2:∀(W:World),(∀x,W.cell? x=W1.cell? x)->(∀x,W.frozen? x=W1.frozen? x)->∀ty dc,(Builtin.copy_ #[(ρ.t 24),(ρ.t 24)] ty #[.slice (some ⟨b,off+i*c,none⟩) (n+m-i) dc,.slice (some ⟨vb,voff,none⟩) m vc]).run P W = .ok (goInt ((Nat.min m (n+m-i):Nat):Int)) (W.setCells b (off+i*c) vs):=λW hWc hWf ty dc =>
  dM_ W _ _ ty (ρ.t 9) b (off+i*c) (n+m-i) dc ⟨vb,voff,none⟩ m vc c vs L.t24 hsz (by rw[hvl,hmin2])
   (λj v hj=>by
    rw[Addr.add_lit,hWc,hW1,World.cell?_setCells_out b _ _ _ _ (λh _=>absurd h hvb)];exact hvs j v hj)
   (λj hj=>by rw[hvl]at hj;rw[hWc,Nat.add_assoc];exact hsp1 _ (by omega)) (λj hj=>by rw[hvl]at hj;rw[hWf,hW1,World.frozen?_setCells,Nat.add_assoc];exact hfz _ (by omega)) h1v
 rw[←hW1]at hcp1;clear e1 e2 e3 e4;obtain⟨_,_,FG⟩:=L.f22
 go_enter FG,Body2.n22_ntmps ρ
 go_wp2_with (simp only[hov])
 go_region_law_o (refine step_copy_runI rfl _ _ (ρ.t 24) (ρ.t 24) rfl _ _ (by simp[Act.eval,Act.put]) (by simp[Act.eval,Act.put]) (hcp1 _ _ _) ?_)
 go_wp2_with (at_builtin;refine wpList_copy_runI _ rfl _ _ (ρ.t 24) (ρ.t 24) rfl _ _ rfl rfl (hcp2 _ (λ_=>rfl) (λ_=>rfl) _ _) ?_)
 go_ret
 first|exact⟨rfl,rfl⟩|exact⟨rfl,by rw[hW1]⟩
set_option maxHeartbeats 4000000 in
set_option maxRecDepth 1000000 in
theorem ins_end_room{c bytes:Nat}{zc:Array Value}(L:InsL P ρ c bytes zc)(b off n cap vb voff m vc:Nat)(vs:List Value)(w:World)(hm:0<m)(hroom:n+m<=cap)(_:cap<=9223372036854775807)
  (hvl:vs.length=m*c) (hsp:∀j,j<m*c->(w.cell? ⟨b,off+n*c+j,none⟩).isSome=true) (hfz:∀j,j<m*c->w.frozen? ⟨b,off+n*c+j,none⟩=false)
  (hvs:∀j v,vs[j]? = some v->w.cell? ⟨vb,voff+j,none⟩=some v) (h1v:∀v∈vs,v.oneCell'=true) :
  Calls P (ρ.f 22) #[.slice (some ⟨b,off,none⟩) n cap,.int .i64 n,.slice (some ⟨vb,voff,none⟩) m vc] w λe w' =>
   e = .returned (.slice (some ⟨b,off,none⟩) (n+m) cap)/\w'=w.setCells b (off+n*c) vs:=by
 have t0:=L.t0;have a0:=L.a0;have z0:=L.z0;have v0:=L.v0;have t3:=L.t3;have a3:=L.a3;have z3:=L.z3;have v3:=L.v3;have t4:=L.t4;have a4:=L.a4;have z4:=L.z4;have v4:=L.v4;have z9:=L.z9;have t24:=L.t24;have a24:=L.a24;have z24:=L.z24;have v24:=L.v24;have u0:=run_underlying L.t0;have u3:=run_underlying L.t3;have u4:=run_underlying L.t4;have u24:=run_underlying L.t24;have mixed:=L.mixed;have hz1:¬((m:Int)=0):=by omega
 obtain⟨i0,hi0,hz0,hzs,hzb⟩:=info_parts L.i9;subst hzs;have hsrc:Src P i0.size (ρ.t 24) (.slice (some ⟨vb,voff,none⟩) m vc) m vs w:=Src.ofSlice w L.t24 ⟨vb,voff,none⟩ m vc vs hvl (λj u hj=>by rw[Addr.add_lit];exact hvs j u hj) h1v;obtain⟨_,_,FG⟩:=L.f22
 go_enter FG,Body2.n22_ntmps ρ
 go_wp2_with (at_builtin;refine wpList_append_room_src _ rfl _ _ (ρ.t 24) (ρ.t 24) rfl (ρ.t 9) i0 L.t24 hi0 b off n cap rfl _ rfl m vs hsrc hroom (by rw[hvl];exact hsp) (by rw[hvl];exact hfz) ?_)
 go_ret
 exact⟨rfl,rfl⟩
set_option maxHeartbeats 4000000 in
set_option maxRecDepth 1000000 in
theorem kl_{c bytes:Nat}{zc:Array Value}(L:InsL P ρ c bytes zc)(base:Option Addr)(n cap vb voff m vc:Nat)(cs vs:List Value)(w:World)(hm:0<m)(hnc:n<=cap)(hroom:cap<n+m)(hbig:(n+m)*bytes<=140737488355328)(h63:n+m<=9223372036854775807)
  (hcl:cs.length=n*c) (hvl:vs.length=m*c) (hnil:base=none->n=0)
  (hcs:∀a,base=some a->∀j v,cs[j]? = some v->w.cell? (a.add j)=some v)
  (hvs:∀j v,vs[j]? = some v->w.cell? ⟨vb,voff+j,none⟩=some v) (h1v:∀v∈vs,v.oneCell'=true) :
  Calls P (ρ.f 22) #[.slice base n cap,.int .i64 n,.slice (some ⟨vb,voff,none⟩) m vc] w λe w' =>
   e = .returned (.slice (some ⟨w.heap.size,0,none⟩) (n+m) (grownCap w (n+m) cap (ρ.t 9))) /\
   w'=w.drew.alloc (.cells ((cs++vs).toArray++Builtin.zeroCells zc (grownCap w (n+m) cap (ρ.t 9)-(n+m))) (ρ.t 9)):=by
 have t0:=L.t0;have a0:=L.a0;have z0:=L.z0;have v0:=L.v0;have t3:=L.t3;have a3:=L.a3;have z3:=L.z3;have v3:=L.v3;have t4:=L.t4;have a4:=L.a4;have z4:=L.z4;have v4:=L.v4;have z9:=L.z9;have t24:=L.t24;have a24:=L.a24;have z24:=L.z24;have v24:=L.v24;have u0:=run_underlying L.t0;have u3:=run_underlying L.t3;have u4:=run_underlying L.t4;have u24:=run_underlying L.t24;have mixed:=L.mixed;obtain⟨i0,hi0,hz0,hzs,hzb⟩:=info_parts L.i9;subst hzs;have hz1:¬((m:Int)=0):=by omega
 have hsrc:Src P i0.size (ρ.t 24) (.slice (some ⟨vb,voff,none⟩) m vc) m vs w:=Src.ofSlice w L.t24 ⟨vb,voff,none⟩ m vc vs hvl (λj u hj=>by rw[Addr.add_lit];exact hvs j u hj) h1v;have hold:(Builtin.firstCells i0.size n (.slice base n cap)).run P w.drew = .ok cs.toArray w.drew:=by
  cases base with
  | none =>
   have h0:=hnil rfl;subst h0;have hc0:cs=[]:=List.length_eq_zero_iff.1 (by rw[hcl,Nat.zero_mul]);rw[hc0];exact run_firstCells_none w.drew i0.size 0 0 cap
  | some a=>exact run_firstCells_some w.drew i0.size n a n cap cs hcl (λj v hj=>hcs a rfl j v hj)
 have hrun:∀ty,(Builtin.append_ #[(ρ.t 24),(ρ.t 24)] ty #[.slice base n cap,.slice (some ⟨vb,voff,none⟩) m vc]).run P w=_:=λty =>
  run_append_grow_src w (ρ.t 24) (ρ.t 24) ty (ρ.t 9) i0 _ L.t24 hi0 hz0 base n cap cs hold _ m vs hsrc hroom (by omega) (by rw[hzb];exact growslice_fits hroom hbig)
 obtain⟨_,_,FG⟩:=L.f22
 go_enter FG,Body2.n22_ntmps ρ
 cases base with
 | none =>
  have h0:=hnil rfl;subst h0
  go_wp2_with (at_builtin;refine Lib.wpList_append_run _ rfl _ _ _ _ rfl _ _ rfl rfl _ _ (hrun _) ?_)
  go_ret
  exact⟨rfl,rfl⟩
 | some a =>
  obtain⟨ab,ao,asp⟩:=a
  go_wp2_with (at_builtin;refine Lib.wpList_append_run _ rfl _ _ _ _ rfl _ _ rfl rfl _ _ (hrun _) ?_)
  all_goals (go_ret;exact⟨rfl,rfl⟩)
set_option maxHeartbeats 4000000 in
set_option maxRecDepth 1000000 in
theorem ins_grow{c bytes:Nat}{zc:Array Value}(L:InsL P ρ c bytes zc)(b off n cap i vb voff m vc:Nat)(cs vs:List Value)(w:World)(hi:i<n)(hm:0<m)(hnc:n<=cap)(hroom:cap<n+m)(hbig:(n+m)*bytes<=140737488355328)(h63:n+m<=maxLen)
  (hcl:cs.length=n*c) (hvl:vs.length=m*c)
  (hcs:∀j v,cs[j]? = some v->w.cell? ⟨b,off+j,none⟩=some v)
  (hvs:∀j v,vs[j]? = some v->w.cell? ⟨vb,voff+j,none⟩=some v) (h1c:∀v∈cs,v.oneCell'=true) (h1v:∀v∈vs,v.oneCell'=true) :
  Calls P (ρ.f 22) #[.slice (some ⟨b,off,none⟩) n cap,.int .i64 i,.slice (some ⟨vb,voff,none⟩) m vc] w λe w' =>
   e = .returned (.slice (some ⟨w.heap.size,0,none⟩) (n+m) (grownCap w (n+m) cap (ρ.t 9))) /\
   w'=(((w.alloc (.cells ((cs.take (i*c)).toArray++Builtin.zeroCells zc (n+m-i)++Builtin.zeroCells zc (grownCap w (n+m) cap (ρ.t 9)-(n+m))) (ρ.t 9))).drew.setCells w.heap.size (i*c) vs).drew).setCells w.heap.size ((i+m)*c) (cs.drop (i*c)):=by
 have t0:=L.t0;have a0:=L.a0;have z0:=L.z0;have v0:=L.v0;have t3:=L.t3;have a3:=L.a3;have z3:=L.z3;have v3:=L.v3;have t4:=L.t4;have a4:=L.a4;have z4:=L.z4;have v4:=L.v4;have z9:=L.z9;have t24:=L.t24;have a24:=L.a24;have z24:=L.z24;have v24:=L.v24;have u0:=run_underlying L.t0;have u3:=run_underlying L.t3;have u4:=run_underlying L.t4;have u24:=run_underlying L.t24;have mixed:=L.mixed;have hc0:=L.c0;have hzsz:=L.zs;obtain⟨i0,hi0,hz0,hzs,hzb⟩:=info_parts L.i9;have hz1:¬((m:Int)=0):=by omega
 have hz2:¬((i:Int)=(n:Int)):=by omega
 have hz3:(cap:Int)<(n:Int)+(m:Int):=by omega
 have hsz:(P.info? (ρ.t 9)).map (·.size)=some c:=by rw[hi0];simp[hzs]
 have e1:(n+m)*c=n*c+m*c:=Nat.add_mul _ _ _;have e2:(i+m)*c=i*c+m*c:=Nat.add_mul _ _ _;have e3:(n-i)*c=n*c-i*c:=Nat.sub_mul _ _ _;have e4:i*c<=n*c:=Nat.mul_le_mul_right _ (Nat.le_of_lt hi);have e5:0<n*c:=Nat.mul_pos (by omega) hc0;have e6:0<m*c:=Nat.mul_pos hm hc0;have hbw:b<w.heap.size:=block_lt_of_cell (hcs 0 _ (List.getElem?_eq_getElem (by omega)));have hvw:vb<w.heap.size:=block_lt_of_cell (hvs 0 _ (List.getElem?_eq_getElem (by omega)));have hkk:(n:Int)+(m:Int)-(i:Int)=((n+m-i:Nat):Int):=by omega
 have hik:i+(n+m-i)=n+m:=by omega
 have hold:(Builtin.firstCells i0.size i (.slice (some ⟨b,off,none⟩) i cap)).run P w.drew = .ok (cs.take (i*c)).toArray w.drew:=by
  rw[hzs];exact run_firstCells_some w.drew c i ⟨b,off,none⟩ i cap (cs.take (i*c)) (by rw[List.length_take];omega) (λj v hj=>by
   rw[Addr.add_lit];rw[List.getElem?_take]at hj;split at hj
   .exact hcs j v hj
   .cases hj)
 have hb48:(n+m-i)*bytes<=(n+m)*bytes:=Nat.mul_le_mul_right _ (Nat.sub_le _ _);have hrz:∀ty,(Builtin.append_ #[(ρ.t 24),(ρ.t 3)] ty #[.slice (some ⟨b,off,none⟩) i cap,.int .i64 ((n:Int)+(m:Int)-(i:Int))]).run P w =
   .ok (.slice (some ⟨w.heap.size,0,none⟩) (n+m) (grownCap w (n+m) cap (ρ.t 9))) (w.drew.alloc (.cells ((cs.take (i*c)).toArray++Builtin.zeroCells zc (n+m-i)++Builtin.zeroCells zc (grownCap w (n+m) cap (ρ.t 9)-(n+m))) (ρ.t 9))):=λty=>by
  have h:=Lib.run_append_grow_zeros w (ρ.t 24) (ρ.t 3) ty (ρ.t 9) i0 _ .i64 .i64 L.t24 L.t3 hi0 hz0 (some ⟨b,off,none⟩) i cap (cs.take (i*c)) hold (n+m-i) (by omega) (by omega) (by omega) (by unfold maxLen at h63;omega) (by rw[hzb];omega) (by rw[hzb,hik];exact growslice_fits hroom hbig);rw[hik]at h;rw[hkk];exact h
 obtain⟨G,hG⟩:∃G,G=grownCap w (n+m) cap (ρ.t 9):=⟨_,rfl⟩;obtain⟨ROW,hROW⟩:∃ROW:Array Value,ROW=(cs.take (i*c)).toArray++Builtin.zeroCells zc (n+m-i)++Builtin.zeroCells zc (G-(n+m)):=⟨_,rfl⟩;rw[←hG]at hrz ⊢;rw[←hROW]at hrz ⊢;have hRl:(n+m)*c<=ROW.size:=by
  have f1:(n+m-i)*c=(n+m)*c-i*c:=Nat.sub_mul _ _ _;rw[hROW];simp only[Array.size_append,List.size_toArray,List.length_take,hcl,Builtin.zeroCells,Array.size_map,Array.size_range,hzsz,f1];omega
 obtain⟨W1,hW1⟩:∃W1,W1=w.drew.alloc (.cells ROW (ρ.t 9)):=⟨_,rfl⟩;rw[←hW1]at hrz;have hN:∀j,j<(n+m)*c->(W1.cell? ⟨w.heap.size,j,none⟩).isSome=true:=λj hj=>by
  rw[hW1,World.cell?_alloc_at (w:=w.drew) ROW _ w.heap.size j rfl,Array.getElem?_eq_getElem (by omega)];rfl
 have hNf:∀j,W1.frozen? ⟨w.heap.size,j,none⟩=false:=λj=>by rw[hW1];exact World.frozen?_alloc_at (w:=w.drew) ROW _ w.heap.size j rfl
 have hOb:∀j v,w.cell? ⟨b,j,none⟩=some v->W1.cell? ⟨b,j,none⟩=some v:=λj v h=>by rw[hW1,World.cell?_alloc_past (w:=w.drew) _ b j hbw];exact h
 have hOv:∀j v,w.cell? ⟨vb,j,none⟩=some v->W1.cell? ⟨vb,j,none⟩=some v:=λj v h=>by rw[hW1,World.cell?_alloc_past (w:=w.drew) _ vb j hvw];exact h
 have hmin1:Nat.min m (n+m-i)=m:=by simp only[Nat.min_def];split<;>omega
 have hmin2:Nat.min (n-i) (n+m-(i+m))=n-i:=by simp only[Nat.min_def];split<;>omega
 have hcpA:∀(W:World),(∀x,W.cell? x=W1.cell? x)->(∀x,W.frozen? x=W1.frozen? x)->∀ty dc,(Builtin.copy_ #[(ρ.t 24),(ρ.t 24)] ty #[.slice (some ⟨w.heap.size,i*c,none⟩) (n+m-i) dc,.slice (some ⟨vb,voff,none⟩) m vc]).run P W = .ok (goInt ((Nat.min m (n+m-i):Nat):Int)) (W.setCells w.heap.size (i*c) vs):=λW hWc hWf ty dc =>
  dM_ W _ _ ty (ρ.t 9) w.heap.size (i*c) (n+m-i) dc ⟨vb,voff,none⟩ m vc c vs L.t24 hsz (by rw[hvl,hmin1])
   (λj v hj=>by rw[Addr.add_lit,hWc];exact hOv _ v (hvs j v hj))
   (λj hj=>by rw[hvl]at hj;rw[hWc];exact hN _ (by omega)) (λj hj=>by rw[hWf];exact hNf _) h1v
 have hGn:n+m<=G:=by rw[hG];exact grownCap_ge w _ _ _
 have hG63:G<=9223372036854775807:=by
  have:=grownCap_le_maxLen w (n+m) cap (ρ.t 9) h63;rw[←hG]at this;unfold maxLen at this;omega
 have hGi:¬(G=i):=by omega
 have hGim:¬(G=i+m):=by omega
 have hci:¬(cap=i):=by omega
 have hbN:b≠w.heap.size:=by omega
 have hdl:(cs.drop (i*c)).length=(n-i)*c:=by rw[List.length_drop,hcl,e3]
 have hcpB:∀(W:World),(∀x,W.cell? x=(W1.setCells w.heap.size (i*c) vs).cell? x)->(∀x,W.frozen? x=(W1.setCells w.heap.size (i*c) vs).frozen? x)->∀ty dc sc,(Builtin.copy_ #[(ρ.t 24),(ρ.t 24)] ty #[.slice (some ⟨w.heap.size,(i+m)*c,none⟩) (n+m-(i+m)) dc,.slice (some ⟨b,off+i*c,none⟩) (n-i) sc]).run P W = .ok (goInt ((Nat.min (n-i) (n+m-(i+m)):Nat):Int)) (W.setCells w.heap.size ((i+m)*c) (cs.drop (i*c))):=λW hWc hWf ty dc sc =>
  dM_ W _ _ ty (ρ.t 9) w.heap.size ((i+m)*c) (n+m-(i+m)) dc ⟨b,off+i*c,none⟩ (n-i) sc c (cs.drop (i*c)) L.t24 hsz (by rw[hdl,hmin2])
   (λj v hj=>by
    rw[Addr.add_lit,hWc,World.cell?_setCells_out _ _ _ _ _ (λh _=>absurd h hbN),Nat.add_assoc];exact hOb _ v (hcs (i*c+j) v (by rwa [List.getElem?_drop]at hj)))
   (λj hj=>by rw[hdl]at hj;rw[hWc];exact isSome_setCells _ _ _ _ (λt ht=>hN _ (by omega)) _ (hN _ (by omega)))
   (λj hj=>by rw[hWf,World.frozen?_setCells];exact hNf _) (λv hv=>h1c v (List.mem_of_mem_drop hv))
 subst hW1;have hE1:∀x,((w.alloc (.cells ROW (ρ.t 9))).drew).cell? x=(w.drew.alloc (.cells ROW (ρ.t 9))).cell? x:=λx=>rfl
 have hE2:∀x,((w.alloc (.cells ROW (ρ.t 9))).drew).frozen? x=(w.drew.alloc (.cells ROW (ρ.t 9))).frozen? x:=λx=>rfl
 have hF1:∀x,(((w.alloc (.cells ROW (ρ.t 9))).drew.setCells w.heap.size (i*c) vs).drew).cell? x=((w.drew.alloc (.cells ROW (ρ.t 9))).setCells w.heap.size (i*c) vs).cell? x:=λx=>rfl
 have hF2:∀x,(((w.alloc (.cells ROW (ρ.t 9))).drew.setCells w.heap.size (i*c) vs).drew).frozen? x=((w.drew.alloc (.cells ROW (ρ.t 9))).setCells w.heap.size (i*c) vs).frozen? x:=λx=>rfl
 have hw1:IntKind.i64.wrap ((i:Int)+(m:Int))=(i:Int)+(m:Int):=by rw[IntKind.wrap_i64];omega
 have hb1:(0:Int)<=(i:Int)+(m:Int):=by omega
 have hin:i<=n:=by omega
 have htn:((i:Int)+(m:Int)).toNat=i+m:=by omega
 have hb3:(i:Int)<=(n:Int):=by omega
 clear hkk hik hold hROW hG hRl e1 e2 e3 e4 e5 e6 hb48;obtain⟨_,_,FG⟩:=L.f22
 go_enter FG,Body2.n22_ntmps ρ
 go_wp2_with (first
  | (at_builtin;refine Lib.wpList_append_run _ rfl _ _ _ _ rfl _ _ rfl rfl _ _ (hrz _) ?_)
  | (at_builtin;refine wpList_copy_runI _ rfl _ _ (ρ.t 24) (ρ.t 24) rfl _ _ rfl rfl (hcpA _ hE1 hE2 _ _) ?_)
  | (at_builtin;refine wpList_copy_runI _ rfl _ _ (ρ.t 24) (ρ.t 24) rfl _ _ rfl rfl (hcpB _ (λ_=>rfl) (λ_=>rfl) _ _ _) ?_))
 go_region_law_o (refine step_copy_runI rfl _ _ (ρ.t 24) (ρ.t 24) rfl (.slice (some ⟨w.heap.size,(i+m)*c,none⟩) (n+m-(i+m)) (G-(i+m))) (.slice (some ⟨b,off+i*c,none⟩) (n-i) (cap-i)) (by simp[Act.eval,Act.put]) (by simp[Act.eval,Act.put]) (hcpB _ hF1 hF2 (ρ.t 3) (G-(i+m)) (cap-i)) ?_)
 go_wp2
 go_ret
 exact⟨rfl,rfl⟩
end
section
variable{P:Program}{E:TE}{z:Fz}{g:Ga}{w w' w0:World}{Bs:List Nat}{F0:Nat->Prop}
def RowC(w:World)(e:TypeId)(c n:Nat)(X:List Value)(A:Option Addr)(cap:Nat):Prop:=(A=none/\cap=0/\n=0/\X=[])\/∃(b:Nat) (cs:List Value),A=some ⟨b,0,none⟩/\w.heap[b]? = some (.cells cs.toArray e (0,0))/\n<=cap/\cap<=maxLen/\cs.length=cap*c/\cs.take (n*c)=X
theorem RowC.len{e:TypeId}{c n cap:Nat}{X:List Value}{A:Option Addr}(h:RowC w e c n X A cap):X.length=n*c:=by
 rcases h with⟨_,_,rfl,rfl⟩|⟨b,cs,_,_,h1,_,h3,rfl⟩
 .simp
 .rw[List.length_take,h3,Nat.min_eq_left];exact Nat.mul_le_mul_right _ h1
theorem RowC.cell{e:TypeId}{c n b cap:Nat}{X:List Value}(h:RowC w e c n X (some ⟨b,0,none⟩) cap){j:Nat}{v:Value}(hj:X[j]? = some v):w.cell? ⟨b,0+j,none⟩=some v:=by
 rcases h with⟨h,_⟩|⟨b',cs,h0,hh,h1,h2,h3,h4⟩
 .cases h
 .injection h0 with h0;injection h0 with h0;subst h0;rw[Nat.zero_add,cell_of_row w b j _ e (0,0) hh];rw[←h4,List.getElem?_take]at hj;split at hj
  .simpa using hj
  .cases hj
theorem cs_{cs vs:List Value}{o:Nat}(h:o+vs.length<=cs.length):(splice cs o vs).length=cs.length:=by
 unfold splice;simp only[qLa,List.length_take,List.length_drop];omega
theorem mB_{cs vs us X:List Value}{o p q:Nat}(h1:o+vs.length=p)(h2:p+us.length=q)(hq:q<=cs.length)(hX:cs.take o=X) :
  (splice (splice cs o vs) p us).take q=X++(vs++us)/\(splice (splice cs p us) o vs).take q=X++(vs++us):=by
 subst h1;subst h2;have hXl:X.length=o:=by rw[←hX,List.length_take];omega
 constructor
 .unfold splice;have e1:(cs.take o++vs++cs.drop (o+vs.length)).take (o+vs.length)=X++vs:=by
   rw[hX,List.take_append_of_le_length (by simp only[qLa];omega),List.take_of_length_le (by simp only[qLa];omega)]
  rw[e1,List.take_append_of_le_length (by simp only[qLa];omega),List.take_of_length_le (by simp only[qLa];omega),List.append_assoc]
 .unfold splice;have e1:(cs.take (o+vs.length)++us++cs.drop (o+vs.length+us.length)).take o=X:=by
   rw[List.append_assoc,List.take_append_of_le_length (by simp only[List.length_take];omega),List.take_take,Nat.min_eq_left (by omega),hX]
  have e2:(cs.take (o+vs.length)++us++cs.drop (o+vs.length+us.length)).drop (o+vs.length)=us++cs.drop (o+vs.length+us.length):=by
   rw[List.append_assoc];exact List.drop_left' (by simp only[List.length_take];omega)
  rw[e1,e2,←List.append_assoc,List.take_append_of_le_length (by simp only[qLa];omega),List.take_of_length_le (by simp only[qLa];omega),List.append_assoc]
set_option maxHeartbeats 1000000 in
theorem insertM_run{ρ:Ren}{c bytes:Nat}{zc:Array Value}(L:InsL P ρ c bytes zc){n m:Nat}{X Y:List Value}{A:Option Addr}{cap vb vc:Nat}{i:Nat}(hx:RowC w (ρ.t 9) c n X A cap)(hy:RowC w (ρ.t 9) c m Y (some ⟨vb,0,none⟩) vc)(hX1:∀v∈X,v.oneCell'=true)(hY1:∀v∈Y,v.oneCell'=true)(hm:0<m)(hi:i<=n)(hbig:(n+m)*bytes<=140737488355328)(hml:n+m<=maxLen)(hap:¬aZ_ A vb) :
  Ret P (ρ.f 22) #[.slice A n cap,.int .i64 (i:Int),.slice (some ⟨vb,0,none⟩) m vc] w λv w'=>∃A' cap',v = .slice A' (n+m) cap'/\RowC w' (ρ.t 9) c (n+m) (X.take (i*c)++(Y++X.drop (i*c))) A' cap'/\Grow w w'/\(∀k,k<w.heap.size->¬aZ_ A k->w'.heap[k]? = w.heap[k]?)/\∀k,aZ_ A' k->aZ_ A k\/w.heap.size<=k:=by
 have hXl:=hx.len;have hYl:=hy.len;have hyc:=λj v (h:Y[j]? = some v)=>hy.cell h
 have e1:(n+m)*c=n*c+m*c:=Nat.add_mul _ _ _;have e2:(i+m)*c=i*c+m*c:=Nat.add_mul _ _ _;have e4:i*c<=n*c:=Nat.mul_le_mul_right _ hi;have h63:n+m<=9223372036854775807:=by unfold maxLen at hml;omega
 have hzl:∀k,(Builtin.zeroCells zc k).size=k*c:=λk=>by simp[Builtin.zeroCells,L.zs]
 have hzl':∀k,(Builtin.zeroCells zc k).toList.length=k*c:=λk=>by rw[Array.length_toList,hzl]
 rcases hx with⟨rfl,rfl,rfl,rfl⟩|⟨b,cs,rfl,hh,h1,h2,h3,h4⟩
 .obtain rfl:i=0:=by omega
  have:=kl_ L none 0 0 vb 0 m vc [] Y w hm (Nat.le_refl _) (by omega) hbig h63 (by simp) hYl (λ_=>rfl) (λ_ h=>nomatch h) hyc hY1;obtain⟨G,hG⟩:∃G,G=grownCap w (0+m) 0 (ρ.t 9):=⟨_,rfl⟩;have hGn:0+m<=G:=by rw[hG];exact grownCap_ge w _ _ _
  have hGm:G<=maxLen:=by rw[hG];exact grownCap_le_maxLen _ _ _ _ hml
  rw[←hG]at this;have f1:(G-(0+m))*c=G*c-(0+m)*c:=Nat.sub_mul _ _ _;have f2:(0+m)*c<=G*c:=Nat.mul_le_mul_right _ hGn;refine Calls.mono this λe w' ⟨he,hw⟩=>⟨_,he,some ⟨w.heap.size,0,none⟩,G,rfl,?_,?_,λk hk _ => ?_,λk ⟨a,ha,hk⟩ => ?_⟩
  .subst hw;refine .inr ⟨w.heap.size,Y++(Builtin.zeroCells zc (G-(0+m))).toList,rfl,?_,hGn,hGm,?_,?_⟩
   .refine(MapKept.heap_alloc w.drew _).1.trans ?_
    congr 3;apply Array.ext';simp
   .rw[qLa,hzl',hYl,f1];omega
   .rw[List.take_append_of_le_length (by rw[hYl];omega),List.take_of_length_le (by rw[hYl];omega)];simp
  .subst hw;exact mA_ _
  .subst hw;exact(MapKept.heap_alloc w.drew _).2 k hk
  .obtain rfl:=qSj ha;exact .inr (by subst hk;exact Nat.le_refl _)
 .have hbw:b<w.heap.size:=by
   rcases Nat.lt_or_ge b w.heap.size with h'|h'
   .exact h'
   .rw[Array.getElem?_eq_none h']at hh;cases hh
  have hxc:∀j v,X[j]? = some v->w.cell? ⟨b,0+j,none⟩=some v:=λj v h=>RowC.cell (.inr ⟨b,cs,rfl,hh,h1,h2,h3,h4⟩) h
  have hvb:vb≠b:=λh=>hap ⟨_,rfl,h⟩
  have hsome:∀j,j<cap*c->(w.cell? ⟨b,0+j,none⟩).isSome=true:=λj hj=>by
   rw[Nat.zero_add,row_cell hh,List.getElem?_eq_getElem (by omega)];rfl
  have hfz:∀j,w.frozen? ⟨b,j,none⟩=false:=λj=>row_free hh j
  have hkk:∀{w':World},(∀k,k≠b->w'.heap[k]? = w.heap[k]?)->∀k,k<w.heap.size->¬aZ_ (some ⟨b,0,none⟩) k->w'.heap[k]? = w.heap[k]? := λh k _ hk=>h k λe=>hk ⟨_,rfl,e⟩
  have hcap63:cap<=9223372036854775807:=by unfold maxLen at h2;omega
  have hti:cs.take (i*c)=X.take (i*c):=by rw[←h4,List.take_take,Nat.min_eq_left e4]
  have hdl:(X.drop (i*c)).length=n*c-i*c:=by rw[List.length_drop,hXl]
  rcases Nat.lt_or_ge i n with hlt|hge
  .rcases Nat.lt_or_ge cap (n+m)with hroom|hroom
   .have:=ins_grow L b 0 n cap i vb 0 m vc X Y w hlt hm h1 hroom hbig hml hXl hYl hxc hyc hX1 hY1;obtain⟨G,hG⟩:∃G,G=grownCap w (n+m) cap (ρ.t 9):=⟨_,rfl⟩;have hGn:n+m<=G:=by rw[hG];exact grownCap_ge w _ _ _
    have hGm:G<=maxLen:=by rw[hG];exact grownCap_le_maxLen _ _ _ _ hml
    rw[←hG]at this;have f1:(G-(n+m))*c=G*c-(n+m)*c:=Nat.sub_mul _ _ _;have f2:(n+m)*c<=G*c:=Nat.mul_le_mul_right _ hGn;have f3:(n+m-i)*c=(n+m)*c-i*c:=Nat.sub_mul _ _ _;obtain⟨row,hrow⟩:∃row:List Value,row.toArray=(X.take (i*c)).toArray++Builtin.zeroCells zc (n+m-i)++Builtin.zeroCells zc (G-(n+m)):=⟨_,Array.toArray_toList⟩;have hrl:row.length=G*c:=by
     have:=congrArg Array.size hrow;simp only[List.size_toArray,Array.size_append,List.length_take,hXl,hzl,f1,f3]at this;omega
    have hrt:row.take (i*c)=X.take (i*c):=by
     have:=congrArg Array.toList hrow;simp only[Array.toList_append,List.append_assoc]at this;rw[this,List.take_append_of_le_length (by simp only[List.length_take,hXl];omega),List.take_of_length_le (by simp only[List.length_take,hXl];omega)]
    rw[←hrow]at this;refine Calls.mono this λe w' ⟨he,hw⟩ => ?_
    have a1:=MapKept.heap_alloc w (.cells row.toArray (ρ.t 9));obtain⟨a2,a3,a4⟩:=dg_ (b:=w.heap.size) (e:=ρ.t 9) Y (i*c) row ((w.alloc (.cells row.toArray (ρ.t 9))).drew) a1.1 (by omega);obtain⟨a5,a6,a7⟩:=dg_ (b:=w.heap.size) (e:=ρ.t 9) (X.drop (i*c)) ((i+m)*c) _ (((w.alloc (.cells row.toArray (ρ.t 9))).drew.setCells w.heap.size (i*c) Y).drew) a2 (by rw[cs_ (by omega),hdl];omega);rw[←hw]at a5 a6 a7;refine⟨_,he,some ⟨w.heap.size,0,none⟩,G,rfl,.inr ⟨w.heap.size,_,rfl,a5,hGn,hGm,?_,?_⟩,?_,λk hk _ => ?_,λk ⟨a,ha,hk⟩ => ?_⟩
    .rw[cs_ (by rw[cs_ (by omega),hdl];omega),cs_ (by omega),hrl]
    .exact(mB_ (by omega) (by rw[hdl];omega) (by omega) hrt).1
    .exact(Grow.of_below (Ext.one w _).below).trans ((show Grow (w.alloc _) (w.alloc _).drew from⟨rfl,rfl,rfl,Nat.le_refl _⟩).trans (a3.trans ((show Grow (World.setCells _ _ _ _) (World.setCells _ _ _ _).drew from⟨rfl,rfl,rfl,Nat.le_refl _⟩).trans a6)))
    .have hne:k≠w.heap.size:=by omega
     exact(a7 k hne).trans ((a4 k hne).trans (a1.2 k hk))
    .obtain rfl:=qSj ha;exact .inr (by subst hk;exact Nat.le_refl _)
   .have hcc:(n+m)*c<=cap*c:=Nat.mul_le_mul_right _ hroom;have hy':=hy;rcases hy' with⟨h,_⟩|⟨vb',vs,e0,hvh,v1,v2,v3,v4⟩
    .cases h
    .injection e0 with e0;injection e0 with e0;subst e0;have hsh:∀{q:Nat} {l:List Value},w.heap[q]? = some (.cells l.toArray (ρ.t 9) (0,0))->w.shape? q=some (ρ.t 9,l.length):=λh=>by unfold World.shape?;simp[h]
     have hfz2:∀j,w.frozen? ⟨vb,j,none⟩=false:=λj=>row_free hvh j
     have hc0:=L.c0;have e5:0<m*c:=Nat.mul_pos hm hc0;have:=ins_shift L b 0 n cap i vb 0 m vc X Y w hlt hm hroom hcap63 hvb hXl hYl hxc (λj hj=>hsome j (by omega)) (λj _=>hfz _) hyc hX1 hY1 _ _ _ _ (hsh hvh) (hsh hh) (by omega) (hfz2 _) (hfz2 _);refine Calls.mono this λe w' ⟨he,hw⟩ => ?_
     obtain⟨a2,a3,a4⟩:=dg_ (b:=b) (e:=ρ.t 9) (X.drop (i*c)) (0+(i+m)*c) cs w.drew hh (by rw[hdl];omega);obtain⟨a5,a6,a7⟩:=dg_ (b:=b) (e:=ρ.t 9) Y (0+i*c) _ _ a2 (by rw[cs_ (by rw[hdl];omega)];omega);rw[←hw]at a5 a6 a7;rw[Nat.zero_add,Nat.zero_add]at a5;refine⟨_,he,some ⟨b,0,none⟩,cap,rfl,.inr ⟨b,_,rfl,a5,hroom,h2,?_,?_⟩,?_,hkk λk hk => ?_,λk hk => .inl hk⟩
     .rw[cs_ (by rw[cs_ (by rw[hdl];omega)];omega),cs_ (by rw[hdl];omega),h3]
     .exact(mB_ (by omega) (by rw[hdl];omega) (by omega) hti).2
     .exact(show Grow w w.drew from⟨rfl,rfl,rfl,Nat.le_refl _⟩).trans (a3.trans a6)
     .exact(a7 k hk).trans (a4 k hk)
  .obtain rfl:i=n:=by omega
   have hXX:X.take (i*c)=X:=List.take_of_length_le (by omega);have hXd:X.drop (i*c)=[]:=List.drop_eq_nil_of_le (by omega);rw[hXX,hXd,List.append_nil];rcases Nat.lt_or_ge cap (i+m)with hroom|hroom
   .have:=kl_ L (some ⟨b,0,none⟩) i cap vb 0 m vc X Y w hm h1 hroom hbig h63 hXl hYl (λh=>nomatch h) (λa ha j v hj=>by obtain rfl:=qSj ha;rw[Addr.add_lit];exact hxc j v hj) hyc hY1;obtain⟨G,hG⟩:∃G,G=grownCap w (i+m) cap (ρ.t 9):=⟨_,rfl⟩;have hGn:i+m<=G:=by rw[hG];exact grownCap_ge w _ _ _
    have hGm:G<=maxLen:=by rw[hG];exact grownCap_le_maxLen _ _ _ _ hml
    rw[←hG]at this;have f1:(G-(i+m))*c=G*c-(i+m)*c:=Nat.sub_mul _ _ _;have f2:(i+m)*c<=G*c:=Nat.mul_le_mul_right _ hGn;refine Calls.mono this λe w' ⟨he,hw⟩=>⟨_,he,some ⟨w.heap.size,0,none⟩,G,rfl,?_,?_,λk hk _ => ?_,λk ⟨a,ha,hk⟩ => ?_⟩
    .subst hw;refine .inr ⟨w.heap.size,X++Y++(Builtin.zeroCells zc (G-(i+m))).toList,rfl,?_,hGn,hGm,?_,?_⟩
     .refine(MapKept.heap_alloc w.drew _).1.trans ?_
      congr 3;apply Array.ext';simp
     .rw[qLa,qLa,hzl',hYl,hXl,f1];omega
     .rw[List.take_append_of_le_length (by rw[qLa,hYl,hXl];omega),List.take_of_length_le (by rw[qLa,hYl,hXl];omega)]
    .subst hw;exact mA_ _
    .subst hw;exact(MapKept.heap_alloc w.drew _).2 k hk
    .obtain rfl:=qSj ha;exact .inr (by subst hk;exact Nat.le_refl _)
   .have hcc:(i+m)*c<=cap*c:=Nat.mul_le_mul_right _ hroom;have:=ins_end_room L b 0 i cap vb 0 m vc Y w hm hroom hcap63 hYl (λj hj=>by rw[Nat.add_assoc];exact hsome _ (by omega)) (λj _=>hfz _) hyc hY1;refine Calls.mono this λe w' ⟨he,hw⟩ => ?_
    obtain⟨a2,a3,a4⟩:=dg_ (b:=b) (e:=ρ.t 9) Y (0+i*c) cs w hh (by omega);rw[←hw]at a2 a3 a4;rw[Nat.zero_add]at a2;refine⟨_,he,some ⟨b,0,none⟩,cap,rfl,.inr ⟨b,_,rfl,a2,hroom,h2,?_,?_⟩,a3,hkk a4,λk hk => .inl hk⟩
    .rw[cs_ (by omega),h3]
    .unfold splice;rw[List.take_append_of_le_length (by simp only[qLa,List.length_take];omega),List.take_of_length_le (by simp only[qLa,List.length_take];omega),h4]
theorem rowC_of{id:Nat}{e:TypeId}{t:Ty}{xs:List (Den E.S t)}{c:Nat}(h:ObjR P E z g w id (.row e t xs []))(hc:E.size t=c) :
  ∃l rows,g id=some l/\l.n=xs.length/\RowC w e c xs.length rows.flatten l.A l.cap/\rows.length=xs.length/\(∀r∈rows,r.length=c)/\Rows E z t xs rows:=by
 obtain⟨l,rows,h1,hn,hc',hown,hlen,hrl,hrows,_⟩:=h;rw[hc']at hown hrl;rw[hc]at hown hrl;refine⟨l,rows,h1,hn,?_,hlen.trans hn,hrl,hrows⟩;rcases hown.2 with⟨hv,hn0⟩|⟨b,cap,cur,hv,_,hh,hnc,hcm,hcs,htk⟩
 .injection hv with e1 e2 e3;have:rows=[]:=List.length_eq_zero_iff.1 (by omega);exact .inl ⟨e1,e3,by omega,by rw[this];rfl⟩
 .injection hv with e1 _ e3;exact .inr ⟨b,cur.toList,e1,by simpa using hh,by omega,by omega,by simpa[e3]using hcs,by rw[←hn];exact htk⟩
theorem rowC_mk{id:Nat}{e:TypeId}{t:Ty}{xs:List (Den E.S t)}{c cap:Nat}{A:Option Addr}{rows:List (List Value)}(h:RowC w e c xs.length rows.flatten A cap)(hg:g id=some ⟨A,xs.length,cap,c,0,0⟩)(hc:E.size t=c)(hl:rows.length=xs.length)(hr:∀r∈rows,r.length=c)(hrows:Rows E z t xs rows) :
  ObjR P E z g w id (.row e t xs []):=by
 refine⟨_,rows,hg,rfl,hc.symm,⟨h.len ▸ ?_,?_⟩,hl,hr,hrows,λp hp=>nomatch hp⟩
 .rfl
 .rcases h with⟨rfl,rfl,h0,_⟩|⟨b,cs,rfl,hh,h1,h2,h3,h4⟩
  .exact .inl ⟨by rw[h0],h0⟩
  .exact .inr ⟨b,cap,cs.toArray,rfl,Nat.zero_le _,hh,h1,h2,by simpa using h3,h4⟩
def conInsM(E:TE)(t:Ty)(e:TypeId)(bytes:Nat):Con E:=ae_ E [.g (.sl t) [some e],.d (.int .i64),.g (.sl t) [some e]] [(.sl t,[some e])] true λa=>insN (α:=Den E.S t) bytes a.1 a.2.1 a.2.2.1
theorem conInsM_ok{ρ:Ren}{c bytes:Nat}{zc:Array Value}{t:Ty}(L:InsL P ρ c bytes zc)(hby:0<bytes)(hsz:E.size t=c):Con.OK P E (ρ.f 22) (conInsM E t (ρ.t 9) bytes):=by
 intro R a k r hr;obtain⟨y,h1,h2⟩:=bind_some hr;refine⟨_,_,h2,?_⟩;obtain⟨xs,i,ys,u⟩:=a;obtain⟨hm,hi0,hi1,hbig,rfl⟩:=insN_some (show insN (α:=Den E.S t) bytes xs i ys=some y from h1);intro w z g Bs svs vs hav hH hfr hv;obtain rfl:=qSj (show some [V1.one (.own 0),.one (.dt (.int .i64) i),.one (.own 1)]=some svs from hav);cases hv with
 | cons v1 hv=>cases hv with
  | cons v2 hv=>cases hv with
   | cons v3 hv =>
    cases hv
    have hx:=hH.hold 0 (.row (ρ.t 9) t xs []) rfl;have hy:=hH.hold 1 (.row (ρ.t 9) t ys []) rfl;obtain⟨l0,rows,g0,n0,r0,hl0,hrl0,hrows0⟩:=rowC_of hx hsz;obtain⟨l1,news,g1,n1,r1,hl1,hrl1,hrows1⟩:=rowC_of hy hsz;obtain⟨l0',e0,rfl⟩:=v1;rw[g0]at e0;obtain rfl:=qSj e0;obtain⟨l1',e1,rfl⟩:=v3;rw[g1]at e1;obtain rfl:=qSj e1;obtain⟨vs2,e2,_⟩:=RD.int_inv (show RD E z [.int .i64] (i,()) _ from v2);obtain⟨rfl,_⟩:=List.cons.inj e2;obtain⟨i,rfl⟩:∃q:Nat,i=(q:Int):=⟨Int.toNat i,(Int.toNat_of_nonneg hi0).symm⟩;simp only[Int.toNat_natCast];have hin:i<=xs.length:=by omega
    have hml:xs.length+ys.length<=maxLen:=by
     have:xs.length+ys.length<=(xs.length+ys.length)*bytes:=Nat.le_mul_of_pos_right _ hby;unfold maxLen;omega
    rcases r1 with⟨_,_,h0,_⟩|r1'
    .omega
    .have r1'':=r1';obtain⟨vb,cs,hA1,_⟩:=r1'';have hap:¬aZ_ l0.A vb:=λ⟨a0,ha0,hb0⟩=>hH.apart 0 1 _ _ vb (by decide) rfl rfl ⟨l0,a0,g0,ha0,hb0⟩ ⟨l1,_,g1,hA1,rfl⟩
     have hrun:=insertM_run L r0 (by rw[←hA1];exact .inr r1') (g5_ (hrows0.cells hl0).1) (g5_ (hrows1.cells hl1).1) hm hin hbig hml hap;rw[n0,n1,hA1];refine hrun.mono λv w' ⟨A',cap',hv',hr',hg',hk',hf'⟩ => ?_
     subst hv';obtain⟨tf1,tf2⟩:=take_flatten hrl0 (i:=i) (by omega);have hlen:(xs.take i++(ys++xs.drop i)).length=xs.length+ys.length:=by simp only[qLa,List.length_take,List.length_drop];omega
     have hfl:(rows.take i++(news++rows.drop i)).flatten=rows.flatten.take (i*c)++(news.flatten++rows.flatten.drop (i*c)):=by rw[List.flatten_append,List.flatten_append,tf1,tf2]
     rw[←hfl,←hlen]at hr';rw[←hlen];have hnr:Rows E z t (xs.take i++(ys++xs.drop i)) (rows.take i++(news++rows.drop i)):=by
      have q1:=c2_ hrows0 0 i;have q2:=c2_ hrows0 i xs.length;rw[List.drop_zero,List.drop_zero]at q1;rw[List.take_length,List.take_of_length_le (by omega)]at q2;exact q1.append (hrows1.append q2 hl1) (by simp only[List.length_take];omega)
     refine⟨z,g.put 2 ⟨A',_,cap',c,0,0⟩,[.one (.own 2)],Fz.Le.refl z,λ_=>rfl,Ga.le_put (hfr 2 (Nat.le_refl _)),rfl,⟨_,Ga.put_self _ _ _,rfl⟩,?_⟩;refine hH.turn (Ga.le_put (hfr 2 (Nat.le_refl _))) (i:=0) (i':=2) (C:=aZ_ l0.A) (λq ⟨a,ha,hq⟩=>⟨_,rfl,l0,a,g0,ha,hq⟩) hg' hk' (o' := .row (ρ.t 9) t (xs.take i++(ys++xs.drop i)) []) (rowC_mk hr' (Ga.put_self _ _ _) hsz (by simp only[qLa,List.length_take,List.length_drop];omega) (λr hr => ?_) hnr) (λq hq => ?_) λj o hj => ?_
     .rcases List.mem_append.1 hr with hr|hr
      .exact hrl0 r (List.mem_of_mem_take hr)
      .rcases List.mem_append.1 hr with hr|hr
       .exact hrl1 r hr
       .exact hrl0 r (List.mem_of_mem_drop hr)
     .obtain⟨l2,a2,h5,h6,rfl⟩:=hq;rw[Ga.put_self]at h5;obtain rfl:=qSj h5;exact hf' _ ⟨a2,h6,rfl⟩
     .rcases ay_ (H:=λ_=>none) (i:=2) (p := .row (ρ.t 9) t (xs.take i++(ys++xs.drop i)) []) hj with h|⟨_,h⟩
      .exact .inl h
      .cases h
end
end Rt
end Go
namespace Go.Proofs.YtfbcbakhdkppoaaGreatDoor
open Go.Rt Go.RowKit Go.Shelf
noncomputable section
def renIm:Go.Shelf.Ren:=⟨λ | 22=>243 | 29=>254 | 30=>255|n=>n,λ | 24=>163 | 9=>202 | 3=>3 | 4=>4 | 0=>0|n=>n,λ|n=>n⟩
def zeroIm:Array Value := #[.int .i64 0,.int .u8 0,.string ⟨#[]⟩,.bool false,.int .i64 0,.int .i64 0]
theorem oneIm:(zeroIm.toList.all λv=>v.oneCell')=true:=by kernel_rfl
theorem insIm:InsL Tryz.prog renIm 6 56 zeroIm:={
 mixed:=by kernel_rfl
 f22:=⟨Tryz.f243.name,by kernel_rfl,Tryz.func243.trans (congrArg some (by kernel_rfl))⟩
 ov:=λargs w=>run_callFunc_extern Tryz.func254 (by kernel_rfl) (by kernel_rfl) (by kernel_rfl) (e:=Extern.SlicesOverlaps.overlaps #[163,163] #[4]) (by kernel_rfl) args w
 t0:=Tryz.underlying0
 a0:=Tryz.isAgg0
 z0:=Tryz.sizeOf0
 v0:=Tryz.zeroValue0
 t3:=Tryz.underlying3
 a3:=Tryz.isAgg3
 z3:=Tryz.sizeOf3
 v3:=Tryz.zeroValue3
 t4:=Tryz.underlying4
 a4:=Tryz.isAgg4
 z4:=Tryz.sizeOf4
 v4:=Tryz.zeroValue4
 t24:=Tryz.underlying163
 a24:=Tryz.isAgg163
 z24:=Tryz.sizeOf163
 v24:=Tryz.zeroValue163
 z9:=Tryz.sizeOf202
 v9:=Tryz.zeroValue202
 i9:=by kernel_rfl
 zs:=by kernel_rfl
 c0:=by decide
 zo:=λv hv=>List.all_eq_true.1 oneIm v hv }
def km_:Con te:=conInsM te (.st 6) 202 56
theorem ir_:Con.OK Tryz.prog te 243 km_/\bG_ Tryz.prog 243=true:=by
 refine⟨?_,by kernel_rfl⟩;exact conInsM_ok (E:=te) (t := .st 6) insIm (by decide) (by kernel_rfl)
end
end Go.Proofs.YtfbcbakhdkppoaaGreatDoor
namespace Go.Proofs
open Go.Shelf
def Tryz.laysIndex_ren:Go.Shelf.Ren:=⟨λ | 219=>185 | 217=>220 | 225=>221 | 224=>222 | 267=>223 | 266=>247 | 314=>248|n=>n,λ | 9=>9 | 3=>3 | 4=>4 | 5=>5 | 46=>105 | 146=>272 | 51=>145|n=>n,λ | 1=>0|n=>n⟩
theorem Tryz.laysIndex:Go.Proofs.Lays.n219 Tryz.prog Tryz.laysIndex_ren:={
 mixed:=by kernel_rfl
 f217:=Tryz.func220.trans (congrArg some (by kernel_rfl))
 f219:=Tryz.func185.trans (congrArg some (by kernel_rfl))
 f224:=Tryz.func222.trans (congrArg some (by kernel_rfl))
 f225:=Tryz.func221.trans (congrArg some (by kernel_rfl))
 f266:=Tryz.func247.trans (congrArg some (by kernel_rfl))
 f267:=Tryz.func223.trans (congrArg some (by kernel_rfl))
 f314:=Tryz.func248.trans (congrArg some (by kernel_rfl))
 t3:=Tryz.underlying3
 a3:=Tryz.isAgg3
 z3:=Tryz.sizeOf3
 v3:=Tryz.zeroValue3
 t4:=Tryz.underlying4
 a4:=Tryz.isAgg4
 z4:=Tryz.sizeOf4
 v4:=Tryz.zeroValue4
 t5:=Tryz.underlying5
 a5:=Tryz.isAgg5
 z5:=Tryz.sizeOf5
 v5:=Tryz.zeroValue5
 t9:=Tryz.underlying9
 a9:=Tryz.isAgg9
 z9:=Tryz.sizeOf9
 v9:=Tryz.zeroValue9
 t46:=Tryz.underlying105
 a46:=Tryz.isAgg105
 z46:=Tryz.sizeOf105
 v46:=Tryz.zeroValue105
 t51:=Tryz.underlying145
 a51:=Tryz.isAgg145
 z51:=Tryz.sizeOf145
 v51:=Tryz.zeroValue145
 t146:=Tryz.underlying272
 a146:=Tryz.isAgg272
 z146:=Tryz.sizeOf272
 v146:=Tryz.zeroValue272
 g1:=by kernel_rfl }
end Go.Proofs
namespace Go.Proofs.YtfbcbakhdkppoaaGreatDoor
open Go.Shelf Go.RowKit Go.Rt
theorem fIndex:Tryz.laysIndex_ren.f 219=185:=by kernel_rfl
theorem mC_:∀(s:Str) (c:UInt8),cC_ s c=Lib.indexByte s c
 | [],_=>rfl
 | b::l,c=>by simp only[cC_,Lib.indexByte,mC_ l c]
theorem W_Index(x0 x1:Str)(r:Int)(hF:stringslite_Index x0 x1=some r)(w0:World):Ret Tryz.prog 185 #[S x0,S x1] w0 λv w=>v = .int .i64 r/\Ext w0 w:=by
 unfold stringslite_Index at hF;split at hF
 .rename_i c;simp only[qOi]at hF;subst hF;have hh:=Any.stringslite_Index_one Tryz.laysIndex ⟨x0.toArray⟩ c w0;rw[fIndex]at hh;refine Calls.mono hh λe w ⟨he,hb⟩=>⟨_,he,?_,?_⟩
  .simp[mC_]
  .subst hb;exact Ext.refl _
 .cases hF
def is_:Con te:=ae_ te [.d .str,.d .str] [(.int .i64,[])] false λa=>stringslite_Index a.1 a.2.1
theorem dW_:Con.OK Tryz.prog te 185 is_/\bG_ Tryz.prog 185=true:=by
 refine⟨λR a k r hr => ?_,by kernel_rfl⟩;obtain⟨y,h1,h2⟩:=bind_some hr;exact⟨_,_,h2,hV_ (y:=y) rfl rfl rfl rfl rfl λw=>W_Index a.1 a.2.1 y h1 w⟩
end Go.Proofs.YtfbcbakhdkppoaaGreatDoor
namespace Go.Proofs
open Go.Shelf
def Tryz.laysBString_ren:Go.Shelf.Ren:=⟨λ | 169=>72|n=>n,λ | 70=>107 | 9=>9 | 0=>0 | 72=>110 | 37=>108 | 127=>148 | 3=>3 | 5=>5|n=>n,λ|n=>n⟩
theorem Tryz.laysBString:Go.Proofs.Lays.n169 Tryz.prog Tryz.laysBString_ren:={
 mixed:=by kernel_rfl
 f169:=Tryz.func72.trans (congrArg some (by kernel_rfl))
 t0:=Tryz.underlying0
 a0:=Tryz.isAgg0
 z0:=Tryz.sizeOf0
 v0:=Tryz.zeroValue0
 t3:=Tryz.underlying3
 a3:=Tryz.isAgg3
 z3:=Tryz.sizeOf3
 v3:=Tryz.zeroValue3
 t9:=Tryz.underlying9
 a9:=Tryz.isAgg9
 z9:=Tryz.sizeOf9
 v9:=Tryz.zeroValue9
 t37:=Tryz.underlying108
 a37:=Tryz.isAgg108
 z37:=Tryz.sizeOf108
 v37:=Tryz.zeroValue108
 t70:=Tryz.underlying107
 a70:=Tryz.isAgg107
 z70:=Tryz.sizeOf107
 v70:=Tryz.zeroValue107
 t72:=Tryz.underlying110
 a72:=Tryz.isAgg110
 z72:=Tryz.sizeOf110
 v72:=Tryz.zeroValue110
 t127:=Tryz.underlying148
 a127:=Tryz.isAgg148
 z127:=Tryz.sizeOf148
 v127:=Tryz.zeroValue148 }
end Go.Proofs
namespace Go
namespace Rt
open Go.RowKit Go.Proofs
section
variable{P:Program}{E:TE}{z:Fz}{g:Ga}{w w' w0:World}{Bs:List Nat}{F0:Nat->Prop}{H H':Nat->Option (Obj E)}
theorem HR.gone(h:HR P E Bs F0 w0 w z g H){C:Nat->Prop}(hC:∀k,C k->∃i o,H i=some o/\fpO g i o k/\H' i=none)
  (hb:Grow w w') (hk:∀k,k<w.heap.size->¬C k->w'.heap[k]? = w.heap[k]?) (hH:∀j o,H' j=some o->H j=some o):HR P E Bs F0 w0 w' z g H':=by
 have aP_:∀k,C k->w0.heap.size<=k\/k∈Bs:=λk hc=>by obtain⟨i,o,h1,h2,_⟩:=hC k hc;exact h.own i o k h1 h2
 have far:∀j o k,H' j=some o->fpO g j o k->¬C k:=λj o k e hf hc=>by
  obtain⟨i,p,h1,h2,h3⟩:=hC k hc;exact h.apart j i o p k (λej=>by rw[ej,h3]at e;cases e) (hH j o e) h1 hf h2
 have fzC:∀k,z.F k->¬C k:=λk hz hc=>by obtain⟨i,o,h1,h2,_⟩:=hC k hc;exact h.fza i o k h1 h2 hz
 refine⟨⟨h.chg.grow.trans hb,λk hk1 hn=>(hk k (Nat.lt_of_lt_of_le hk1 h.size) λhc => ?_).trans (h.chg.block k hk1 hn)⟩,λj o e => ?_,λj o k e=>h.own j o k (hH j o e),λj j' o p k hn e e'=>h.apart j j' o p k hn (hH j o e) (hH j' p e'),λk hz => ?_,h.fz0,λj o k e=>h.fza j o k (hH j o e),h.gl⟩
 .rcases aP_ k hc with h1|h1
  .omega
  .exact hn h1
 .exact(h.hold j o (hH j o e)).keep (Fz.Le.refl z) (Ga.Le.refl g) λk hfk=>hk k ((h.hold j o (hH j o e)).lt hfk) (far j o k e hfk)
 .have:=h.fz k hz;exact⟨Nat.lt_of_lt_of_le this.1 hb.size,(hk k this.1 (fzC k hz)).trans this.2⟩
end
end Rt
end Go
namespace Go.Proofs
open Go.Shelf
def Tryz.laysCC_ren:Go.Shelf.Ren:=⟨λ | 240=>114 | 276=>148|n=>n,λ | 0=>0 | 4=>4 | 9=>9 | 20=>20 | 37=>108 | 70=>107 | 72=>110 | 164=>179|n=>n,λ|n=>n⟩
theorem Tryz.laysCC:Go.Proofs.Lays.n240 Tryz.prog Tryz.laysCC_ren:={
 mixed:=by kernel_rfl
 f240:=Tryz.func114.trans (congrArg some (by kernel_rfl))
 f276:=Tryz.func148.trans (congrArg some (by kernel_rfl))
 t0:=Tryz.underlying0
 a0:=Tryz.isAgg0
 z0:=Tryz.sizeOf0
 v0:=Tryz.zeroValue0
 t4:=Tryz.underlying4
 a4:=Tryz.isAgg4
 z4:=Tryz.sizeOf4
 v4:=Tryz.zeroValue4
 t9:=Tryz.underlying9
 a9:=Tryz.isAgg9
 z9:=Tryz.sizeOf9
 v9:=Tryz.zeroValue9
 t20:=Tryz.underlying20
 a20:=Tryz.isAgg20
 z20:=Tryz.sizeOf20
 v20:=Tryz.zeroValue20
 t70:=Tryz.underlying107
 a70:=Tryz.isAgg107
 z70:=Tryz.sizeOf107
 v70:=Tryz.zeroValue107
 t72:=Tryz.underlying110
 a72:=Tryz.isAgg110
 z72:=Tryz.sizeOf110
 v72:=Tryz.zeroValue110
 t164:=Tryz.underlying179
 a164:=Tryz.isAgg179
 z164:=Tryz.sizeOf179
 v164:=Tryz.zeroValue179 }
theorem Tryz.x72CC:Builder.X72 Tryz.prog Tryz.laysCC_ren where
 sizeBuilder:=by kernel_rfl
 liesBuilder:=by kernel_rfl
theorem Tryz.extraBS:Builder.Extra Tryz.prog Tryz.laysBString_ren where
 sizeBuilder:=by kernel_rfl
 liesBuilder:=by kernel_rfl
 t5:=Tryz.underlying5
 a5:=Tryz.isAgg5
 z5:=Tryz.sizeOf5
 v5:=Tryz.zeroValue5
 infoByte:=by kernel_rfl
 cellsByte:=by kernel_rfl
 sizeByte:=by kernel_rfl
 neB5:=by decide
open Go.RowKit
theorem it_{P:Program}{w:World}:∀(l:List Int) (a:Addr) (acc:ByteArray),(∀j x,l[j]? = some x->w.cell? (a.add j)=some (.int .u8 x)) ->
  (loadBytes a acc l.length).run P w = .ok ⟨acc.data++(Rt.bytesS l).toArray⟩ w
 | [],a,acc,_=>by simp[loadBytes,Rt.bytesS]
 | x::l,a,acc,h=>by
  have h0:w.cell? a=some (.int .u8 x):=by
   have:=h 0 x rfl;simpa[Addr.add]using this
  have ih:=it_ (P:=P) l (a.add 1) (acc.push x.toNat.toUInt8) (λj y hy=>by
   have:=h (j+1) y (by simpa using hy);have e:(a.add 1).add j=a.add (j+1):=by
    unfold Addr.add;by_cases hj:j=0
    .subst hj;simp
    .simp[hj];omega
   rw[e];exact this)
  simp only[qLc,loadBytes,Sem.run_bind,run_load,h0,Result.andThen];rw[ih]
  congr 1
  apply ByteArray.ext;simp[ByteArray.push,Rt.bytesS]
theorem iu_{P:Program}{w:World}(pt it ty e:TypeId)(hp:P.underlying pt=some (.pointer e))(hc:P.cellsOf e=1)(g cells:Nat)(hsh:w.shape? g=some (e,cells))(l:List Int)(h0:l≠[])(hn:l.length<=cells)(h63:l.length<=9223372036854775807)
  (hcell:∀j x,l[j]? = some x->w.cell? ((⟨g,0,none⟩:Addr).add j)=some (.int .u8 x)) :
  (Builtin.unsafeString_ #[pt,it] ty #[.pointer (some ⟨g,0,none⟩),.int .i64 l.length]).run P w = .ok (.string ⟨(Rt.bytesS l).toArray⟩) (w.freeze ⟨g,0,none⟩ l.length):=by
 have hl:l.length≠0:=by simpa using h0
 have hlb:=it_ (P:=P) l ⟨g,0,none⟩ .empty hcell;have hlies:=Lib.liesAt_bytes (P:=P) hc (cells/P.cellsOf e) l.length (by rw[hc];simpa using hn);have h63':¬(9223372036854775807:Int)<(l.length:Int):=by omega
 have hdef:Builtin.unsafeString_ #[pt,it] ty #[.pointer (some ⟨g,0,none⟩),.int .i64 l.length] =
   (do
    let n ←asInt (.int .i64 l.length)
    if n < 0 then runtimePanic (.error "unsafe.String: len out of range")
    if n > IntKind.i64.max then unsupported (.unsafePointer "String: a length above the largest int")
    if n=0 then pure (.string .empty)
    else if ←variablesAt ⟨g,0,none⟩ (←elemOf pt) n.toNat then do
     let s ←loadBytes ⟨g,0,none⟩ .empty n.toNat
     freeze ⟨g,0,none⟩ n.toNat
     pure (.string s)
    else unsupported (.unsafePointer "String: not so many bytes at ptr")) := rfl
 rw[hdef];have hmax:IntKind.i64.max=9223372036854775807:=rfl;have hneg:¬(l.length:Int)<0:=by omega
 simp[asInt,asIntOf,hmax,h63',hneg,hl,variablesAt,hsh,elemOf,run_underlying hp,hlies,hlb]
set_option maxHeartbeats 1000000 in
set_option maxRecDepth 100000 in
theorem Any.Builder_String_w{P:Program}{ρ:Ren}(L:Lays.n169 P ρ)(X:Builder.Extra P ρ)(b g cap:Nat)(p:Value)(cur:Array Value)(l:List Int)(w:World)(hbk:w.heap[b]? = some (.cells #[p,.slice (some ⟨g,0,none⟩) l.length cap] (ρ.t 72) (0,0)))(h0:l≠[])
  (hg:w.heap[g]? = some (.cells cur (ρ.t 5) (0,0))) (hnc:l.length<=cap) (hcm:cap<=maxLen) (hcs:cur.size=cap) (hown:∀j x,l[j]? = some x->w.cell? ((⟨g,0,none⟩:Addr).add j)=some (.int .u8 x)) :
  Calls P (ρ.f 169) #[.pointer (some ⟨b,0,none⟩)] w λe w'=>e = .returned (.string ⟨(Rt.bytesS l).toArray⟩)/\w'=w.drew.freeze ⟨g,0,none⟩ l.length:=by
 have hl0:l.length≠0:=by simpa using h0
 have c1:w.drew.cell? ⟨b,1,none⟩=some (.slice (some ⟨g,0,none⟩) l.length cap):=by
  have:w.drew.heap[b]? = some (.cells #[p,.slice (some ⟨g,0,none⟩) l.length cap] (ρ.t 72) (0,0)):=hbk;rw[Lib.cell_of_heap this];rfl
 have hSD:(Builtin.unsafeSliceData_ #[(ρ.t 37)] (ρ.t 127) #[.slice (some ⟨g,0,none⟩) l.length cap]).run P w.drew = .ok (.pointer (some ⟨g,0,none⟩)) w.drew :=
  Lib.run_unsafeSliceData_row _ _ _ _ _ _ (by omega)
 have hUS:(Builtin.unsafeString_ #[(ρ.t 127),(ρ.t 3)] (ρ.t 9) #[.pointer (some ⟨g,0,none⟩),.int .i64 l.length]).run P w.drew = .ok (.string ⟨(Rt.bytesS l).toArray⟩) (w.drew.freeze ⟨g,0,none⟩ l.length):=by
  refine iu_ (w:=w.drew) (ρ.t 127) (ρ.t 3) (ρ.t 9) (ρ.t 5) L.t127 X.cellsByte g cur.size (by have hg':w.drew.heap[g]? = some (.cells cur (ρ.t 5) (0,0)):=hg;simp[World.shape?,hg']) l h0 (by omega) (by unfold maxLen at hcm;omega) ?_;intro j x hx;exact hown j x hx
 have mixed:=L.mixed;have t72:=L.t72;have a72:=L.a72;have z72:=L.z72;have v72:=L.v72;have u72:=run_underlying L.t72;have t70:=L.t70;have a70:=L.a70;have z70:=L.z70;have v70:=L.v70;have u70:=run_underlying L.t70;have t37:=L.t37;have a37:=L.a37;have z37:=L.z37;have v37:=L.v37;have u37:=run_underlying L.t37;have t127:=L.t127;have a127:=L.a127;have z127:=L.z127;have v127:=L.v127;have u127:=run_underlying L.t127;have t3:=L.t3;have a3:=L.a3;have z3:=L.z3;have v3:=L.v3;have u3:=run_underlying L.t3;have t9:=L.t9;have a9:=L.a9;have z9:=L.z9;have v9:=L.v9;have u9:=run_underlying L.t9;have t5:=X.t5;have a5:=X.a5;have z5:=X.z5;have v5:=X.v5;have u5:=run_underlying X.t5
 go_enter L.f169,Body.n169_ntmps ρ
 go_wp2
 go_region_o
 all_goals (go_wp2;go_ret;exact⟨rfl,rfl⟩)
end Go.Proofs
namespace Go.Proofs.YtfbcbakhdkppoaaGreatDoor
open Go.RowKit Go.Rt
def cf_:InlF te:=λH _ xs _ k=>match xs with
 | [.one (.ptr id 0)]=>match H id with
  | some (.box T [.sbp id',_])=>match Nat.beq id id'&&te.sb T with
   | true=>k (some (.tup [])) []
   | false=>none
  | _=>none
 | _=>none
def dp_:InlF te:=λH _ xs _ k=>match xs with
 | [.one (.ptr id 0)]=>match H id with
  | some (.box T [.sbp id',c])=>match Nat.beq id id'&&te.sb T,c with
   | true,.nils=>k (some (.v (.one (.dt .str (bytesS []))))) [(id,none)]
   | true,.own r=>match H r with
    | some (.row e (.int .u8) xs _)=>match Nat.beq e 5 with
     | true=>k (some (.v (.one (.dt .str (bytesS xs))))) [(id,none),(r,none)]
     | false=>none
    | _=>none
   | _,_=>none
  | _=>none
 | _=>none
theorem cG_:gC_ Tryz.prog te 114 cf_/\bG_ Tryz.prog 114=true:=by
 refine⟨?_,by kernel_rfl⟩;intro z g nx H xs vs R k r Bs F0 w0 w hnx hH hv h;unfold cf_ at h;split at h
 .rename_i id;split at h
  .rename_i T id' c hi;split at h
   .rename_i hb;simp only[qAn]at hb;obtain rfl:=qNb hb.1;have hT:T=110:=qNb hb.2;subst hT;cases hv with
    | cons v1 hv =>
     cases hv
     obtain⟨l,h1,rfl⟩:=v1;obtain⟨l',us,h2,h3,h4⟩:=hH.hold _ _ hi;rw[h1]at h2;obtain rfl:=qSj h2;cases h4 with
     | cons c1 h4=>cases h4 with
      | cons c2 h4 =>
       cases h4
       obtain⟨l2,h5,h6⟩:=c1;rw[h1]at h5;obtain rfl:=qSj h5;rename_i u1 u2;have hc0:w.cell? ⟨l.b,0,none⟩=some u1:=by rw[cell_of_row w l.b 0 _ _ _ h3];rfl
       rcases h6 with rfl|rfl
       .refine Calls.mono (Any.Builder_copyCheck_fresh Tryz.laysCC Tryz.x72CC l.b w hc0 (by simp[World.shape?,h3];rfl) (by unfold World.frozen?;simp only[h3];simp)) λe w' ⟨he,hw⟩=>⟨_,he,.tup [],[],z,g,h,Fz.Le.refl z,Ga.Le.refl g,hnx.succ,⟨[],rfl,.nil⟩,?_⟩
        subst hw;have hat:(w.setCell ⟨l.b,0,none⟩ (.pointer (some ⟨l.b,0,none⟩))).heap[l.b]? = some (.cells [.pointer (some ⟨l.b,0,none⟩),u2].toArray 110 (0,0)):=by
         unfold World.setCell;simp[Array.getElem?_modify,h3]
        refine hH.turn (Ga.Le.refl g) (i:=id) (i':=id) (C:=λk=>k=l.b) (λk hk=>⟨_,hi,l,h1,hk⟩) ⟨rfl,rfl,rfl,by simp[World.setCell]⟩ (λk _ hk => ?_) (o' := .box 110 [.sbp id,c]) ?_ (λk hk => ?_) λj p hj => ?_
        .unfold World.setCell;simp only[Array.getElem?_modify];rw[if_neg λe=>hk e.symm]
        .exact⟨l,_,h1,hat,.cons ⟨l,h1,.inr rfl⟩ (.cons c2 .nil)⟩
        .obtain⟨l2,h5,rfl⟩:=hk;rw[h1]at h5;obtain rfl:=qSj h5;exact .inl rfl
        .by_cases hji:j=id
         .subst hji;have hj':H j=some p:=hj;rw[hi]at hj';exact .inl ⟨rfl,(qSj hj').symm⟩
         .exact .inr ⟨hji,.inl hji,hj⟩
       .refine Calls.mono (Any.Builder_copyCheck_used Tryz.laysCC Tryz.x72CC l.b w hc0) λe w' ⟨he,hw⟩=>⟨_,he,.tup [],[],z,g,h,Fz.Le.refl z,Ga.Le.refl g,hnx.succ,⟨[],rfl,.nil⟩,?_⟩
        subst hw;exact hH
   .cases h
  .cases h
 .cases h
theorem up1{H:Nat->Option (Rt.Obj te)}{id:Nat}{j:Nat}{o:Rt.Obj te}(h:upH H [(id,none)] j=some o):j≠id/\H j=some o:=by
 simp only[upH]at h;split at h
 .cases h
 .rename_i hb;refine⟨λe => ?_,h⟩;rw[e,Nat.beq_refl]at hb;cases hb
theorem up2{H:Nat->Option (Rt.Obj te)}{id r:Nat}{j:Nat}{o:Rt.Obj te}(h:upH H [(id,none),(r,none)] j=some o):j≠id/\j≠r/\H j=some o:=by
 simp only[upH]at h;split at h
 .cases h
 .rename_i hb;split at h
  .cases h
  .rename_i hb2;refine⟨λe => ?_,λe => ?_,h⟩
   .rw[e,Nat.beq_refl]at hb;cases hb
   .rw[e,Nat.beq_refl]at hb2;cases hb2
theorem du_ : gC_ Tryz.prog te 72 dp_/\bG_ Tryz.prog 72=true:=by
 refine⟨?_,by kernel_rfl⟩;intro z g nx H xs vs R k r Bs F0 w0 w hnx hH hv h;unfold dp_ at h;split at h
 .rename_i id;split at h
  .rename_i T id' c hi;have hv1:∃l,g id=some l/\vs=[.pointer (some ⟨l.b,0,none⟩)]:=by
    cases hv with
    | cons v1 hv =>
     cases hv
     obtain⟨l,h1,rfl⟩:=v1;exact⟨l,h1,rfl⟩
   obtain⟨l,h1,rfl⟩:=hv1;obtain⟨l',us,h2,h3,h4⟩:=hH.hold _ _ hi;rw[h1]at h2;obtain rfl:=qSj h2;split at h
   .rename_i hb;simp only[qAn]at hb;have hT:T=110:=qNb hb.2;subst hT;cases h4 with
    | cons c1 h4=>cases h4 with
     | cons c2 h4 =>
      cases h4
      rename_i u1 u2;obtain rfl:u2 = .slice none 0 0:=c2;refine Calls.mono (Any.Builder_String_nil Tryz.laysBString Tryz.extraBS w.heap.size l.b u1 w h3) λe w' ⟨he,hw⟩=>⟨_,he,_,_,z,g,h,Fz.Le.refl z,Ga.Le.refl g,(λi hi=>hnx i (Nat.le_trans (by omega) (Nat.le_trans (ha_ nx _) hi))),.str .nil,?_⟩
      exact hH.gone (C:=λ_=>False) (λ_ h=>h.elim) (Grow.of_below hw) (λk hk _=>hw.block k hk) λj o hj=>(up1 hj).2
   .rename_i r' hb;simp only[qAn]at hb;have hT:T=110:=qNb hb.2;subst hT;split at h
    .rename_i e xs foc hr;split at h
     .rename_i he5;obtain rfl:=qNb he5;cases h4 with
      | cons c1 h4=>cases h4 with
       | cons c2 h4 =>
        cases h4
        rename_i u1 u2;obtain⟨lr,h5,rfl⟩:=c2;obtain⟨lr',rows,h6,hn,hc,hown,hlen,hrl,hrows,_⟩:=hH.hold _ _ hr;rw[h5]at h6;obtain rfl:=qSj h6;have hrw:=iH_ hrows (by omega);obtain⟨_,ho⟩:=hown;rcases ho with⟨ho,h0⟩|⟨b,cap,cur,hvv,_,hh,hnc,hcm,hcs,htk⟩
        .injection ho with e1 e2 e3;rw[e1,e2,e3]at h3;have hx0:xs=[]:=List.length_eq_zero_iff.1 (by omega);subst hx0;refine Calls.mono (Any.Builder_String_nil Tryz.laysBString Tryz.extraBS w.heap.size l.b u1 w h3) λe w' ⟨he,hw⟩=>⟨_,he,_,_,z,g,h,Fz.Le.refl z,Ga.Le.refl g,(λi hi=>hnx i (Nat.le_trans (by omega) (Nat.le_trans (ha_ nx _) hi))),.str .nil,?_⟩
         exact hH.gone (C:=λ_=>False) (λ_ h=>h.elim) (Grow.of_below hw) (λk hk _=>hw.block k hk) λj o hj=>(up2 hj).2.2
        .injection hvv with e1 _ e3;subst e3;rw[e1]at h3;have hb1:b<w.heap.size:=by
          rcases Nat.lt_or_ge b w.heap.size with h'|h'
          .exact h'
          .rw[Array.getElem?_eq_none h']at hh;cases hh
         cases xs with
         | nil =>
          have hn0:lr.n=0:=hn;rw[hn0]at h3;by_cases hc0:lr.cap=0
          .rw[hc0]at h3;exact Calls.mono (Any.Builder_String_noroom Tryz.laysBString Tryz.extraBS w.heap.size l.b b u1 cur w (Nat.le_refl _) h3 hh) λe w' ⟨he,hw⟩=>⟨_,he,_,_,z,g,h,Fz.Le.refl z,Ga.Le.refl g,(λi hi=>hnx i (Nat.le_trans (by omega) (Nat.le_trans (ha_ nx _) hi))),.str .nil,hH.gone (C:=λ_=>False) (λ_ h=>h.elim) (Grow.of_below hw) (λk hk _=>hw.block k hk) λj o hj=>(up2 hj).2.2⟩
          .exact Calls.mono (Any.Builder_String_room Tryz.laysBString Tryz.extraBS w.heap.size l.b b lr.cap u1 w hc0 h3) λe w' ⟨he,hw⟩=>⟨_,he,_,_,z,g,h,Fz.Le.refl z,Ga.Le.refl g,(λi hi=>hnx i (Nat.le_trans (by omega) (Nat.le_trans (ha_ nx _) hi))),.str .nil,hH.gone (C:=λ_=>False) (λ_ h=>h.elim) (Grow.of_below hw) (λk hk _=>hw.block k hk) λj o hj=>(up2 hj).2.2⟩
         | cons x xs =>
          have hc1:lr.c=1:=hc;rw[hn]at h3 htk hnc;rw[hc1]at htk hcs;have hcur:∀j y,(x::xs)[j]? = some y->w.cell? ((⟨b,0,none⟩:Addr).add j)=some (.int .u8 y):=λj y hy=>by
           have hj:j<(x::xs).length:=by
            rcases Nat.lt_or_ge j (x::xs).length with h'|h'
            .exact h'
            .rw[List.getElem?_eq_none h']at hy;cases hy
           have e2:(⟨b,0,none⟩:Addr).add j=⟨b,j,none⟩:=by
            unfold Addr.add;by_cases h0:j=0
            .subst h0;simp
            .simp[h0]
           rw[e2,cell_of_row w b j _ _ _ hh];have e3:(cur.toList.take ((x::xs).length*1))[j]? = cur.toList[j]? := by rw[List.getElem?_take,if_pos (by omega)]
           rw[←Array.getElem?_toList,←e3,htk,hrw];have e4:∀(l:List Int),(l.map λb=>[Value.int .u8 b]).flatten=l.map λb=>Value.int .u8 b:=λl=>by
            induction l with
            | nil=>rfl
            | cons a l ih=>rw[List.map_cons,List.flatten_cons,ih];rfl
           rw[e4,List.getElem?_map,hy];rfl
          refine Calls.mono (Any.Builder_String_w Tryz.laysBString Tryz.extraBS l.b b lr.cap u1 cur (x::xs) w h3 (by simp) hh hnc hcm (by omega) hcur) λe w' ⟨he,hw⟩=>⟨_,he,_,_,z,g,h,Fz.Le.refl z,Ga.Le.refl g,(λi hi=>hnx i (Nat.le_trans (by omega) (Nat.le_trans (ha_ nx _) hi))),.str .nil,?_⟩
          subst hw;refine hH.gone (C:=λk=>k=b) (λk hk=>⟨r',_,hr,⟨lr,_,h5,e1,hk⟩,?_⟩) ⟨?_,?_,?_,?_⟩ (λk hk hne => ?_) λj o hj=>(up2 hj).2.2
          .cases hq:upH H [(id,none),(r',none)] r' with
           | none=>rfl
           | some o=>exact absurd rfl (up2 hq).2.1
          .unfold World.freeze;split<;>rfl
          .unfold World.freeze;split<;>rfl
          .unfold World.freeze;split<;>rfl
          .unfold World.freeze;split
           .exact Nat.le_refl _
           .simp only[Array.size_modify];exact Nat.le_refl _
          .unfold World.freeze;split
           .rfl
           .simp only[Array.getElem?_modify];rw[if_neg λe=>hne e.symm];rfl
     .cases h
    .cases h
   .cases h
  .cases h
 .cases h
end Go.Proofs.YtfbcbakhdkppoaaGreatDoor
namespace Go
namespace Rt
open Go.RowKit Go.Sort Go.Proofs
end Rt
end Go
namespace Go.Proofs
open Go.Shelf
def Tryz.laysSortP_ren:Go.Shelf.Ren:=⟨λ | 6=>32 | 15=>66 | 14=>65 | 28=>111 | 29=>112 | 20=>103 | 21=>104 | 22=>105 | 23=>106 | 24=>107 | 25=>108 | 26=>109 | 27=>110 | 46=>143 | 47=>144 | 48=>145 | 49=>146 | 50=>147 | 57=>181|n=>n,λ | 22=>25 | 24=>66 | 25=>73 | 3=>3 | 39=>105 | 0=>0 | 53=>145 | 55=>147 | 4=>4 | 46=>139 | 45=>138 | 50=>126 | 5=>5 | 9=>9 | 66=>173 | 70=>177 | 76=>206 | 77=>207|n=>n,λ|n=>n⟩
theorem Tryz.laysSortP:Go.Proofs.SlLaysF0.n6 Tryz.prog Tryz.laysSortP_ren:={
 mixed:=by kernel_rfl
 f6:=⟨Tryz.f32.name,by decide,Tryz.func32.trans (congrArg some (by kernel_rfl))⟩
 f14:=⟨Tryz.f65.name,by decide,Tryz.func65.trans (congrArg some (by kernel_rfl))⟩
 f15:=Tryz.func66.trans (congrArg some (by kernel_rfl))
 f20:=⟨Tryz.f103.name,by decide,Tryz.func103.trans (congrArg some (by kernel_rfl))⟩
 f21:=⟨Tryz.f104.name,by decide,Tryz.func104.trans (congrArg some (by kernel_rfl))⟩
 f22:=⟨Tryz.f105.name,by decide,Tryz.func105.trans (congrArg some (by kernel_rfl))⟩
 f23:=⟨Tryz.f106.name,by decide,Tryz.func106.trans (congrArg some (by kernel_rfl))⟩
 f24:=⟨Tryz.f107.name,by decide,Tryz.func107.trans (congrArg some (by kernel_rfl))⟩
 f25:=⟨Tryz.f108.name,by decide,Tryz.func108.trans (congrArg some (by kernel_rfl))⟩
 f26:=⟨Tryz.f109.name,by decide,Tryz.func109.trans (congrArg some (by kernel_rfl))⟩
 f27:=⟨Tryz.f110.name,by decide,Tryz.func110.trans (congrArg some (by kernel_rfl))⟩
 f28:=Tryz.func111.trans (congrArg some (by kernel_rfl))
 f29:=Tryz.func112.trans (congrArg some (by kernel_rfl))
 f46:=⟨Tryz.f143.name,by decide,Tryz.func143.trans (congrArg some (by kernel_rfl))⟩
 f47:=Tryz.func144.trans (congrArg some (by kernel_rfl))
 f48:=Tryz.func145.trans (congrArg some (by kernel_rfl))
 f49:=⟨Tryz.f146.name,by decide,Tryz.func146.trans (congrArg some (by kernel_rfl))⟩
 f50:=⟨Tryz.f147.name,by decide,Tryz.func147.trans (congrArg some (by kernel_rfl))⟩
 f57:=⟨Tryz.f181.name,by decide,Tryz.func181.trans (congrArg some (by kernel_rfl))⟩
 t0:=Tryz.underlying0
 a0:=Tryz.isAgg0
 z0:=Tryz.sizeOf0
 v0:=Tryz.zeroValue0
 t3:=Tryz.underlying3
 a3:=Tryz.isAgg3
 z3:=Tryz.sizeOf3
 v3:=Tryz.zeroValue3
 t4:=Tryz.underlying4
 a4:=Tryz.isAgg4
 z4:=Tryz.sizeOf4
 v4:=Tryz.zeroValue4
 t5:=Tryz.underlying5
 a5:=Tryz.isAgg5
 z5:=Tryz.sizeOf5
 v5:=Tryz.zeroValue5
 t9:=Tryz.underlying9
 a9:=Tryz.isAgg9
 z9:=Tryz.sizeOf9
 v9:=Tryz.zeroValue9
 t22:=Tryz.underlying25
 a22:=Tryz.isAgg25
 z22:=Tryz.sizeOf25
 v22:=Tryz.zeroValue25
 t25:=Tryz.underlying73
 a25:=Tryz.isAgg73
 z25:=Tryz.sizeOf73
 v25:=Tryz.zeroValue73
 t39:=Tryz.underlying105
 a39:=Tryz.isAgg105
 z39:=Tryz.sizeOf105
 v39:=Tryz.zeroValue105
 t45:=Tryz.underlying138
 a45:=Tryz.isAgg138
 z45:=Tryz.sizeOf138
 v45:=Tryz.zeroValue138
 t46:=Tryz.underlying139
 a46:=Tryz.isAgg139
 z46:=Tryz.sizeOf139
 v46:=Tryz.zeroValue139
 t50:=Tryz.underlying126
 a50:=Tryz.isAgg126
 z50:=Tryz.sizeOf126
 v50:=Tryz.zeroValue126
 t53:=Tryz.underlying145
 a53:=Tryz.isAgg145
 z53:=Tryz.sizeOf145
 v53:=Tryz.zeroValue145
 t55:=Tryz.underlying147
 a55:=Tryz.isAgg147
 z55:=Tryz.sizeOf147
 v55:=Tryz.zeroValue147
 t66:=Tryz.underlying173
 a66:=Tryz.isAgg173
 z66:=Tryz.sizeOf173
 v66:=Tryz.zeroValue173
 t70:=Tryz.underlying177
 a70:=Tryz.isAgg177
 z70:=Tryz.sizeOf177
 v70:=Tryz.zeroValue177
 t76:=Tryz.underlying206
 a76:=Tryz.isAgg206
 z76:=Tryz.sizeOf206
 v76:=Tryz.zeroValue206
 t77:=Tryz.underlying207
 a77:=Tryz.isAgg207
 z77:=Tryz.sizeOf207
 v77:=Tryz.zeroValue207 }
def Tryz.laysCmpS_ren:Go.Shelf.Ren:=⟨λ | 106=>34 | 213=>67 | 265=>113|n=>n,λ | 9=>9 | 3=>3|n=>n,λ|n=>n⟩
theorem Tryz.laysCmpS:Go.Proofs.Lays.n106 Tryz.prog Tryz.laysCmpS_ren:={
 mixed:=by kernel_rfl
 f106:=Tryz.func34.trans (congrArg some (by kernel_rfl))
 f213:=Tryz.func67.trans (congrArg some (by kernel_rfl))
 f265:=Tryz.func113.trans (congrArg some (by kernel_rfl))
 t3:=Tryz.underlying3
 a3:=Tryz.isAgg3
 z3:=Tryz.sizeOf3
 v3:=Tryz.zeroValue3
 t9:=Tryz.underlying9
 a9:=Tryz.isAgg9
 z9:=Tryz.sizeOf9
 v9:=Tryz.zeroValue9 }
end Go.Proofs
namespace Go
namespace Rt
open Go.RowKit Go.Sort Go.Shelf Go.Proofs
section
variable{α:Type}{enc:α->List Value}{c:Nat}{w w':World}
theorem eR_(hk:∀x,(enc x).length=c):∀(xs:List α),(xs.map enc).flatten.length=xs.length*c
 | []=>by simp
 | x::xs=>by rw[List.map_cons,List.flatten_cons,qLa,hk,eR_ hk xs,qLc,Nat.succ_mul,Nat.add_comm]
theorem flatA_get[Inhabited α](hk:∀x,(enc x).length=c):∀(L:List α) (t:Nat),t<L.length*c->(L.map enc).flatten[t]? = (enc (L[t/c]?.getD default))[t%c]?
 | [],t,h=>by simp at h
 | x::L,t,h=>by
  have k0:0<c:=by
   rcases Nat.eq_zero_or_pos c with h'|h'
   .subst h';simp at h
   .exact h'
  rw[List.map_cons,List.flatten_cons];rcases Nat.lt_or_ge t c with ht|ht
  .rw[List.getElem?_append_left (by rw[hk];exact ht),Nat.div_eq_of_lt ht,Nat.mod_eq_of_lt ht];rfl
  .obtain⟨u,rfl⟩:∃u,t=u+c:=⟨t-c,by omega⟩;rw[List.getElem?_append_right (by rw[hk];omega),hk,Nat.add_sub_cancel,Nat.add_div_right _ k0,Nat.add_mod_right,flatA_get hk L u (by
    rw[qLc,Nat.succ_mul]at h;omega)]
   rfl
theorem jz_[Inhabited α](hk:∀x,(enc x).length=c)(d:Array α):flatK enc c d=(d.toList.map enc).flatten.toArray:=by
 refine Sort.ext_get! (by rw[size_flatK,←Array.length_toList,←Array.length_toList,List.toList_toArray,eR_ hk]) λt ht => ?_
 rw[size_flatK]at ht;rw[get_flatK _ _ _ t ht];have k0:0<c:=by
  rcases Nat.eq_zero_or_pos c with h'|h'
  .subst h';simp at ht
  .exact h'
 have h1:=flatA_get hk d.toList t (by simpa using ht);have hd:t/c<d.size:=Nat.div_lt_of_lt_mul (by rwa [Nat.mul_comm]at ht);have e1:d.toList[t/c]?.getD default=d[t/c]! := by
  rw[getElem!_pos d _ hd,Array.getElem?_toList,Array.getElem?_eq_getElem hd];rfl
 rw[e1]at h1;have hm:t%c<(enc d[t/c]!).length:=by rw[hk];exact Nat.mod_lt _ k0
 have ht2:t<(d.toList.map enc).flatten.length:=by rw[eR_ hk];simpa using ht
 rw[getElem!_pos (enc d[t/c]!) _ hm,getElem!_pos (d.toList.map enc).flatten.toArray t (by simpa using ht2)];rw[List.getElem?_eq_getElem hm,List.getElem?_eq_getElem ht2]at h1;simpa using(qSj h1).symm
def RowA(enc:α->List Value)(c:Nat)(w:World)(e:TypeId)(xs:List α)(A:Option Addr)(cap:Nat):Prop:=(A=none/\cap=0/\xs=[])\/∃b cs,A=some ⟨b,0,none⟩/\w.heap[b]? = some (.cells (cs:List Value).toArray e (0,0))/\xs.length<=cap/\cap<=maxLen/\cs.length=cap*c/\cs.take (xs.length*c)=(xs.map enc).flatten
theorem putCellsA{β:Type}[Inhabited β](f:β->Value)(D:Array β)(cs:List Value)(h:D.size<=cs.length):(putCells f 0 D cs.toArray).toList=D.toList.map f++cs.drop D.size:=by
 apply List.ext_getElem?;intro i;simp only[putCells,Array.toList_mapIdx,List.getElem?_mapIdx];by_cases hi:i<D.size
 .have hc:i<cs.length:=by omega
  rw[List.getElem?_append_left (by simpa using hi),List.getElem?_map,List.getElem?_eq_getElem hc,Option.map_some,if_pos ⟨Nat.zero_le _,by omega⟩,Nat.sub_zero,getElem!_pos D i hi];simp[hi]
 .rw[List.getElem?_append_right (by simpa using Nat.le_of_not_lt hi),List.getElem?_drop];have e1:D.size+(i-(D.toList.map f).length)=i:=by simp;omega
  rw[e1];cases hx:cs[i]? with
  | none=>rfl
  | some v=>rw[Option.map_some,if_neg (by omega)]
theorem RowA.put{e:TypeId}{xs zs:List α}{b cap:Nat}(hk:∀x,(enc x).length=c)(h:RowA enc c w e xs (some ⟨b,0,none⟩) cap)(hl:zs.length=xs.length)(q:Nat)(os:Array Go.Obj)
  (hw:w'=grow (putRow id (Go.Sort.ahead w q) b 0 (zs.map enc).flatten.toArray) os):RowA enc c w' e zs (some ⟨b,0,none⟩) cap/\Grow w w'/\(∀k,k<w.heap.size->k≠b->w'.heap[k]? = w.heap[k]?):=by
 rcases h with⟨h,_⟩|⟨b',cs,hA,hh,h1,h2,h3,h4⟩
 .cases h
 .injection hA with hA;injection hA with hA;subst hA;have hb:b<w.heap.size:=by
   rcases Nat.lt_or_ge b w.heap.size with h'|h'
   .exact h'
   .rw[Array.getElem?_eq_none h']at hh;cases hh
  generalize hDd:(zs.map enc).flatten.toArray=D at hw;have hD:D.size=xs.length*c:=by rw[←hDd,List.size_toArray,eR_ hk,hl]
  have hDl:D.size<=cs.length:=by rw[hD,h3];exact Nat.mul_le_mul_right _ h1
  have hgk:∀(W:World) k,k<W.heap.size->(grow W os).heap[k]? = W.heap[k]? := λW k hk=>by
   show(W.heap++os)[k]? = _;rw[Array.getElem?_append_left hk]
  have hms:(putRow id (Go.Sort.ahead w q) b 0 D).heap.size=w.heap.size:=by simp[putRow,mapBlock,Go.Sort.ahead]
  have hmb:(putRow id (Go.Sort.ahead w q) b 0 D).heap[b]? = some (.cells (putCells id 0 D cs.toArray) e (0,0)):=by
   show(mapBlock (Go.Sort.ahead w q) b (putCells id 0 D)).heap[b]? = _;unfold mapBlock;have hh':(Go.Sort.ahead w q).heap[b]? = some (.cells cs.toArray e (0,0)):=hh;simp only[Array.getElem?_modify,if_true,hh',Option.map_some,onCells]
  subst hw;refine⟨.inr ⟨b,D.toList.map id++cs.drop D.size,rfl,?_,by omega,h2,?_,?_⟩,⟨rfl,rfl,rfl,?_⟩,λk hk hne => ?_⟩
  .rw[hgk _ _ (by omega),hmb,←putCellsA id D cs hDl,Array.toArray_toList]
  .rw[qLa,List.length_map,List.length_drop,Array.length_toList];omega
  .have hle:(D.toList.map id).length=zs.length*c:=by
    rw[List.length_map,Array.length_toList,hD,hl]
   rw[List.take_append_of_le_length (Nat.le_of_eq hle.symm),List.take_of_length_le (Nat.le_of_eq hle),List.map_id,←hDd,List.toList_toArray]
  .have h9:(grow (putRow id (Go.Sort.ahead w q) b 0 D) os).heap.size=(putRow id (Go.Sort.ahead w q) b 0 D).heap.size+os.size:=by simp[grow]
   omega
  .rw[hgk _ _ (by omega)];show(mapBlock (Go.Sort.ahead w q) b (putCells id 0 D)).heap[k]? = _;unfold mapBlock;simp only[Array.getElem?_modify];rw[if_neg λe=>hne e.symm];rfl
theorem RowA.holds[Inhabited α](hk:∀x,(enc x).length=c){e:TypeId}{xs:List α}{b cap:Nat}(h:RowA enc c w e xs (some ⟨b,0,none⟩) cap):HoldsK enc c w b 0 xs.toArray/\b<w.heap.size:=by
 rcases h with⟨h,_⟩|⟨b',cs,hA,hh,h1,h2,h3,h4⟩
 .cases h
 .injection hA with hA;injection hA with hA;subst hA;refine⟨?_,?_⟩
  .unfold HoldsK;rw[jz_ hk];intro q hq;have hq':q<xs.length*c:=by
    rw[←eR_ hk xs];simpa using hq
   refine⟨?_,by unfold World.frozen?;simp only[hh];simp⟩;rw[Nat.zero_add,cell_of_row w b q _ e (0,0) hh];have:(cs.take (xs.length*c))[q]? = cs[q]? := by rw[List.getElem?_take,if_pos hq']
   rw[List.getElem?_toArray,←this,h4,getElem!_pos _ q hq];have hq2:q<(xs.map enc).flatten.length:=by rw[eR_ hk];exact hq'
   rw[List.getElem?_eq_getElem hq2];simp
  .rcases Nat.lt_or_ge b w.heap.size with h'|h'
   .exact h'
   .rw[Array.getElem?_eq_none h']at hh;cases hh
theorem sortA_run{P:Program}{ρ:Ren}[Inhabited α](L:SlLaysF0.n6 P ρ)(hk:∀x,(enc x).length=c)(aE:∀w,(isAgg (ρ.t 24)).run P w = .ok true w)(zE:∀w,(Go.sizeOf (ρ.t 24)).run P w = .ok c w)(h1:∀x,∀v∈enc x,v.oneCell'=true)(cf:α->α->Int)(hO:SWO (ltOf cf))(g:Nat)
  (eg:∀args w,(callFunc g args).run P w = .ok (.enter g args) w) (hcmp:∀x y W,Calls P g #[.agg (enc x).toArray,.agg (enc y).toArray] W λe w'=>e = .returned (.int .i64 (cf x y))/\∃q os,w'=grow (W.drewN q) os)
  {e:TypeId} {xs:List α} {A:Option Addr} {cap:Nat} (hx:RowA enc c w e xs A cap) (hlt:xs.length<4611686018427387904) :
  Ret P (ρ.f 6) #[.slice A xs.length cap,.func (.func g) #[] #[]] w λv w'=>v = .tuple #[]/\∃zs:List α,zs.Perm xs/\zs.Pairwise (λa b=>ltOf cf b a=false)/\RowA enc c w' e zs A cap/\Grow w w'/\∀k,k<w.heap.size->¬aZ_ A k->w'.heap[k]? = w.heap[k]? := by
 cases xs with
 | nil =>
  refine Calls.mono (AnyF.slices_SortFunc_none L A cap _ w) λe w' ⟨he,hw⟩=>⟨_,he,rfl,[],List.Perm.refl _,List.Pairwise.nil,?_,?_,λk _ _ => ?_⟩
  .subst hw;exact hx
  .subst hw;exact Grow.refl _
  .subst hw;rfl
 | cons x xs =>
  obtain⟨b,rfl⟩:∃b,A=some ⟨b,0,none⟩:=by
   rcases hx with⟨_,_,h⟩|⟨b,_,h,_⟩
   .cases h
   .exact⟨b,h⟩
  obtain⟨hH,hb⟩:=hx.holds hk;have hc:CmpLays P g #[] enc c cf b 0 (x::xs).toArray.size w:=λm os dk hs x y=>hcmp x y _
  refine Calls.mono (AnyQ.slices_SortFunc_eq L c aE zE enc hk h1 cf hO g #[] b 0 cap (x::xs).toArray w eg hc hH hb (by simpa using hlt)) λe w' ⟨he',q,os,hw⟩=>⟨_,he',rfl,?_⟩
  have hs:=pdq_sorts (ltOf cf) hO (x::xs).toArray 0 (x::xs).toArray.size (Lib.bitLen (x::xs).toArray.size) true true (Nat.zero_le _) (Nat.le_refl _) (Or.inl rfl);generalize Sort.pdq (ltOf cf) (x::xs).toArray 0 (x::xs).toArray.size (Lib.bitLen (x::xs).toArray.size) true true=d at hs hw;obtain⟨⟨h3,_,h5⟩,h6⟩:=hs;have e1:d.extract 0 (x::xs).toArray.size=d:=by rw[←h3];simp
  have e2:(x::xs).toArray.extract 0 (x::xs).toArray.size=(x::xs).toArray:=Array.extract_size;rw[e1,e2]at h5;have hp:d.toList.Perm (x::xs):=by simpa using h5
  have hw2:w'=grow (putRow id (Go.Sort.ahead w q) b 0 (flatK enc c d)) os:=by
   rw[hw];rfl
  rw[jz_ hk]at hw2;obtain⟨r1,r2,r3⟩:=hx.put hk (zs:=d.toList) hp.length_eq q os hw2;refine⟨d.toList,hp,List.pairwise_iff_getElem.2 λi j hi hj hij => ?_,r1,r2,λk hk hn=>r3 k hk λe=>hn ⟨_,rfl,e⟩⟩;have hj':j<(x::xs).toArray.size:=by rw[←h3];simpa using hj
  have:=h6 i j (Nat.zero_le _) hij hj';rw[getElem!_pos d j (by omega),getElem!_pos d i (by omega)]at this;simpa using this
end
section
variable{P:Program}{E:TE}{z:Fz}{g:Ga}{w w' w0:World}{t:Ty}
abbrev PV(E:TE)(z:Fz)(t:Ty):={ p:Den E.S t×List Value // RD E z (E.flat t) (E.fl t p.1) p.2 }
theorem pairs_of:∀{xs:List (Den E.S t)} {rows:List (List Value)},Rows E z t xs rows->rows.length=xs.length->∃ps:List (PV E z t),ps.map (·.1.1)=xs/\ps.map (·.1.2)=rows
 | [],[],_,_=>⟨[],rfl,rfl⟩
 | x::xs,r::rows,h,hl=>by
  obtain⟨ps,h1,h2⟩:=pairs_of (xs:=xs) (rows:=rows) (λi y q hy hq=>h (i+1) y q (by simpa using hy) (by simpa using hq)) (by simpa using hl);exact⟨⟨(x,r),h 0 x r rfl rfl⟩::ps,by simp[h1],by simp[h2]⟩
 | [],_::_,_,hl=>by simp at hl
 | _::_,[],_,hl=>by simp at hl
theorem rows_pairs(ps:List (PV E z t)):Rows E z t (ps.map (·.1.1)) (ps.map (·.1.2)):=λi x r hx hr=>by
 rw[List.getElem?_map]at hx hr;cases hp:ps[i]? with
 | none=>rw[hp]at hx;cases hx
 | some p =>
  rw[hp]at hx hr;obtain rfl:=qSj hx;obtain rfl:=qSj hr;exact p.2
end
end Rt
end Go
namespace Go.Proofs.YtfbcbakhdkppoaaGreatDoor
open Go.RowKit Go.Rt Go.Sort
theorem fSortP:Tryz.laysSortP_ren.f 6=32:=by kernel_rfl
theorem fCmpS:Tryz.laysCmpS_ren.f 106=34:=by kernel_rfl
def portN:Nat:=4
theorem k9_:∀(a b:Str),Lib.compareBytes a b<0↔Op.bytesLess a b=true
 | [],[]=>by simp[Lib.compareBytes,Op.bytesLess]
 | [],_::_=>by simp[Lib.compareBytes,Op.bytesLess]
 | _::_,[]=>by simp[Lib.compareBytes,Op.bytesLess]
 | a::x,b::y=>by
  simp only[Lib.compareBytes,Op.bytesLess];by_cases h1:a<b
  .simp[h1]
  .rw[if_neg h1];by_cases h2:b<a
   .have hne:a≠b:=λe=>by subst e;exact UInt8.lt_irrefl _ h2
    rw[if_pos h2];simp[h1,hne]
   .have:a=b:=UInt8.le_antisymm (UInt8.not_lt.1 h2) (UInt8.not_lt.1 h1);rw[if_neg h2,k9_ x y];simp[this]
theorem compare_lt(a b:Str):decide (Lib.compareBytes a b<0)=Op.bytesLess a b:=by
 rw[Bool.eq_iff_iff,decide_eq_true_iff];exact k9_ a b
section
variable{z:Fz}
theorem ji_(p:PV te z (.st 4)):∃q,p.1.2=[S (p.1.1:Xk).Xv,q,.int .i64 (p.1.1:Xk).Xp]/\aM_ p.1.2=true:=by
 obtain⟨⟨x,r⟩,h⟩:=p;have hc:=RD.cells h;obtain⟨v1,e1,h⟩:=RD.str_inv h;obtain⟨A,cap,rows,v2,e2,_,_,_,h⟩:=RD.sl_inv h;obtain⟨v3,e3,h⟩:=RD.int_inv h;refine⟨.slice A (x:Xk).Xf.length cap,?_,hc⟩;have e4:=h.nil_inv;subst e4;subst e3;subst e2;exact e1
def cmpP(x y:PV te z (.st 4)):Int:=Lib.compareBytes (x.1.1:Xk).Xv (y.1.1:Xk).Xv
theorem cmpP_lt:ltOf (cmpP (z:=z))=λx y=>Op.bytesLess (x.1.1:Xk).Xv (y.1.1:Xk).Xv:=by
 funext x y
 exact compare_lt _ _
theorem cmpP_swo:SWO (ltOf (cmpP (z:=z))):=by
 rw[cmpP_lt];refine⟨λx=>hm_ _,λx y z=>fW_ _ _ _,λx y z h1 h2 => ?_⟩;have:=leN_trans (λs:Str=>s) _ _ _ (show leN (λs:Str=>s) _ _=true from by unfold leN;rw[h2];rfl) (show leN (λs:Str=>s) _ _=true from by unfold leN;rw[h1];rfl);unfold leN at this;simpa using this
set_option maxHeartbeats 4000000 in
theorem closureP(x y:PV te z (.st 4))(W:World):Calls Tryz.prog 33 #[.agg x.1.2.toArray,.agg y.1.2.toArray] W λe w'=>e = .returned (.int .i64 (cmpP x y))/\∃q os,w'=grow (W.drewN q) os:=by
 obtain⟨q1,e1,_⟩:=ji_ x;obtain⟨q2,e2,_⟩:=ji_ y;rw[e1,e2];unfold cmpP;generalize(x.1.1:Xk).Xv=n1;generalize(y.1.1:Xk).Xv=n2;generalize(x.1.1:Xk).Xp=o1;generalize(y.1.1:Xk).Xp=o2;have hcon:∀W,Calls Tryz.prog 34 #[S n1,S n2] W λe w'=>e = .returned (.int .i64 (Lib.compareBytes n1 n2))/\w'=W:=λW=>by
  have h:=Any.strings_Compare Tryz.laysCmpS ⟨n1.toArray⟩ ⟨n2.toArray⟩ W;rw[fCmpS]at h;exact h
 generalize Lib.compareBytes n1 n2=r at hcon ⊢
 go_enter Tryz.func33,Tryz.ntmps33
 go_wp2_with (go_at_call 34;refine(hcon _).mono ?_;rintro e w' ⟨rfl,rfl⟩)
 go_ret
 rw[alloc_eq_grow,alloc_eq_grow,grow_grow];exact⟨rfl,0,_,rfl⟩
end
def jA_:InlF te:=λH _ xs _ k=>match xs with
 | [.one (.own id),.one (.clo g [])]=>match Nat.beq g 33,H id with
  | true,some (.row e t ys _)=>match Nat.beq e 66 with
   | true=>if h:t = .st portN then Option.bind (g0_ (λ(x:Xk)=>x.Xv) (cp_ (E:=te) h ys)) λzs=>k (some (.tup [])) [(id,some (.row e (.st portN) zs []))]else none
   | false=>none
  | _,_=>none
 | _=>none
theorem lC_:gC_ Tryz.prog te 32 jA_/\bG_ Tryz.prog 32=true:=by
 refine⟨?_,by kernel_rfl⟩;intro z g nx H xs vs R k r Bs F0 w0 w hnx hH hv h;unfold jA_ at h;split at h
 .rename_i id fn;split at h
  .rename_i e t ys foc hg hi;obtain rfl:=qNb hg;split at h
   .rename_i he;obtain rfl:=qNb he;split at h
    .rename_i ht;subst ht;obtain⟨zs,hs,h⟩:=bind_some h;have hs':g0_ (λ(x:Xk)=>x.Xv) ys=some zs:=hs;have hlt:ys.length<4611686018427387904:=by
      unfold g0_ at hs';split at hs'
      .assumption
      .cases hs'
     obtain⟨l,rows,g0,n0,c0,hown,hlen,hrl,hrows,_⟩:=hH.hold _ _ hi;obtain⟨ps,hps1,hps2⟩:∃ps:List (PV te z (.st 4)),ps.map (·.1.1)=ys/\ps.map (·.1.2)=rows:=pairs_of hrows (hlen.trans n0);cases hv with
     | cons v1 hv=>cases hv with
      | cons v2 hv =>
       cases hv
       obtain⟨l1,e0,rfl⟩:=v1;rw[g0]at e0;obtain rfl:=qSj e0;obtain⟨us,rfl,hu⟩:=v2;cases hu
       have hk:∀x:PV te z (.st 4),x.1.2.length=3:=λx=>by
        obtain⟨q,e,_⟩:=ji_ x;rw[e];rfl
       have hpl:ps.length=l.n:=by rw[←hlen,←hps2,List.length_map]
       have c3:l.c=3:=c0;have r0:RowA (λx:PV te z (.st 4)=>x.1.2) 3 w 66 ps l.A l.cap:=by
        rcases hown.2 with⟨h2,h3⟩|⟨b,cap,cur,hv,_,hh,hnc,hcm,hcs,htk⟩
        .injection h2 with e1 e2 e3;exact .inl ⟨e1,e3,List.length_eq_zero_iff.1 (by omega)⟩
        .injection hv with e1 _ e3;subst e3;rw[c3]at htk hcs;exact .inr ⟨b,cur.toList,e1,by simpa using hh,Nat.le_trans (Nat.le_of_eq hpl) hnc,hcm,by simpa using hcs,(congrArg (λn=>List.take (n*3) cur.toList) hpl).trans (htk.trans (congrArg List.flatten hps2.symm))⟩
       letI:Inhabited (PV te z (.st 4)):=⟨⟨((default:Xk),[S [],.slice none 0 0,.int .i64 0]),.str (.sl (xs:=[]) (cap:=0) (SlF.nil _ _ _ _) (Nat.le_refl _) (rows:=[]) (λi x r h=>by simp at h) (.int .nil))⟩⟩
       have hrun:=sortA_run (P:=Tryz.prog) Tryz.laysSortP hk Tryz.isAgg66 Tryz.sizeOf66 (λx v hv=>by
        obtain⟨q,e,hc⟩:=ji_ x;exact c8_ hc v hv) cmpP cmpP_swo 33 (enters_of Tryz.func33 (by kernel_rfl) rfl) (λx y W=>closureP x y W) r0 (by rw[hpl,n0];exact hlt)
       rw[fSortP,hpl]at hrun;refine Ret.mono hrun λv w' ⟨hv',qs,hperm,hsorted,hr',hg',hk'⟩ => ?_
       subst hv';have hzs:qs.map (·.1.1)=zs:=by
        refine sortByN_eq hs' (hps1▸hperm.map _) (List.pairwise_map.2 (hsorted.imp fun{a b} hab => ?_));rw[cmpP_lt]at hab;show(!(Op.bytesLess (b.1.1:Xk).Xv (a.1.1:Xk).Xv))=true;have hab':Op.bytesLess (b.1.1:Xk).Xv (a.1.1:Xk).Xv=false:=hab;rw[hab'];rfl
       have hql:qs.length=l.n:=hperm.length_eq.trans hpl;refine⟨.tup [],_,z,g,h,Fz.Le.refl z,Ga.Le.refl g,(λi hi=>hnx i (Nat.le_trans (by omega) (Nat.le_trans (ha_ nx _) hi))),⟨[],rfl,.nil⟩,?_⟩;refine hH.turn (Ga.Le.refl g) (i:=id) (i':=id) (C:=aZ_ l.A) (λq ⟨a,ha,hq⟩=>⟨_,hi,l,a,g0,ha,hq⟩) hg' hk' (o' := .row 66 (.st 4) zs []) ⟨l,qs.map (·.1.2),g0,?_,c0,⟨?_,?_⟩,by rw[List.length_map,hql],λr hr => ?_,?_,λp hp=>nomatch hp⟩ (λq hq => ?_) λj o hj => ?_
       .rw[←hzs,List.length_map,hql]
       .rw[eR_ (enc:=λx:PV te z (.st 4)=>x.1.2) hk,hql,c3]
       .rcases hr' with⟨hA,hcap,hq⟩|⟨b,cs,hA,hh,h1,h2,h3,h4⟩
        .have:l.n=0:=by rw[←hql,hq];rfl
         exact .inl ⟨by rw[hA,hcap,this],this⟩
        .exact .inr ⟨b,l.cap,cs.toArray,by rw[hA],Nat.zero_le _,hh,by omega,h2,by rw[c3];simpa using h3,by rw[c3,←hql];exact h4⟩
       .obtain⟨x,_,rfl⟩:=List.mem_map.1 hr;rw[hk,c3]
       .rw[←hzs];exact rows_pairs qs
       .obtain⟨l2,a2,h5,h6,rfl⟩:=hq;rw[g0]at h5;obtain rfl:=qSj h5;exact .inl ⟨a2,h6,rfl⟩
       .rcases ay_ hj with h|⟨h1,h2⟩
        .exact .inl h
        .exact .inr ⟨h1,.inl h1,h2⟩
    .cases h
   .cases h
  .cases h
 .cases h
end Go.Proofs.YtfbcbakhdkppoaaGreatDoor
namespace Go.Proofs.YtfbcbakhdkppoaaGreatDoor
open Go.Rt Go.RowKit
noncomputable section
def c_30:Con te:=ae_ te [.d .str] [(.bool,[])] false λa=>fJ_ a.1
theorem ok_30:OKF 30 c_30:=⟨ab_ ad_ ac_ Tryz.func30 (by kernel_rfl) (pl := .s .p (.s .p (.s (.s .p (.lp ⟨[(32,.d (.int .i64))],[],[0,31],[],[],18011⟩ ⟨[],[],[],[],[],18011⟩ true .p)) .p))) λ_=>by kernel_rfl,by kernel_rfl⟩
def c_64:Con te:=ae_ te [.d (.sl .str),.d .str] [(.int .i64,[])] false λa=>dK_ a.1 a.2.1
theorem ok_64:OKF 64 c_64:=⟨ab_ ad_ ac_ Tryz.func64 (by kernel_rfl) (pl := .s .p (.s (.s .p (.lp ⟨[(8,.d (.int .i64))],[],[0,1,7],[],[],4⟩ ⟨[],[],[],[],[],4⟩ true .p)) .p)) λ_=>by kernel_rfl,by kernel_rfl⟩
def c_31:Con te:=ae_ te [.d (.sl .str),.d .str] [(.bool,[])] false λa=>aW_ a.1 a.2.1
theorem ok_31:OKF 31 c_31:=⟨ab_ ad_ (aa_ ok_64 ac_) Tryz.func31 (by kernel_rfl) (pl := .p) λ_=>by kernel_rfl,by kernel_rfl⟩
def c_10:Con te:=ae_ te [.d (.sl .str)] [(.st 5,[some 78,some 66]),(.int .i64,[])] true λa=>fX_ a.1
theorem ok_10:OKF 10 c_10:=⟨ab_ ad_ (aa_ ok_31 (aa_ ok_30 (bM_ lC_ ac_))) Tryz.func10 (by kernel_rfl) (pl := .s .p (.s .p (.s .p (.s (.s .p (.lp ⟨[(13,.d (.int .i64))],[(6,true,.cells 27 [.own 11,.own 12]),(11,false,.row 78 (.st 1) []),(12,false,.row 66 (.st 4) [])],[0,2,4,11,12],[0],[],13⟩ ⟨[],[(6,true,.cells 27 [.own 11,.own 12]),(11,false,.row 78 (.st 1) []),(12,false,.row 66 (.st 4) [])],[2,4],[0],[],13⟩ true .p)) .p)))) λ_=>by kernel_rfl,by kernel_rfl⟩
def c_76:Con te:=ae_ te [.d (.sl (.st 0))] [(.sl (.st 0),[some 80])] false λa=>aY_ a.1
theorem ok_76:OKF 76 c_76:=⟨ab_ ad_ ac_ Tryz.func76 (by kernel_rfl) (pl := .p) λa=>(congrFun ea_ a.1).symm.trans (by kernel_rfl),by kernel_rfl⟩
def c_87:Con te:=ae_ te [.d (.sl (.st 2))] [(.sl (.st 2),[some 87])] false λa=>aE_ a.1
theorem ok_87:OKF 87 c_87:=⟨ab_ ad_ ac_ Tryz.func87 (by kernel_rfl) (pl := .p) λa=>(congrFun fq_ a.1).symm.trans (by kernel_rfl),by kernel_rfl⟩
def c_52:Con te:=ae_ te [.d (.st 3)] [(.st 3,[none,none,none,none,some 87])] false λa=>bL_ a.1
theorem ok_52:OKF 52 c_52:=⟨ab_ ad_ (aa_ ok_87 ac_) Tryz.func52 (by kernel_rfl) (pl := .p) λ_=>by kernel_rfl,by kernel_rfl⟩
def c_41:Con te:=ae_ te [.d (.st 5)] [(.st 5,[some 78,some 66])] true λa=>br_ a.1
theorem ok_41:OKF 41 c_41:=⟨ab_ ad_ (aa_ ok_52 (aa_ ok_76 ac_)) Tryz.func41 (by kernel_rfl) (pl := .s .p (.s .p (.s (.s .p (.lp ⟨[(15,.d (.int .i64))],[(5,true,.cells 27 [.own 13,.own 14]),(13,false,.row 78 (.st 1) []),(14,false,.row 66 (.st 4) [])],[1,2,3,13,14],[0,2],[],15⟩ ⟨[],[(5,true,.cells 27 [.own 13,.own 14]),(13,false,.row 78 (.st 1) []),(14,false,.row 66 (.st 4) [])],[1,2,3],[0,2],[],15⟩ false (.s .p (.s .p (.s (.s .p (.dr [0,0,0,0,1,4,1,2,4,2] [] false [])) .p))))) (.s (.s .p (.lp ⟨[(32,.d (.int .i64))],[(5,true,.cells 27 [.own 13,.own 19]),(13,true,.row 78 (.st 1) []),(19,false,.row 66 (.st 4) [])],[2,3,30,31],[2],[],20⟩ ⟨[],[(5,true,.cells 27 [.own 13,.own 19]),(13,true,.row 78 (.st 1) []),(19,false,.row 66 (.st 4) [])],[2,3],[2],[],20⟩ false (.s .p (.s .p (.s (.s .p (.s .p (.s (.s .p (.lp ⟨[(44,.d (.int .i64))],[(32,true,.cells 66 [.v .str,.own 40,.v (.int .i64)]),(40,false,.row 39 (.st 3) [])],[2,3,8,30,31,32,42,43],[2,5,13,19],[],41⟩ ⟨[],[(32,true,.cells 66 [.v .str,.own 40,.v (.int .i64)]),(40,false,.row 39 (.st 3) [])],[2,3,8,30,31,32],[2,5,13,19],[],41⟩ false (.s .p (.s .p (.s (.s .p (.dr [0,0,0,1,1,2,4,2] [] false [])) .p))))) .p))) .p))))) .p)))) λ_=>by kernel_rfl,by kernel_rfl⟩
def c_42:Con te:=ae_ te [.d (.st 5),.d (.int .i64)] [(.bool,[])] false λa=>bR_ a.1 a.2.1
theorem ok_42:OKF 42 c_42:=⟨ab_ ad_ ac_ Tryz.func42 (by kernel_rfl) (pl := .p) λ_=>by kernel_rfl,by kernel_rfl⟩
def c_208:Con te:=ae_ te [.d .str,.d .str] [(.bool,[])] false λa=>cW_ a.1 a.2.1
theorem ok_208:OKF 208 c_208:=⟨ab_ ad_ ac_ Tryz.func208 (by kernel_rfl) (pl := .p) λ_=>by kernel_rfl,by kernel_rfl⟩
def c_172:Con te:=ae_ te [.d .str,.d .str] [(.str,[])] false λa=>cJ_ a.1 a.2.1
theorem ok_172:OKF 172 c_172:=⟨ab_ ad_ (aa_ ok_208 ac_) Tryz.func172 (by kernel_rfl) (pl := .p) λ_=>by kernel_rfl,by kernel_rfl⟩
def c_133:Con te:=ae_ te [.d .str,.d .str] [(.str,[])] false λa=>strings_TrimSuffix a.1 a.2.1
theorem ok_133:OKF 133 c_133:=⟨ab_ ad_ (aa_ ok_172 ac_) Tryz.func133 (by kernel_rfl) (pl := .p) λ_=>by kernel_rfl,by kernel_rfl⟩
def c_176:Con te:=ae_ te [.d .str,.d (.int .i64)] [(.sl .str,[])] false λa=>hF_ a.1 a.2.1
theorem ok_176:OKF 176 c_176:=⟨gL_ λ_=>rfl,by kernel_rfl⟩
def c_153:Con te:=ae_ te [.d .str,.d .str] [(.int .i64,[])] false λa=>strings_Index a.1 a.2.1
theorem ok_153:OKF 153 c_153:=⟨ab_ ad_ (aa_ dW_ ac_) Tryz.func153 (by kernel_rfl) (pl := .p) λ_=>by kernel_rfl,by kernel_rfl⟩
def c_138:Con te:=ae_ te [.d .str,.d .str,.d (.int .i64),.d (.int .i64)] [(.sl .str,[])] true λa=>strings_genSplit a.1 a.2.1 a.2.2.1 a.2.2.2.1
theorem ok_138:OKF 138 c_138:=⟨ab_ ad_ (aa_ ok_153 (aa_ fo_ (aa_ ok_176 ac_))) Tryz.func138 (by kernel_rfl) (pl := .s .p (.s .p (.s .p (.j ⟨[(3,.d (.int .i64))],[],[0,1,2],[],[],5⟩ false .p (.s .p (.s .p (.s .p (.s .p (.s (.lp ⟨[(0,.d .str),(10,.d (.int .i64))],[(12,true,.row 9 .str [])],[1,2,3,9],[],[],19⟩ ⟨[(0,.d .str),(10,.d (.int .i64))],[(12,true,.row 9 .str [])],[9],[],[],19⟩ false .p) .p))))))))) λ_=>by kernel_rfl,by kernel_rfl⟩
def c_132:Con te:=ae_ te [.d .str,.d .str] [(.sl .str,[])] true λa=>strings_Split a.1 a.2.1
theorem ok_132:OKF 132 c_132:=⟨ab_ ad_ (aa_ ok_138 ac_) Tryz.func132 (by kernel_rfl) (pl := .p) λ_=>by kernel_rfl,by kernel_rfl⟩
def c_95:Con te:=ae_ te [.d .str] [(.sl .str,[])] true λa=>k3_ a.1
theorem ok_95:OKF 95 c_95:=⟨ab_ ad_ (aa_ ok_132 (aa_ ok_133 ac_)) Tryz.func95 (by kernel_rfl) (pl := .p) λ_=>by kernel_rfl,by kernel_rfl⟩
def c_134:Con te:=ae_ te [.d .str,.d .str] [(.bool,[])] false λa=>aN_ a.1 a.2.1
theorem ok_134:OKF 134 c_134:=⟨ab_ ad_ ac_ Tryz.func134 (by kernel_rfl) (pl := .p) λ_=>by kernel_rfl,by kernel_rfl⟩
def c_96:Con te:=ae_ te [.d .str,.d .str] [(.bool,[])] false λa=>strings_HasPrefix a.1 a.2.1
theorem ok_96:OKF 96 c_96:=⟨ab_ ad_ (aa_ ok_134 ac_) Tryz.func96 (by kernel_rfl) (pl := .p) λ_=>by kernel_rfl,by kernel_rfl⟩
def c_97:Con te:=ae_ te [.d (.st 1)] [(.bool,[])] false λa=>fY_ a.1
theorem ok_97:OKF 97 c_97:=⟨ab_ ad_ ac_ Tryz.func97 (by kernel_rfl) (pl := .p) λ_=>by kernel_rfl,by kernel_rfl⟩
def c_173:Con te:=ae_ te [.d .str,.d .str] [(.str,[]),(.str,[]),(.bool,[])] false λa=>dS_ a.1 a.2.1
theorem ok_173:OKF 173 c_173:=⟨ab_ ad_ (aa_ dW_ ac_) Tryz.func173 (by kernel_rfl) (pl := .s .p (.s (.s .p (.s .p (.s (.s (.dr [0,0,0,0,0,0,0,0,0,0,0,0] [] false []) .p) .p))) .p)) λ_=>by kernel_rfl,by kernel_rfl⟩
def c_135:Con te:=ae_ te [.d .str,.d .str] [(.str,[]),(.str,[]),(.bool,[])] false λa=>strings_Cut a.1 a.2.1
theorem ok_135:OKF 135 c_135:=⟨ab_ ad_ (aa_ ok_173 ac_) Tryz.func135 (by kernel_rfl) (pl := .p) λ_=>by kernel_rfl,by kernel_rfl⟩
def c_98:Con te:=ae_ te [.d .str] [(.st 0,[])] false λa=>jw_ a.1
theorem ok_98:OKF 98 c_98:=⟨ab_ ad_ (aa_ ok_135 ac_) Tryz.func98 (by kernel_rfl) (pl := .p) λ_=>by kernel_rfl,by kernel_rfl⟩
def c_136:Con te:=ae_ te [.d .str] [(.sl .str,[some 9])] false λa=>fZ_ a.1
theorem ok_136:OKF 136 c_136:=⟨ab_ ad_ ac_ Tryz.func136 (by kernel_rfl) (pl := .s .p (.s (.s .p (.j ⟨[(4,.d .bool)],[],[3],[],[],2⟩ false .p .p)) .p)) λ_=>by kernel_rfl,by kernel_rfl⟩
def c_118:Con te:=ae_ te [.d .str,.d .str] [(.bool,[])] false λa=>strings_Contains a.1 a.2.1
theorem ok_118:OKF 118 c_118:=⟨ab_ ad_ (aa_ ok_153 ac_) Tryz.func118 (by kernel_rfl) (pl := .p) λ_=>by kernel_rfl,by kernel_rfl⟩
def c_174:Con te:=ae_ te [.bm 199 (.st 8) [none,none,none,some 202] false,.d (.st 6)] [(.int .i64,[])] false λa=>ar_ a.1 a.2.1
theorem iv_:OKF 174 c_174:=⟨ab_ ad_ ac_ Tryz.func174 (by kernel_rfl) (pl := .s .p (.s (.dr [4,0,0,0,0,0,1,2,4,4,2] [0,1,2,3,4,5] false []) .p)) λ_=>by kernel_rfl,by kernel_rfl⟩
def c_241:Con te:=ae_ te [.bm 199 (.st 8) [none,none,none,some 202] false] [(.int .u8,[]),(.bool,[])] false λa=>bK_ a.1
theorem ok_241:OKF 241 c_241:=⟨ab_ ad_ ac_ Tryz.func241 (by kernel_rfl) (pl := .s .p (.s (.s (.dr [0,0,0,0,0,0,0,0,0,0] [] false []) .p) (.s (.dr [0,0,0,0,0,0,0,0,0,0,0] [] false []) .p))) λ_=>by kernel_rfl,by kernel_rfl⟩
def c_259:Con te:=ae_ te [.bm 199 (.st 8) [none,none,none,some 202] false] [(.bool,[])] false λa=>aT_ a.1
theorem ok_259:OKF 259 c_259:=⟨ab_ ad_ ac_ Tryz.func259 (by kernel_rfl) (pl := .p) λ_=>by kernel_rfl,by kernel_rfl⟩
def c_210:Con te:=ae_ te [.bm 199 (.st 8) [none,none,none,some 202] false,.d (.int .u8)] [(.bool,[])] false λa=>aL_ a.1 a.2.1
theorem ok_210:OKF 210 c_210:=⟨ab_ ad_ (aa_ ok_241 ac_) Tryz.func210 (by kernel_rfl) (pl := .p) λ_=>by kernel_rfl,by kernel_rfl⟩
noncomputable abbrev fOwn:Func:=Tryz.f41
noncomputable def oC:Code:=fOwn.body.getD .skip
noncomputable def oR0:Code:=oC.lf
noncomputable def oR1:Code:=oC.rt.lf
noncomputable def oP2:Code:=oC.rt.rt.lf
noncomputable def oR7:Code:=oC.rt.rt.rt.lf.lf
noncomputable def oB2:Code:=oC.rt.rt.rt.lf.rt.lf.lf
noncomputable def oR18:Code:=oC.rt.rt.rt.rt.lf
noncomputable def oR8:Code:=oB2.lf
noncomputable def oB3:Code:=oB2.rt.rt.lf.lf
noncomputable def oR17:Code:=oB2.rt.rt.rt
noncomputable def oR9:Code:=oB3.lf
noncomputable def oR10:Code:=oB3.rt.lf
noncomputable def oP4:Code:=oB3.rt.rt.lf
noncomputable def oR16:Code:=oB3.rt.rt.rt
theorem oC_eq:fOwn.body=some (.seq oR0 (.seq oR1 (.seq oP2 (.seq (.seq oR7 (.block 2 (.loop (.seq oR8 (.seq (.cond (.tmp 33) .skip (.exit 2)) (.seq (.block 3 (.seq oR9 (.seq oR10 (.seq oP4 oR16)))) oR17)))))) (.seq oR18 .ret))))):=by kernel_rfl
theorem oR8_eq:oR8 = .region 8 [oR8.at 0].toArray false:=by kernel_rfl
theorem oR16_eq:oR16 = .region 16 [oR16.at 0,oR16.at 1,oR16.at 2,oR16.at 3,oR16.at 4,oR16.at 5,oR16.at 6].toArray false:=by kernel_rfl
theorem oR17_eq:oR17 = .region 17 [oR17.at 0,oR17.at 1].toArray false:=by kernel_rfl
theorem oR18_eq:oR18 = .region 18 [oR18.at 0,oR18.at 1].toArray false:=by kernel_rfl
noncomputable def tOwn:Tab te:=tb 52 c_52 (tb 76 c_76 dc_)
theorem fM_:tOwn.OK Tryz.prog te:=aa_ ok_52 (aa_ ok_76 ac_)
noncomputable def b0:Ba te:=⟨λ_=>none,λ_=>none,0⟩
noncomputable abbrev evO(c:Code)(pl:Pl){R:Type}(s:St te)(k:St te->Option R):Option R:=evCode Tryz.prog te eqL tOwn 64 Unit (λ_ _=>none) c pl R b0 s (thenE k) (λ_=>none)
noncomputable def oS0(x0:Xx):St te:=⟨[(0,some (.v (.agg [.dt (.sl (.st 1)) x0.Xb,.dt (.sl (.st 4)) x0.Xj])))],none,[],none,0⟩
noncomputable def oK1(s:St te):Option (List Xh×List Xk×List Xk×Int×Int):=(dL_ (s.L b0 2)).bind λi=>(dL_ (s.L b0 3)).bind λj=>(svDat (.sl (.st 4)) (s.L b0 30)).bind λxs=>(svInt (s.L b0 31)).bind λn=>(svInt (s.L b0 32)).bind λm=>(obBox 27 (s.H b0 i)).bind λcs2=>(obBox 27 (s.H b0 j)).bind λcs=>bA_ (!(Nat.beq i j)&&Nat.beq cs2.length 2&&Nat.beq cs.length 2)<|(scOwn cs[0]?).bind λp=>(scOwn cs[1]?).bind λq=>(obRow 78 (.st 1) (s.H b0 p)).bind λrs=>(obRow 66 (.st 4) (s.H b0 q)).bind λps=>some (rs,ps,xs,n,m)
noncomputable def oPl2:Pl := .s .p (.lp ⟨[(15,.d (.int .i64))],[(5,true,.cells 27 [.own 13,.own 14]),(13,false,.row 78 (.st 1) []),(14,false,.row 66 (.st 4) [])],[1,2,3,13,14],[0,2],[],15⟩ ⟨[],[(5,true,.cells 27 [.own 13,.own 14]),(13,false,.row 78 (.st 1) []),(14,false,.row 66 (.st 4) [])],[1,2,3],[0,2],[],15⟩ false (.s .p (.s .p (.s (.s .p (.dr [0,0,0,0,1,4,1,2,4,2] [] false [])) .p))))
theorem oEv1(x0:Xx):(evO oR0 .p (oS0 x0) λs1=>evO oR1 .p s1 λs2=>evO oP2 oPl2 s2 λs3=>evO oR7 .p s3 oK1)=(ah_ (bB_ x0) BIG (0,[],[])).bind λo1=>some (o1.1,o1.2,x0.Xj,(x0.Xj.length:Int),0):=by kernel_rfl
noncomputable def bIo:Ba te:=⟨λ_=>none,λ_=>none,3⟩
noncomputable abbrev evI(c:Code)(pl:Pl){R:Type}(s:St te)(k:St te->Option R):Option R:=evCode Tryz.prog te eqL tOwn 64 Unit (λ_ _=>none) c pl R bIo s (thenE k) (λ_=>none)
noncomputable def oSr(ports:List Xk)(n m:Int):St te:=⟨[(2,some (.v (.one (.ptr 1 0)))),(3,some (.v (.one (.ptr 2 0)))),(30,some (.v (.one (.dt (.sl (.st 4)) ports)))),(31,some (.v (.one (.dt (.int .i64) n)))),(32,some (.v (.one (.dt (.int .i64) m))))],none,[],none,21⟩
noncomputable def oKr(s:St te):Option (List Xk×Int×Int×Str×Int×List Xz):=(dL_ (s.L bIo 2)).bind λi=>(dL_ (s.L bIo 3)).bind λj=>(svDat (.sl (.st 4)) (s.L bIo 30)).bind λxs=>(svInt (s.L bIo 31)).bind λn=>(svInt (s.L bIo 32)).bind λm=>(dL_ (s.L bIo 8)).bind λk=>(obBox 66 (s.H bIo k)).bind λcs=>bA_ (Nat.beq i 1&&Nat.beq j 2&&Nat.beq cs.length 3)<|(fm_ .str cs[0]?).bind λnm=>(scOwn cs[1]?).bind λq=>(fm_ (.int .i64) cs[2]?).bind λop=>(obRow 39 (.st 3) (s.H bIo q)).bind λqs=>some (xs,n,m,nm,op,qs)
noncomputable def oPl4:Pl := .s .p (.lp ⟨[(44,.d (.int .i64))],[(32,true,.cells 66 [.v .str,.own 40,.v (.int .i64)]),(40,false,.row 39 (.st 3) [])],[2,3,8,30,31,32,42,43],[],[1,2],41⟩ ⟨[],[(32,true,.cells 66 [.v .str,.own 40,.v (.int .i64)]),(40,false,.row 39 (.st 3) [])],[2,3,8,30,31,32],[],[1,2],41⟩ false (.s .p (.s .p (.s (.s .p (.dr [0,0,0,1,1,2,4,2] [] false [])) .p))))
theorem oEvR(ports:List Xk)(n m:Int):(evI oR9 .p (oSr ports n m) λs1=>evI oR10 .p s1 λs2=>evI oP4 oPl4 s2 oKr)=(ag_ ports m).bind λy15=>(ah_ (bQ_ y15) BIG (0,y15.Xv,y15.Xp,[])).bind λo3=>some (ports,n,m,o3.1,o3.2.1,o3.2.2):=by kernel_rfl
end
structure HoleRows(z:Fz)(i:Nat)(ys:List Xk)(rows:List (List Value))(Aq:Option Addr)(capq:Nat)(rq:List (List Value)):Prop where
 len:rows.length=ys.length
 other:∀(j:Nat) (x:Xk) (r:List Value),j≠i->ys[j]? = some x->rows[j]? = some r->RD te z (te.flat (.st 4)) (te.fl (.st 4) x) r
 hole:∀x:Xk,ys[i]? = some x->rows[i]? = some [S x.Xv,.slice Aq x.Xf.length capq,.int .i64 x.Xp]/\rq.length=x.Xf.length/\Rt.Rows te z (.st 3) x.Xf rq
def OwnH(z0:Fz)(w0:World)(i:Nat)(y:Xx)(v:Value)(w:World):Prop:=∃z vr A cap rows Aq capq rq,Mx te z0 w0 w z [.row 66 3 A y.Xj.length cap rows,.row 39 6 Aq (rq:List (List Value)).length capq rq]/\v = .agg #[vr,.slice A y.Xj.length cap]/\RD te z [.sl (.st 1)] (y.Xb,()) [vr]/\HoleRows z i y.Xj rows Aq capq rq
section
variable{z0:Fz}{w0:World}{x0:Xx}{i:Nat}
def OwnJ(z0:Fz)(w0:World)(x0:Xx)(i b2 b3:Nat)(v2:List Value)(vr:Value)(rs:List Xh)(s:Int×List Xh×List Xk)(a:Act)(w:World):Prop :=
 ∃z A cap rows Aq capq rq vp,Mx te z0 w0 w z [.box b2 27 v2,.box b3 27 [vr,.slice A s.2.2.length cap],.row 66 3 A s.2.2.length cap rows,.row 39 6 Aq (rq:List (List Value)).length capq rq] /\
  Env 64 a [(2,.pointer (some ⟨b2,0,none⟩)),(3,.pointer (some ⟨b3,0,none⟩)),(30,vp),(31,.int .i64 (x0.Xj.length:Int)),(32,.int .i64 s.1)]/\RD te z [.sl (.st 4)] (x0.Xj,()) [vp] /\
  RD te z [.sl (.st 1)] (rs,()) [vr]/\HoleRows z i s.2.2 rows Aq capq rq/\s.2.1=rs
theorem two_list{l:List Value}(h:l.length=2):∃u v,l=[u,v]:=by
 match l,h with
 | [u,v],_=>exact⟨u,v,rfl⟩
theorem kp_{u v:Value}(h:cQ_ u=true)(h':cQ_ v=true):aM_ [u,v]=true:=by simp[aM_,h,h']
set_option maxRecDepth 100000 in
theorem own_end{b2 b3:Nat}{v2:List Value}{vr:Value}{rs:List Xh}{s:Int×List Xh×List Xk}{a:Act}{w:World}(hv2:v2.length=2)(hvr:cQ_ vr=true)(h:OwnJ z0 w0 x0 i b2 b3 v2 vr rs s a w) :
  (Code.seq oR18 .ret).wp Tryz.prog (bodyPost Tryz.prog fOwn λe w'=>∃v,e = .returned v/\OwnH z0 w0 i ⟨s.2.1,s.2.2⟩ v w') a w:=by
 obtain⟨z,A,cap,rows,Aq,capq,rq,vp,hM,hE,_,hr,hh,hs⟩:=h;rw[oR18_eq];obtain⟨u1,u2,rfl⟩:=two_list hv2;refine gc_ (λa' w'=>Env 64 a' [(2,.pointer (some ⟨b2,0,none⟩))]/\Sep [] w0 w' [.ro z.F z.In,.box b2 27 [vr,.slice A s.2.2.length cap],.box b3 27 [vr,.slice A s.2.2.length cap],.row 66 3 A s.2.2.length cap rows,.row 39 6 Aq rq.length capq rq]) (λa' w' ⟨hE',hS'⟩ => ?_) (e3_ ?_)
 .refine wp_ret (out (N:=64) (rs:=[.cell 2 27]) (vs:=[.agg #[vr,.slice A s.2.2.length cap]]) (by kernel_rfl) hE' hS' (.cons (.cell (i:=1) rfl rfl (by kernel_rfl)) .nil) ?_);refine⟨z,vr,A,cap,rows,Aq,capq,rq,⟨hM.le,hM.gl,hM.new,hS'.sub ?_,λr hr' => ?_⟩,rfl,hs▸hr,hh⟩
  .exact .cons_cons _ (.cons _ (.cons _ (List.Sublist.refl _)))
  .rcases List.mem_cons.1 hr' with rfl|hr'
   .trivial
   .obtain rfl:=List.mem_singleton.1 hr'
    trivial
 .refine dN_ hE (by kernel_rfl) 63 (by kernel_rfl) rfl (.agg #[vr,.slice A s.2.2.length cap]) (ld_box hE hM.sep 2 (by kernel_rfl:(oR18.at 0).op = .load 27 (.tmp 3)) rfl rfl (by kernel_rfl)) λa1 hE1 => ?_
  refine go_set (L':=[.ro z.F z.In,.box b2 27 [vr,.slice A s.2.2.length cap],.box b3 27 [vr,.slice A s.2.2.length cap],.row 66 3 A s.2.2.length cap rows,.row 39 6 Aq rq.length capq rq]) hE1 hM.sep (by kernel_rfl) (by kernel_rfl) 1 (by kernel_rfl:(oR18.at 1).op = .store 27 (.tmp 2) (.tmp 63)) rfl rfl rfl (by kernel_rfl) (by kernel_rfl) (kp_ hvr rfl) [vr,.slice A s.2.2.length cap] (by kernel_rfl) rfl λw1 hS1 => ?_
  exact⟨hE1.sel ⟨rfl,trivial⟩,hS1⟩
def gI(b2 b3:Nat):Ga:=λj=>if j=1 then some ⟨none,0,0,0,b2,0⟩else if j=2 then some ⟨none,0,0,0,b3,0⟩else none
theorem two_list'{α:Type}{l:List α}(h:l.length=2):∃u v,l=[u,v]:=by
 match l,h with
 | [u,v],_=>exact⟨u,v,rfl⟩
theorem three_list{α:Type}{l:List α}(h:l.length=3):∃u v x,l=[u,v,x]:=by
 match l,h with
 | [u,v,x],_=>exact⟨u,v,x,rfl⟩
set_option maxRecDepth 100000 in
theorem own_round{b2 b3:Nat}{v2:List Value}{vr:Value}{rs:List Xh}{s:Int×List Xh×List Xk}{a:Act}{w:World}{Q:Exit->Act->World->Prop}(_:cQ_ vr=true)(hJ:OwnJ z0 w0 x0 i b2 b3 v2 vr rs s a w)
  {st:Step (Int×List Xh×List Xk) (List Xh×List Xk)} (hst:cB_ x0 s=some st) (hQ:∀n a w,OwnJ z0 w0 x0 i b2 b3 v2 vr rs (n,s.2) a w->st = .done s.2->Q .normal a w) :
  (Code.seq oR8 (.seq (.cond (.tmp 33) .skip (.exit 2)) (.seq (.block 3 (.seq oR9 (.seq oR10 (.seq oP4 oR16)))) oR17))).wp Tryz.prog (Exit.then (λa' w'=>∃s',st = .next s'/\OwnJ z0 w0 x0 i b2 b3 v2 vr rs s' a' w') (Exit.inBlock 2 Q)) a w:=by
 obtain⟨z,A,cap,rows,Aq,capq,rq,vp,hM,hE,hp,hr,hh,hs⟩:=hJ;rw[oR8_eq];refine gc_ (λa' w'=>w'=w/\Env 64 a' [(33,.bool (decide (s.1<(x0.Xj.length:Int)))),(2,.pointer (some ⟨b2,0,none⟩)),(3,.pointer (some ⟨b3,0,none⟩)),(30,vp),(31,.int .i64 (x0.Xj.length:Int)),(32,.int .i64 s.1)]) ?_ (e3_ (eT_ hE (by kernel_rfl) 33 (by kernel_rfl) rfl _ (by kernel_rfl) λa1 hE1=>⟨rfl,hE1⟩))
 rintro a1 w1 ⟨rfl,hE1⟩;unfold cB_ at hst;cases hlt:decide (s.1<(x0.Xj.length:Int))with
 | false =>
  rw[hlt]at hst hE1;refine wp_seq (c_false hE1 rfl rfl (wp_exit ?_));show(if 2=2 then Q .normal a1 w1 else Q (.exit 2) a1 w1);rw[if_pos rfl];exact hQ s.1 a1 w1 ⟨z,A,cap,rows,Aq,capq,rq,vp,hM,hE1.sel ⟨rfl,rfl,rfl,rfl,rfl,trivial⟩,hp,hr,hh,hs⟩ (qSj hst).symm
 | true =>
  rw[hlt]at hst hE1;obtain⟨y15,h1,hst⟩:=bind_some (show(ag_ x0.Xj s.1).bind _=some st from hst);obtain⟨o3,h2,hst⟩:=bind_some hst;obtain⟨y22,h3,hst⟩:=bind_some hst;obtain rfl:=qSj hst;refine wp_seq (c_true hE1 rfl rfl (wp_skip ?_));have hev:(evI oR9 .p (oSr x0.Xj (x0.Xj.length:Int) s.1) λs1=>evI oR10 .p s1 λs2=>evI oP4 oPl4 s2 oKr)=some (x0.Xj,(x0.Xj.length:Int),s.1,o3.1,o3.2.1,o3.2.2):=by
   rw[oEvR,h1];show(ah_ (bQ_ y15) BIG (0,y15.Xv,y15.Xp,[])).bind _=_;rw[h2];rfl
  have hlo:Fresh (gI b2 b3) bIo.lo:=λj hj=>by
   have:3<=j:=hj;unfold gI;rw[if_neg (by omega),if_neg (by omega)]
  have hR:Rel Tryz.prog te [] ⟨z,gI b2 b3,3⟩ w1 64 ((oSr x0.Xj (x0.Xj.length:Int) s.1).L bIo) ((oSr x0.Xj (x0.Xj.length:Int) s.1).H bIo) (oSr x0.Xj (x0.Xj.length:Int) s.1).nx a1 w1 :=
   hM.rel (hE1.sel (sl:=[(2,.pointer (some ⟨b2,0,none⟩)),(3,.pointer (some ⟨b3,0,none⟩)),(30,vp),(31,.int .i64 (x0.Xj.length:Int)),(32,.int .i64 s.1)]) ⟨rfl,rfl,rfl,rfl,rfl,trivial⟩)
    (.cons ⟨_,rfl,rfl⟩ (.cons ⟨_,rfl,rfl⟩ (.cons hp (.cons (.int .nil) (.cons (.int .nil) .nil))))) λj hj=>hlo j (Nat.le_trans (by decide) hj)
  refine gc_ (λa' w'=>∃z' A cap rows Aq capq rq vp,Mx te z0 w0 w' z' [.box b2 27 v2,.box b3 27 [vr,.slice A y22.length cap],.row 66 3 A y22.length cap rows,.row 39 6 Aq (rq:List (List Value)).length capq rq] /\
   Env 64 a' [(2,.pointer (some ⟨b2,0,none⟩)),(3,.pointer (some ⟨b3,0,none⟩)),(30,vp),(31,.int .i64 (x0.Xj.length:Int)),(32,.int .i64 s.1)]/\RD te z' [.sl (.st 4)] (x0.Xj,()) [vp] /\
   RD te z' [.sl (.st 1)] (rs,()) [vr]/\HoleRows z' i y22 rows Aq capq rq) ?_ ?_
  .rintro a2 w2 ⟨z2,A2,cap2,rows2,Aq2,capq2,rq2,vp2,hM2,hE2,hp2,hr2,hh2⟩;rw[oR17_eq];refine e3_ (eT_ hE2 (by kernel_rfl) 62 (by kernel_rfl) rfl (.int .i64 (w64 (s.1+1))) (by kernel_rfl) λa3 hE3 => ?_);refine eT_ hE3 (by kernel_rfl) 32 (by kernel_rfl) rfl (.int .i64 (w64 (s.1+1))) (by kernel_rfl) λa4 hE4 => ?_
   exact⟨_,rfl,z2,A2,cap2,rows2,Aq2,capq2,rq2,vp2,hM2,hE4.sel ⟨rfl,rfl,rfl,rfl,rfl,trivial⟩,hp2,hr2,hh2,hs⟩
  refine wp_block ?_;refine wp_seq (frag ad_ fM_ hlo hev hR λex s1 a2 w2 he hR => ?_);cases ex with
  | some _=>cases he
  | none =>
  refine wp_seq (frag ad_ fM_ hlo he hR λex s2 a3 w3 he hR => ?_);cases ex with
  | some _=>cases he
  | none =>
  refine wp_seq (frag ad_ fM_ hlo he hR λex s3 a4 w4 he hR => ?_);cases ex with
  | some _=>cases he
  | none =>
  show oR16.wp _ _ a4 w4
  replace he:oKr s3=some (x0.Xj,(x0.Xj.length:Int),s.1,o3.1,o3.2.1,o3.2.2):=he;obtain⟨z3,g3,hE3,hH3,hf3,hz3,hg3⟩:=hR;unfold oKr at he;obtain⟨i2,e2,he⟩:=bind_some he;obtain⟨i3,e3,he⟩:=bind_some he;obtain⟨xs,e30,he⟩:=bind_some he;obtain⟨n,e31,he⟩:=bind_some he;obtain⟨m,e32,he⟩:=bind_some he;obtain⟨k,e8,he⟩:=bind_some he;obtain⟨cs,ek,he⟩:=bind_some he;obtain⟨hb,he⟩:=aQ_ he;obtain⟨nm,c0,he⟩:=bind_some he;obtain⟨q,c1,he⟩:=bind_some he;obtain⟨op,c2,he⟩:=bind_some he;obtain⟨qs,eq,he⟩:=bind_some he;injection qSj he with hx he;injection he with hn he;injection he with hm he;injection he with hnm he;injection he with hop hqs
  subst hx hn hm;simp only[qAn]at hb;obtain rfl:=qNb hb.1.1;obtain rfl:=qNb hb.1.2;obtain⟨u0,u1,u2,rfl⟩:=three_list (qNb hb.2);obtain rfl:=qSj (cr_ c0);obtain rfl:=qSj (jh_ c1);obtain rfl:=qSj (cr_ c2);obtain⟨foc,eq⟩:=jg_ eq;obtain⟨p2,t2,l2,gl2,rfl⟩:=hE3.get 2 _ (bt_ e2);obtain⟨p3,t3,l3,gl3,rfl⟩:=hE3.get 3 _ (bt_ e3);obtain⟨v30,t30,r30⟩:=hE3.get 30 _ (mx_ e30);obtain⟨v31,t31,r31⟩:=hE3.get 31 _ (fn_ e31);obtain⟨v32,t32,r32⟩:=hE3.get 32 _ (fn_ e32);obtain⟨p8,t8,l8,gl8,rfl⟩:=hE3.get 8 _ (bt_ e8);obtain rfl:=qSj ((hg3 1 _ rfl).symm.trans gl2);obtain rfl:=qSj ((hg3 2 _ rfl).symm.trans gl3);obtain⟨lk,vs,gk,hvs,rk⟩:=gh_ hH3 (bc_ ek)
  obtain rfl:=qSj (gl8.symm.trans gk);obtain⟨lq,rowsq,gq,nq,lenq,hrq,resq⟩:=hH_ hH3 eq;have hM3:=hM.step hH3 hz3 [(k,.box l8.b 66 vs),(q,.row 39 6 lq.A qs.length lq.cap rowsq)] (λp hp=>by
   rcases List.mem_cons.1 hp with rfl|hp
   .exact⟨_,bc_ ek,rk⟩
   .obtain rfl:=List.mem_singleton.1 hp;exact⟨_,eq,resq⟩) (by
   have:k≠q:=λe=>by
    subst e;rw[bc_ ek]at eq;cases eq
   simp[this])
  cases hvs with
  | cons h0 hvs =>
  cases hvs with
  | cons h1' hvs =>
  cases hvs with
  | cons h2' hvs =>
  cases hvs
  rename_i p0 p1 p2;obtain⟨_,ev,_⟩:=RD.str_inv h0;injection ev with ev _;subst ev;obtain⟨_,ev,_⟩:=RD.int_inv h2';injection ev with ev _;subst ev;obtain⟨lq',gq',rfl⟩:=h1';obtain rfl:=qSj (gq.symm.trans gq');obtain⟨_,ev,_⟩:=RD.int_inv r31;injection ev with ev _;subst ev;obtain⟨_,ev,_⟩:=RD.int_inv r32;injection ev with ev _;subst ev;have hEn:=((((((Env.of_er hE3).add t32).add t31).add t30).add t8).add t3).add t2;subst hnm hop hqs;rw[nq]at hM3;rw[oR16_eq];refine e3_ (eT_ hEn (by kernel_rfl) 56 (by kernel_rfl) rfl (.pointer (some ⟨b3,1,none⟩)) (by kernel_rfl) λa5 hE5 => ?_);refine dN_ hE5 (by kernel_rfl) 57 (by kernel_rfl) rfl (.slice A s.2.2.length cap) (ld_box hE5 hM3.sep 4 (by kernel_rfl:(oR16.at 1).op = .load 25 (.tmp 56)) rfl rfl (by kernel_rfl)) λa6 hE6 => ?_
  refine dN_ hE6 (by kernel_rfl) 58 (by kernel_rfl) rfl (.agg #[S o3.1,.slice lq.A o3.2.2.length lq.cap,.int .i64 o3.2.1]) (ld_box hE6 hM3.sep 1 (by kernel_rfl:(oR16.at 2).op = .load 66 (.tmp 8)) rfl rfl (by kernel_rfl)) λa7 hE7 => ?_
  refine go_slice hE7 hM3.sep (by kernel_rfl) 59 (by kernel_rfl) rfl 66 3 1 [[S o3.1,.slice lq.A o3.2.2.length lq.cap,.int .i64 o3.2.1]] (λ_=>by kernel_rfl) rfl (λr hr=>by obtain rfl:=List.mem_singleton.1 hr;rfl) rfl λa8 w8 A8 _ hE8 hS8 => ?_
  have hlit:=bx_ (hS8.hold _ (List.mem_cons_self ..));refine go_app (n':=s.2.2.length+1) (rows':=rows++[[S o3.1,.slice lq.A o3.2.2.length lq.cap,.int .i64 o3.2.1]]) hE8 hS8 (by kernel_rfl) 60 (by kernel_rfl) rfl 6 (by kernel_rfl:(oR16.at 4).op = .call { callee := .builtin .append,args := #[.tmp 57,.tmp 59],argTypes := #[25,25] }) (h5_ (t:=25) (e:=66) (c:=3) (bytes:=48) (by kernel_rfl) (by kernel_rfl)) rfl rfl rfl hlit (λr hr=>by obtain rfl:=List.mem_singleton.1 hr;rfl) rfl rfl h3 (λr hr=>by obtain rfl:=List.mem_singleton.1 hr;rfl) rfl rfl λa9 w9 A9 cap9 hE9 hS9 => ?_
  refine eT_ hE9 (by kernel_rfl) 61 (by kernel_rfl) rfl (.pointer (some ⟨b3,1,none⟩)) (by kernel_rfl) λa10 hE10 => ?_
  refine go_set (L':=[.row 66 3 A8 1 1 [[S o3.1,.slice lq.A o3.2.2.length lq.cap,.int .i64 o3.2.1]],.ro z3.F z3.In,.box l8.b 66 [S o3.1,.slice lq.A o3.2.2.length lq.cap,.int .i64 o3.2.1],.row 39 6 lq.A o3.2.2.length lq.cap rowsq,.box b2 27 v2,.box b3 27 [vr,.slice A9 (s.2.2.length+1) cap9],.row 66 3 A9 (s.2.2.length+1) cap9 (rows++[[S o3.1,.slice lq.A o3.2.2.length lq.cap,.int .i64 o3.2.1]]),.row 39 6 Aq rq.length capq rq]) hE10 hS9 (by kernel_rfl) (by kernel_rfl) 5 (by kernel_rfl:(oR16.at 6).op = .store 25 (.tmp 61) (.tmp 60)) rfl rfl rfl (by kernel_rfl) (by kernel_rfl) rfl [vr,.slice A9 (s.2.2.length+1) cap9] (by kernel_rfl) rfl λw11 hS11 => ?_
  obtain⟨_,_,rfl⟩:=gb_ h3;have hl1:(s.2.2++[(Xk.mk o3.1 o3.2.2 o3.2.1)]).length=s.2.2.length+1:=by simp
  rw[←hl1]at hS11;have hM11:=hM3.of_sep hS11 (l:=[.row 39 6 lq.A o3.2.2.length lq.cap rowsq,.box b2 27 v2,.box b3 27 [vr,.slice A9 (s.2.2++[(Xk.mk o3.1 o3.2.2 o3.2.1)]).length cap9],.row 66 3 A9 (s.2.2++[(Xk.mk o3.1 o3.2.2 o3.2.1)]).length cap9 (rows++[[S o3.1,.slice lq.A o3.2.2.length lq.cap,.int .i64 o3.2.1]]),.row 39 6 Aq rq.length capq rq]) (.cons _ (.cons_cons _ (.cons _ (List.Sublist.refl _)))) (by
   intro r hr;simp only[List.mem_cons,List.not_mem_nil,or_false]at hr;rcases hr with rfl|rfl|rfl|rfl|rfl<;>trivial)
  have hE11:=hE10.sel (sl:=[(2,.pointer (some ⟨b2,0,none⟩)),(3,.pointer (some ⟨b3,0,none⟩)),(30,v30),(31,.int .i64 (x0.Xj.length:Int)),(32,.int .i64 s.1)]) ⟨rfl,rfl,rfl,rfl,rfl,trivial⟩;have hrl:rows.length=s.2.2.length:=hh.len;have r30:RD te z3 [.sl (.st 4)] (x0.Xj,()) [v30]:=r30;have left:∀(j:Nat) (x:Xk) (r:List Value),j<s.2.2.length->(s.2.2++[(Xk.mk o3.1 o3.2.2 o3.2.1)])[j]? = some x->(rows++[[S o3.1,.slice lq.A o3.2.2.length lq.cap,.int .i64 o3.2.1]])[j]? = some r->s.2.2[j]? = some x/\rows[j]? = some r:=λj x r hj h5 h6=>by
   rw[List.getElem?_append_left hj]at h5;rw[List.getElem?_append_left (by omega)]at h6;exact⟨h5,h6⟩
  have last:∀(j:Nat) (x:Xk),¬j<s.2.2.length->(s.2.2++[(Xk.mk o3.1 o3.2.2 o3.2.1)])[j]? = some x->j=s.2.2.length/\x=Xk.mk o3.1 o3.2.2 o3.2.1:=λj x hj h5=>by
   have hjl:=(List.getElem?_eq_some_iff.1 h5).1;rw[qLa,List.length_singleton]at hjl;have:j=s.2.2.length:=by omega
   subst this;rw[List.getElem?_append_right (Nat.le_refl _),Nat.sub_self]at h5;exact⟨rfl,(qSj h5).symm⟩
  have lastr:(rows++[[S o3.1,.slice lq.A o3.2.2.length lq.cap,.int .i64 o3.2.1]])[s.2.2.length]? = some [S o3.1,.slice lq.A o3.2.2.length lq.cap,.int .i64 o3.2.1]:=by
   rw[←hrl,List.getElem?_append_right (Nat.le_refl _),Nat.sub_self];rfl
  by_cases hi:s.2.2.length=i
  .subst hi;refine⟨z3,A9,cap9,rows++[[S o3.1,.slice lq.A o3.2.2.length lq.cap,.int .i64 o3.2.1]],lq.A,lq.cap,rowsq,v30,?_,hE11,r30,hr.le hz3,by rw[qLa,qLa,hrl];rfl,λj x r hj h5 h6 => ?_,λx h5 => ?_⟩
   .rw[lenq];refine(hM11.sub (L':=[.row 39 6 lq.A o3.2.2.length lq.cap rowsq,.box b2 27 v2,.box b3 27 [vr,.slice A9 (s.2.2++[(Xk.mk o3.1 o3.2.2 o3.2.1)]).length cap9],.row 66 3 A9 (s.2.2++[(Xk.mk o3.1 o3.2.2 o3.2.1)]).length cap9 (rows++[[S o3.1,.slice lq.A o3.2.2.length lq.cap,.int .i64 o3.2.1]])]) ?_).perm ?_
    .exact .cons_cons _ (.cons_cons _ (.cons_cons _ (.cons_cons _ (.cons _ .slnil))))
    .exact List.perm_append_comm (l₁ := [_]) (l₂ := [_,_,_])
   .by_cases hjl:j<s.2.2.length
    .obtain⟨h7,h8⟩:=left j x r hjl h5 h6;exact(hh.other j x r hj h7 h8).le hz3
    .exact absurd (last j x hjl h5).1 hj
   .obtain⟨_,rfl⟩:=last _ x (Nat.lt_irrefl _) h5;exact⟨lastr,lenq,hrq⟩
  .obtain⟨hMf,hzf,hsl⟩:=hM11.freeze;refine⟨_,A9,cap9,rows++[[S o3.1,.slice lq.A o3.2.2.length lq.cap,.int .i64 o3.2.1]],Aq,capq,rq,v30,hMf,hE11,r30.le hzf,(hr.le hz3).le hzf,by rw[qLa,qLa,hrl];rfl,λj x r hj h5 h6 => ?_,λx h5 => ?_⟩
   .by_cases hjl:j<s.2.2.length
    .obtain⟨h7,h8⟩:=left j x r hjl h5 h6;exact((hh.other j x r hj h7 h8).le hz3).le hzf
    .obtain⟨rfl,rfl⟩:=last j x hjl h5;obtain rfl:=qSj (lastr.symm.trans h6);exact .str (.sl hsl (Own.cap_le resq.2.1.1).1 (λj x r h7 h8=>(hrq.le hzf) j x r h7 h8) (.int .nil))
   .by_cases hil:i<s.2.2.length
    .rw[List.getElem?_append_left hil]at h5;obtain⟨h7,h8,h9⟩:=hh.hole x h5;exact⟨by rw[List.getElem?_append_left (by omega)];exact h7,h8,(h9.le hz3).le hzf⟩
    .exact absurd (last i x hil h5).1.symm hi
end
theorem own_ports{x0:Xx}:∀(n:Nat) (s:Int×List Xh×List Xk) (o:List Xh×List Xk),ah_ (bB_ x0) n s=some o->o.2=s.2.2
 | 0,_,_,h=>by cases h
 | n+1,s,o,h=>by
  simp only[ah_]at h;split at h
  .cases h
  .rename_i s' hb;have h1:=own_ports n s' o h;unfold bB_ at hb;cases hlt:decide (s.1<(x0.Xb.length:Int))with
   | false=>rw[hlt]at hb;cases hb
   | true =>
    rw[hlt]at hb;obtain⟨_,_,hb⟩:=bind_some (show(ag_ x0.Xb s.1).bind _=_ from hb);obtain⟨_,_,hb⟩:=bind_some hb;obtain⟨_,_,hb⟩:=bind_some hb;injection qSj hb with hb;subst hb;exact h1
  .rename_i b hb;obtain rfl:=qSj h;unfold bB_ at hb;cases hlt:decide (s.1<(x0.Xb.length:Int))with
   | false =>
    rw[hlt]at hb;injection qSj hb with hb;subst hb;rfl
   | true =>
    rw[hlt]at hb;obtain⟨_,_,hb⟩:=bind_some (show(ag_ x0.Xb s.1).bind _=_ from hb);obtain⟨_,_,hb⟩:=bind_some hb;obtain⟨_,_,hb⟩:=bind_some hb;cases hb
set_option maxRecDepth 100000 in
theorem own_hole{x0 y:Xx}(hy:br_ x0=some y)(i:Nat){w:World}{z:Fz}(hz:z.In w)(hg:Glo te z){v0:Value}(hv:RV Tryz.prog te z (λ_=>none) (.v (.agg [.dt (.sl (.st 1)) x0.Xb,.dt (.sl (.st 4)) x0.Xj])) v0) :
  Ret Tryz.prog 41 #[v0] w (OwnH z w i y):=by
 unfold br_ at hy;obtain⟨o1,h1,hy⟩:=bind_some hy;obtain⟨o4,h2,hy⟩:=bind_some hy;obtain rfl:=qSj hy;refine enter Tryz.func41 oC_eq (by kernel_rfl) (by kernel_rfl) (N:=64) λa hE => ?_
 have hM0:=Mx.start (E:=te) hz hg;have hev:(evO oR0 .p (oS0 x0) λs1=>evO oR1 .p s1 λs2=>evO oP2 oPl2 s2 λs3=>evO oR7 .p s3 oK1)=some (o1.1,o1.2,x0.Xj,(x0.Xj.length:Int),0):=by
  rw[oEv1,h1];rfl
 have hlo:Fresh (λ_=>none) b0.lo:=λ_ _=>rfl
 have hR:Rel Tryz.prog te [] ⟨z,λ_=>none,0⟩ w 64 ((oS0 x0).L b0) ((oS0 x0).H b0) (oS0 x0).nx a w:=hM0.rel hE (.cons hv .nil) hlo;refine wp_seq (frag ad_ fM_ hlo hev hR λex s1 a1 w1 he hR => ?_);cases ex with
 | some _=>cases he
 | none =>
 refine wp_seq (frag ad_ fM_ hlo he hR λex s2 a2 w2 he hR => ?_);cases ex with
 | some _=>cases he
 | none =>
 refine wp_seq (frag ad_ fM_ hlo he hR λex s3 a3 w3 he hR => ?_);cases ex with
 | some _=>cases he
 | none =>
 refine gc_ (λa' w'=>∃n b2 b3 v2 vr,v2.length=2/\cQ_ vr=true/\OwnJ z w x0 i b2 b3 v2 vr o1.1 (n,o4) a' w') (λa' w' ⟨n,b2,b3,v2,vr,h3,h4,hJ⟩=>own_end h3 h4 hJ) ?_;refine wp_seq (frag ad_ fM_ hlo he hR λex s4 a4 w4 he hR => ?_);cases ex with
 | some _=>cases he
 | none =>
 show(Code.block 2 _).wp _ _ a4 w4
 replace he:oK1 s4=some (o1.1,o1.2,x0.Xj,(x0.Xj.length:Int),0):=he;obtain⟨z4,g4,hE4,hH4,hf4,hz4,hg4⟩:=hR;unfold oK1 at he;obtain⟨i2,e2,he⟩:=bind_some he;obtain⟨i3,e3,he⟩:=bind_some he;obtain⟨xs,e30,he⟩:=bind_some he;obtain⟨n,e31,he⟩:=bind_some he;obtain⟨m,e32,he⟩:=bind_some he;obtain⟨cs2,ek2,he⟩:=bind_some he;obtain⟨cs,ek,he⟩:=bind_some he;obtain⟨hb,he⟩:=aQ_ he;obtain⟨p,c0,he⟩:=bind_some he;obtain⟨q,c1,he⟩:=bind_some he;obtain⟨rs,ep,he⟩:=bind_some he;obtain⟨ps,eq,he⟩:=bind_some he;injection qSj he with hrs he;injection he with hps he;injection he with hx he;injection he with hn hm;subst hrs hps hx hn hm
 simp only[qAn,Bool.not_eq_true']at hb;have hne:i2≠i3:=aI_ hb.1.1;obtain⟨u0,u1,rfl⟩:=two_list' (qNb hb.2);have hcs2:=qNb hb.1.2;obtain rfl:=qSj (jh_ c0);obtain rfl:=qSj (jh_ c1);obtain⟨foc1,ep⟩:=jg_ ep;obtain⟨foc2,eq⟩:=jg_ eq;obtain⟨p2,t2,l2,gl2,rfl⟩:=hE4.get 2 _ (bt_ e2);obtain⟨p3,t3,l3,gl3,rfl⟩:=hE4.get 3 _ (bt_ e3);obtain⟨v30,t30,r30⟩:=hE4.get 30 _ (mx_ e30);obtain⟨v31,t31,r31⟩:=hE4.get 31 _ (fn_ e31);obtain⟨v32,t32,r32⟩:=hE4.get 32 _ (fn_ e32);obtain⟨lk2,v2,gk2,hvs2,rk2⟩:=gh_ hH4 (bc_ ek2);obtain rfl:=qSj (gl2.symm.trans gk2);obtain⟨lk3,v3,gk3,hvs3,rk3⟩:=gh_ hH4 (bc_ ek);obtain rfl:=qSj (gl3.symm.trans gk3)
 obtain⟨lp,rowsp,gp,np,lenp,hrp,resp⟩:=hH_ hH4 ep;obtain⟨lq,rowsq,gq,nq,lenq,hrq,resq⟩:=hH_ hH4 eq;have hM4:=hM0.step hH4 hz4 [(p,.row 78 1 lp.A o1.1.length lp.cap rowsp),(i2,.box l2.b 27 v2),(i3,.box l3.b 27 v3),(q,.row 66 3 lq.A o1.2.length lq.cap rowsq)] (λr hr=>by
  simp only[List.mem_cons,List.not_mem_nil,or_false]at hr;rcases hr with rfl|rfl|rfl|rfl
  .exact⟨_,ep,resp⟩
  .exact⟨_,bc_ ek2,rk2⟩
  .exact⟨_,bc_ ek,rk3⟩
  .exact⟨_,eq,resq⟩) (by
  have h5:p≠i2:=λe=>by subst e;rw[bc_ ek2]at ep;cases ep
  have h6:p≠i3:=λe=>by subst e;rw[bc_ ek]at ep;cases ep
  have h7:p≠q:=λe=>by subst e;rw[ep]at eq;injection eq with eq;injection eq with e1;cases e1
  have h8:i2≠q:=λe=>by subst e;rw[bc_ ek2]at eq;cases eq
  have h9:i3≠q:=λe=>by subst e;rw[bc_ ek]at eq;cases eq
  simp[h5,h6,h7,h8,h9,hne])
 cases hvs3 with
 | cons c0' hvs3 =>
 cases hvs3 with
 | cons c1' hvs3 =>
 cases hvs3
 obtain⟨lp',gp',rfl⟩:=c0';obtain rfl:=qSj (gp.symm.trans gp');obtain⟨lq',gq',rfl⟩:=c1';obtain rfl:=qSj (gq.symm.trans gq');obtain⟨_,ev,_⟩:=RD.int_inv r31;injection ev with ev _;subst ev;obtain⟨_,ev,_⟩:=RD.int_inv r32;injection ev with ev _;subst ev;have hEn:=(((((Env.of_er hE4).add t32).add t31).add t30).add t3).add t2;have r30:RD te z4 [.sl (.st 4)] (x0.Xj,()) [v30]:=r30;obtain⟨hMf,hzf,hsl⟩:=hM4.freeze;have hports:=own_ports _ _ _ h1;have hp0:o1.2=[]:=hports;have hrq0:rowsq=[]:=List.length_eq_zero_iff.1 (by rw[lenq,hp0];rfl);have hvl:v2.length=2:=hvs2.len.symm.trans hcs2;have hv:cQ_ (Value.slice lp.A lp.n lp.cap)=true:=rfl
 refine wp_block (hu_ h2 (λs a w'=>OwnJ z w x0 i l2.b l3.b v2 (.slice lp.A lp.n lp.cap) o1.1 s a w') ?_ λs a w' hJ st hst hdone=>own_round hv hJ hst λn a w'' hJ' hst' => ?_)
 .refine⟨_,lq.A,lq.cap,rowsq,none,0,[],v30,?_,hEn,r30.le hzf,?_,⟨?_,λj x r _ h5 _ => ?_,λx h5 => ?_⟩,rfl⟩
  .have:=(hMf.nilRow 39 6).perm (L':=[.box l2.b 27 v2,.box l3.b 27 [.slice lp.A lp.n lp.cap,.slice lq.A lq.n lq.cap],.row 66 3 lq.A o1.2.length lq.cap rowsq,.row 39 6 none 0 0 []]) (List.perm_append_comm (l₁ := [_]) (l₂ := [_,_,_]));rw[nq]at this;exact this
  .rw[np];exact .sl hsl (Own.cap_le resp.2.1.1).1 (λj x r h7 h8=>(hrp.le hzf) j x r h7 h8) .nil
  .exact lenq
  .rw[hp0]at h5;simp at h5
  .rw[hp0]at h5;simp at h5
 .have h5:s.2=o4:=hdone _ hst';obtain⟨s1,s2⟩:=s;subst h5;exact⟨n,l2.b,l3.b,v2,_,hvl,hv,hJ'⟩
noncomputable section
def gi_(rec0:regex_parser->Int->Option (Bool×regex_parser)):Con te:=ae_ te [.bm 199 (.st 8) [none,none,none,some 202] false,.d (.int .i64)] [(.bool,[])] false λa=>rec0 a.1 a.2.1
def cS_260(f175:regex_parser->Int->Option (Bool×regex_parser)):Con te:=ae_ te [.bm 199 (.st 8) [none,none,none,some 202] false,.d (.int .i64)] [(.bool,[])] false λa=>fb_ f175 a.1 a.2.1
theorem okS_260(f175:regex_parser->Int->Option (Bool×regex_parser))(h175:OKF 175 (gi_ f175)):OKF 260 (cS_260 f175):=⟨ab_ ad_ (aa_ ok_210 (aa_ h175 (aa_ iv_ (aa_ ok_259 ac_)))) Tryz.func260 (by kernel_rfl) (pl := .p) λ_=>by kernel_rfl,by kernel_rfl⟩
def c_262:Con te:=ae_ te [.bm 199 (.st 8) [none,none,none,some 202] false] [(.int .u8,[]),(.bool,[])] false λa=>dn_ a.1
theorem ok_262:OKF 262 c_262:=⟨ab_ ad_ (aa_ ok_259 (aa_ ok_241 ac_)) Tryz.func262 (by kernel_rfl) (pl := .p) λ_=>by kernel_rfl,by kernel_rfl⟩
def c_267:Con te:=ae_ te [.bm 199 (.st 8) [none,none,none,some 202] false] [(.int .u8,[]),(.bool,[])] false λa=>ck_ a.1
theorem ok_267:OKF 267 c_267:=⟨ab_ ad_ (aa_ ok_262 (aa_ ok_259 (aa_ ok_241 ac_))) Tryz.func267 (by kernel_rfl) (pl := .p) λ_=>by kernel_rfl,by kernel_rfl⟩
def c_261:Con te:=ae_ te [.bm 199 (.st 8) [none,none,none,some 202] false] [(.bool,[])] false λa=>gg_ a.1
theorem ok_261:OKF 261 c_261:=⟨ab_ ad_ (aa_ iv_ (aa_ ok_259 (aa_ ok_267 (aa_ ok_210 ac_)))) Tryz.func261 (by kernel_rfl) (pl := .s .p (.s .p (.s (.s .p (.lp ⟨[(4,.d .bool)],[(0,true,.cells 199 [.v .str,.v (.int .i64),.v (.int .i64),.own 15,.v (.int .i64)]),(15,false,.row 202 (.st 6) []),(10,true,.box 202 (.st 6))],[0,3],[],[],16⟩ ⟨[],[(0,true,.cells 199 [.v .str,.v (.int .i64),.v (.int .i64),.own 15,.v (.int .i64)]),(15,false,.row 202 (.st 6) []),(10,true,.box 202 (.st 6))],[0,3],[],[],16⟩ true (.s (.s (.ot 0 (.free 0 (.free 1 (.spl 1 (.free 2 (.alt 3 (.free 4 (.alt 5 .nil .nil)) .nil)) (.free 2 (.alt 3 (.free 4 (.alt 5 .nil .nil)) .nil)))))) .p) (.s (.s .p (.s .p (.s .p (.j ⟨[(7,.d (.int .u8))],[(0,true,.cells 199 [.v .str,.v (.int .i64),.v (.int .i64),.own 41,.v (.int .i64)]),(41,false,.row 202 (.st 6) [])],[0,3,5,13,14,15],[10],[],42⟩ true .p .p)))) .p)))) .p))) λ_=>by kernel_rfl,by kernel_rfl⟩
def cS_253(f175:regex_parser->Int->Option (Bool×regex_parser)):Con te:=ae_ te [.bm 199 (.st 8) [none,none,none,some 202] false,.d (.int .i64)] [(.bool,[])] false λa=>fr_ f175 a.1 a.2.1
theorem okS_253(f175:regex_parser->Int->Option (Bool×regex_parser))(h175:OKF 175 (gi_ f175)):OKF 253 (cS_253 f175):=⟨ab_ ad_ (aa_ ok_262 (aa_ ok_261 (aa_ iv_ (aa_ (okS_260 f175 h175) (aa_ ok_259 (aa_ ok_241 ac_)))))) Tryz.func253 (by kernel_rfl) (pl := .s .p (.s .p (.s .p (.j ⟨[],[(0,true,.cells 199 [.v .str,.v (.int .i64),.v (.int .i64),.own 16,.v (.int .i64)]),(16,false,.row 202 (.st 6) [])],[0],[],[],17⟩ true (.s .p (.s .p (.s .p (.j ⟨[(28,.d .bool)],[],[0,5,18],[0,4],[],19⟩ false .p .p)))) .p)))) λ_=>by kernel_rfl,by kernel_rfl⟩
def c_211:Con te:=ae_ te [.bm 199 (.st 8) [none,none,none,some 202] false,.d (.int .i64),.d (.st 6)] [] false λa=>cH_ a.1 a.2.1 a.2.2.1
theorem ok_211:OKF 211 c_211:=⟨ab_ ad_ (aa_ ir_ ac_) Tryz.func211 (by kernel_rfl) (pl := .s .p (.s (.s .p (.lp ⟨[(6,.d (.int .i64))],[(1,true,.row 202 (.st 6) [])],[0,1,5],[0,2],[],6⟩ ⟨[],[(1,true,.row 202 (.st 6) [])],[0,1,5],[0,2],[],6⟩ false (.s .p (.j ⟨[],[(1,true,.row 202 (.st 6) [])],[0,1,5,6],[0,2],[],13⟩ false .p .p)))) (.dr [4,0,0,0,0,0,0,1,2,4,4,2] [0,1,2,3,4,5,6] false []))) λ_=>by kernel_rfl,by kernel_rfl⟩
def cS_242(f175:regex_parser->Int->Option (Bool×regex_parser)):Con te:=ae_ te [.bm 199 (.st 8) [none,none,none,some 202] false,.d (.int .i64)] [(.bool,[])] false λa=>fc_ f175 a.1 a.2.1
theorem okS_242(f175:regex_parser->Int->Option (Bool×regex_parser))(h175:OKF 175 (gi_ f175)):OKF 242 (cS_242 f175):=⟨ab_ ad_ (aa_ iv_ (aa_ ok_211 (aa_ ok_210 (aa_ (okS_253 f175 h175) ac_)))) Tryz.func242 (by kernel_rfl) (pl := .s .p (.s .p (.s .p (.j ⟨[],[(0,true,.cells 199 [.v .str,.v (.int .i64),.v (.int .i64),.own 17,.v (.int .i64)]),(17,false,.row 202 (.st 6) [])],[],[],[],18⟩ false (.s .p (.s (.s .p (.s .p (.dr [0,0,0,0,0,0,0,0,0,0,0,0,2] [] false []))) (.s .p (.s .p (.s .p (.s (.s .p (.dr [0,0,0,0,0,0,0,0,0,0,0,0,2] [] false [])) .p)))))) .p)))) λ_=>by kernel_rfl,by kernel_rfl⟩
def cS_209(f175:regex_parser->Int->Option (Bool×regex_parser)):Con te:=ae_ te [.bm 199 (.st 8) [none,none,none,some 202] false,.d (.int .i64)] [(.bool,[])] false λa=>e2_ f175 a.1 a.2.1
theorem okS_209(f175:regex_parser->Int->Option (Bool×regex_parser))(h175:OKF 175 (gi_ f175)):OKF 209 (cS_209 f175):=⟨ab_ ad_ (aa_ (okS_242 f175 h175) (aa_ ok_241 ac_)) Tryz.func209 (by kernel_rfl) (pl := .s .p (.lp ⟨[],[(0,true,.cells 199 [.v .str,.v (.int .i64),.v (.int .i64),.own 3,.v (.int .i64)]),(3,false,.row 202 (.st 6) [])],[0,1],[],[],4⟩ ⟨[],[],[],[0,1],[],3⟩ true .p)) λ_=>by kernel_rfl,by kernel_rfl⟩
theorem okS_175(rec0:regex_parser->Int->Option (Bool×regex_parser))(h:OKF 175 (gi_ rec0)):OKF 175 (gi_ (fd_ rec0)):=⟨ab_ ad_ (aa_ iv_ (aa_ ok_211 (aa_ ok_210 (aa_ (okS_209 rec0 h) (aa_ h ac_))))) Tryz.func175 (by kernel_rfl) (pl := .s .p (.s .p (.s .p (.s .p (.s .p (.s .p (.s .p (.s .p (.s (.dr [0,0,0,0,0,0,0,0,0,0,0,0,2] [] false []) .p))))))))) λ_=>by kernel_rfl,by kernel_rfl⟩
theorem okN_175:∀n,OKF 175 (gi_ (cX_ n))
 | 0=>⟨gL_ λ_=>rfl,by kernel_rfl⟩
 | n+1=>okS_175 _ (okN_175 n)
def c_175:Con te:=gi_ (cX_ BIG)
theorem ok_175:OKF 175 c_175:=okN_175 BIG
def c_137:Con te:=ae_ te [.d .str] [(.st 7,[some 202]),(.int .i64,[]),(.int .i64,[])] false λa=>ce_ a.1
theorem ok_137:OKF 137 c_137:=⟨ab_ ad_ (aa_ ok_175 (aa_ iv_ ac_)) Tryz.func137 (by kernel_rfl) (pl := .s .p (.s .p (.s .p (.s .p (.s (.s .p (.s (.s (.dr [0,0,0,0,0,1,4,4] [] true [0]) .p) .p)) (.s .p (.s .p (.s (.dr [0,0,0,0,0,0,0,0,0,0,2,4,4] [] false []) .p)))))))) λ_=>by kernel_rfl,by kernel_rfl⟩
def c_99:Con te:=ae_ te [.d (.st 0)] [(.bool,[])] false λa=>hZ_ a.1
theorem ok_99:OKF 99 c_99:=⟨ab_ ad_ (aa_ ok_137 (aa_ ok_118 (aa_ ok_31 (aa_ ok_136 ac_)))) Tryz.func99 (by kernel_rfl) (pl := .s .p (.s (.j ⟨[(28,.d .bool)],[],[1],[0],[],3⟩ false (.ot 0 (.free 0 (.free 3 (.alt 1 (.alt 2 (.alt 4 (.alt 5 (.free 6 (.free 7 (.spl 7 (.free 8 (.alt 9 (.free 10 (.alt 11 (.free 12 (.spl 12 (.free 13 (.alt 14 (.free 15 (.free 16 (.alt 17 (.free 18 (.spl 18 (.free 19 (.alt 20 (.alt 21 (.alt 22 .nil .nil) .nil) .nil)) (.free 19 (.alt 20 (.alt 21 (.alt 22 .nil .nil) .nil) .nil)))) .nil))) .nil)) (.free 13 (.alt 14 (.free 15 (.free 16 (.alt 17 (.free 18 (.spl 18 (.free 19 (.alt 20 (.alt 21 (.alt 22 .nil .nil) .nil) .nil)) (.free 19 (.alt 20 (.alt 21 (.alt 22 .nil .nil) .nil) .nil)))) .nil))) .nil)))) .nil)) .nil)) (.free 8 (.alt 9 (.free 10 (.alt 11 (.free 12 (.spl 12 (.free 13 (.alt 14 (.free 15 (.free 16 (.alt 17 (.free 18 (.spl 18 (.free 19 (.alt 20 (.alt 21 (.alt 22 .nil .nil) .nil) .nil)) (.free 19 (.alt 20 (.alt 21 (.alt 22 .nil .nil) .nil) .nil)))) .nil))) .nil)) (.free 13 (.alt 14 (.free 15 (.free 16 (.alt 17 (.free 18 (.spl 18 (.free 19 (.alt 20 (.alt 21 (.alt 22 .nil .nil) .nil) .nil)) (.free 19 (.alt 20 (.alt 21 (.alt 22 .nil .nil) .nil) .nil)))) .nil))) .nil)))) .nil)) .nil))))) .nil) .nil) (.alt 4 (.alt 2 (.alt 5 (.free 6 (.free 7 (.spl 7 (.free 8 (.alt 9 (.free 10 (.alt 11 (.free 12 (.spl 12 (.free 13 (.alt 14 (.free 15 (.free 16 (.alt 17 (.free 18 (.spl 18 (.free 19 (.alt 20 (.alt 21 (.alt 22 .nil .nil) .nil) .nil)) (.free 19 (.alt 20 (.alt 21 (.alt 22 .nil .nil) .nil) .nil)))) .nil))) .nil)) (.free 13 (.alt 14 (.free 15 (.free 16 (.alt 17 (.free 18 (.spl 18 (.free 19 (.alt 20 (.alt 21 (.alt 22 .nil .nil) .nil) .nil)) (.free 19 (.alt 20 (.alt 21 (.alt 22 .nil .nil) .nil) .nil)))) .nil))) .nil)))) .nil)) .nil)) (.free 8 (.alt 9 (.free 10 (.alt 11 (.free 12 (.spl 12 (.free 13 (.alt 14 (.free 15 (.free 16 (.alt 17 (.free 18 (.spl 18 (.free 19 (.alt 20 (.alt 21 (.alt 22 .nil .nil) .nil) .nil)) (.free 19 (.alt 20 (.alt 21 (.alt 22 .nil .nil) .nil) .nil)))) .nil))) .nil)) (.free 13 (.alt 14 (.free 15 (.free 16 (.alt 17 (.free 18 (.spl 18 (.free 19 (.alt 20 (.alt 21 (.alt 22 .nil .nil) .nil) .nil)) (.free 19 (.alt 20 (.alt 21 (.alt 22 .nil .nil) .nil) .nil)))) .nil))) .nil)))) .nil)) .nil))))) .nil) .nil) .nil)) (.alt 4 (.alt 1 (.alt 2 (.alt 5 (.free 6 (.free 7 (.spl 7 (.free 8 (.alt 9 (.free 10 (.alt 11 (.free 12 (.spl 12 (.free 13 (.alt 14 (.free 15 (.free 16 (.alt 17 (.free 18 (.spl 18 (.free 19 (.alt 20 (.alt 21 (.alt 22 .nil .nil) .nil) .nil)) (.free 19 (.alt 20 (.alt 21 (.alt 22 .nil .nil) .nil) .nil)))) .nil))) .nil)) (.free 13 (.alt 14 (.free 15 (.free 16 (.alt 17 (.free 18 (.spl 18 (.free 19 (.alt 20 (.alt 21 (.alt 22 .nil .nil) .nil) .nil)) (.free 19 (.alt 20 (.alt 21 (.alt 22 .nil .nil) .nil) .nil)))) .nil))) .nil)))) .nil)) .nil)) (.free 8 (.alt 9 (.free 10 (.alt 11 (.free 12 (.spl 12 (.free 13 (.alt 14 (.free 15 (.free 16 (.alt 17 (.free 18 (.spl 18 (.free 19 (.alt 20 (.alt 21 (.alt 22 .nil .nil) .nil) .nil)) (.free 19 (.alt 20 (.alt 21 (.alt 22 .nil .nil) .nil) .nil)))) .nil))) .nil)) (.free 13 (.alt 14 (.free 15 (.free 16 (.alt 17 (.free 18 (.spl 18 (.free 19 (.alt 20 (.alt 21 (.alt 22 .nil .nil) .nil) .nil)) (.free 19 (.alt 20 (.alt 21 (.alt 22 .nil .nil) .nil) .nil)))) .nil))) .nil)))) .nil)) .nil))))) .nil) .nil) .nil) .nil))))) .p) .p)) λ_=>by kernel_rfl,by kernel_rfl⟩
def c_62:Con te:=ae_ te [.d .str] [(.sl (.st 1),[some 78]),(.int .i64,[]),(.int .i64,[])] true λa=>k4_ a.1
theorem ok_62:OKF 62 c_62:=⟨ab_ ad_ (aa_ ok_99 (aa_ ok_98 (aa_ ok_97 (aa_ ok_96 (aa_ ok_95 ac_))))) Tryz.func62 (by kernel_rfl) (pl := .s .p (.s .p (.s .p (.s .p (.s (.s .p (.lp ⟨[(5,.one (.own 15)),(16,.d (.int .i64))],[(15,false,.row 78 (.st 1) []),(5,true,.cells 78 [.own 16]),(16,false,.row 80 (.st 0) [])],[6,7,14,15],[],[],17⟩ ⟨[(5,.one (.own 15))],[(15,false,.row 78 (.st 1) []),(5,true,.cells 78 [.own 16]),(16,false,.row 80 (.st 0) [])],[6,7],[],[],17⟩ true (.s .p (.s .p (.j ⟨[(5,.one (.own 18))],[(18,false,.row 78 (.st 1) []),(5,true,.cells 78 [.own 19]),(19,false,.row 80 (.st 0) [])],[6,7,14,15,16],[],[],20⟩ true .p .p))))) (.j ⟨[(5,.one (.own 17))],[(17,false,.row 78 (.st 1) [])],[],[],[],18⟩ true .p .p)))))) λ_=>by kernel_rfl,by kernel_rfl⟩
def c_100:Con te:=ae_ te [.d .str,.d .str,.d (.int .i64)] [(.sl .str,[])] true λa=>strings_SplitN a.1 a.2.1 a.2.2.1
theorem ok_100:OKF 100 c_100:=⟨ab_ ad_ (aa_ ok_138 ac_) Tryz.func100 (by kernel_rfl) (pl := .p) λ_=>by kernel_rfl,by kernel_rfl⟩
def c_139:Con te:=ae_ te [.d (.int .u8)] [(.bool,[])] false λa=>i8_ a.1
theorem ok_139:OKF 139 c_139:=⟨ab_ ad_ ac_ Tryz.func139 (by kernel_rfl) (pl := .p) λ_=>by kernel_rfl,by kernel_rfl⟩
def c_187:Con te:=ae_ te [.d .str,.d (.int .u8)] [(.int .i64,[])] false λa=>strings_IndexByte a.1 a.2.1
theorem ok_187:OKF 187 c_187:=⟨ab_ ad_ (aa_ fL_ ac_) Tryz.func187 (by kernel_rfl) (pl := .p) λ_=>by kernel_rfl,by kernel_rfl⟩
def c_156:Con te:=ae_ te [.d .str,.d .str] [(.int .i64,[])] false λa=>do_ a.1 a.2.1
theorem ok_156:OKF 156 c_156:=⟨ab_ ad_ (aa_ ok_187 ac_) Tryz.func156 (by kernel_rfl) (pl := .s .p (.s (.s .p (.lp ⟨[(8,.d (.int .i64))],[],[0,1,7],[],[],4⟩ ⟨[],[],[0],[],[],4⟩ true .p)) .p)) λ_=>by kernel_rfl,by kernel_rfl⟩
theorem e_178(a:PA te [.d .str]):h0_ a.1=eC_ Tryz.prog te eqL (ti 215 (inlF Tryz.prog te eqL (ti 114 cf_ dc_) Tryz.f215 (.p:Pl)) (ti 72 dp_ dc_)) Tryz.f178 [.d .str] [(.str,[]),(.int .i64,[]),(.bool,[])] (.s .p (.s .p (.s (.s .p (.lp ⟨[(6,.d (.int .i64))],[(3,true,.cells 110 [.sbp 3,.own 6]),(6,false,.row 5 (.int .u8) [])],[0,5],[],[],7⟩ ⟨[],[],[],[],[],6⟩ true (.s .p (.j ⟨[(6,.d (.int .i64))],[(3,true,.cells 110 [.sbp 3,.own 11]),(11,false,.row 5 (.int .u8) [])],[0,5],[],[],12⟩ true .p .p)))) .p))) a:=by kernel_rfl
def c_178:Con te:=ae_ te [.d .str] [(.str,[]),(.int .i64,[]),(.bool,[])] false λa=>h0_ a.1
theorem ok_178:OKF 178 c_178:=⟨ab_ ad_ (bM_ ⟨d8_ ad_ (bM_ cG_ ac_) Tryz.func215,by kernel_rfl⟩ (bM_ du_ ac_)) Tryz.func178 (by kernel_rfl) e_178,by kernel_rfl⟩
def c_140:Con te:=ae_ te [.d .str] [(.st 2,[]),(.int .i64,[]),(.int .i64,[])] false λa=>attr_one a.1
theorem ok_140:OKF 140 c_140:=⟨ab_ ad_ (aa_ ok_139 (aa_ ok_118 (aa_ ok_178 (aa_ ok_96 (aa_ ok_156 ac_))))) Tryz.func140 (by kernel_rfl) (pl := .s .p (.s .p (.s .p (.s .p (.j ⟨[(5,.d (.int .i64))],[(11,true,.box 87 (.st 2))],[0,2,6],[0],[],19⟩ true .p .p))))) λ_=>by kernel_rfl,by kernel_rfl⟩
def c_245:Con te:=ae_ te [.d .str,.d .str] [(.str,[])] false λa=>bE_ a.1 a.2.1
theorem ok_245:OKF 245 c_245:=⟨ab_ ad_ (aa_ ok_134 ac_) Tryz.func245 (by kernel_rfl) (pl := .p) λ_=>by kernel_rfl,by kernel_rfl⟩
def c_216:Con te:=ae_ te [.d .str,.d .str] [(.str,[])] false λa=>strings_TrimPrefix a.1 a.2.1
theorem ok_216:OKF 216 c_216:=⟨ab_ ad_ (aa_ ok_245 ac_) Tryz.func216 (by kernel_rfl) (pl := .p) λ_=>by kernel_rfl,by kernel_rfl⟩
def c_179:Con te:=ae_ te [.d .str] [(.bool,[])] false λa=>f0_ a.1
theorem ok_179:OKF 179 c_179:=⟨ab_ ad_ (aa_ ok_216 ac_) Tryz.func179 (by kernel_rfl) (pl := .s .p (.s .p (.s .p (.s (.s .p (.lp ⟨[(26,.d (.int .i64))],[],[0,25],[],[],12012⟩ ⟨[],[],[],[],[],12012⟩ true .p)) .p)))) λ_=>by kernel_rfl,by kernel_rfl⟩
def c_186:Con te:=ae_ te [.d (.sl (.st 2)),.f1 (.st 2) .bool] [(.int .i64,[])] false λa=>aD_ a.1 a.2.1
theorem ok_186:OKF 186 c_186:=⟨ab_ ad_ ac_ Tryz.func186 (by kernel_rfl) (pl := .s .p (.s (.s .p (.lp ⟨[(8,.d (.int .i64))],[],[0,1,7],[],[],4⟩ ⟨[],[],[],[],[],4⟩ true .p)) .p)) λ_=>by kernel_rfl,by kernel_rfl⟩
def c_154:Con te:=ae_ te [.d (.sl (.st 2)),.f1 (.st 2) .bool] [(.bool,[])] false λa=>aJ_ a.1 a.2.1
theorem ok_154:OKF 154 c_154:=⟨ab_ ad_ (aa_ ok_186 ac_) Tryz.func154 (by kernel_rfl) (pl := .p) λ_=>by kernel_rfl,by kernel_rfl⟩
def c_180:Con te:=ae_ te [.d (.st 2),.p (.st 2)] [(.bool,[])] false λa=>hn_ a.1 a.2.1
theorem ok_180:OKF 180 c_180:=⟨ab_ ad_ ac_ Tryz.func180 (by kernel_rfl) (pl := .p) λ_=>by kernel_rfl,by kernel_rfl⟩
def c_141:Con te:=ae_ te [.d (.sl (.st 2)),.d (.st 2)] [(.int .i64,[])] false λa=>fe_ a.1 a.2.1
theorem ok_141:OKF 141 c_141:=⟨ab_ ad_ (aa_ ok_180 (aa_ ok_154 (aa_ ok_156 (aa_ ok_179 ac_)))) Tryz.func141 (by kernel_rfl) (pl := .s .p (.s (.s .p (.s .p (.s .p (.s .p (.s .p (.s .p (.s (.dr [0,0,0,0,0,0,0,0] [] false []) .p))))))) .p)) λ_=>by kernel_rfl,by kernel_rfl⟩
def c_101:Con te:=ae_ te [.d .str] [(.sl (.st 2),[some 87]),(.int .i64,[]),(.int .i64,[])] false λa=>i9_ a.1
theorem ok_101:OKF 101 c_101:=⟨ab_ ad_ (aa_ ok_141 (aa_ ok_140 (aa_ ok_139 ac_))) Tryz.func101 (by kernel_rfl) (pl := .s .p (.s .p (.s (.s .p (.lp ⟨[(5,.one (.own 5)),(6,.d (.int .i64))],[(5,false,.row 87 (.st 2) [])],[0],[],[],6⟩ ⟨[(5,.one (.own 5))],[(5,false,.row 87 (.st 2) [])],[],[],[],6⟩ true (.s .p (.s .p (.s .p (.j ⟨[(9,.d (.int .i64))],[],[0,5,6,7,8],[5,22],[],28⟩ false .p .p)))))) .p))) λ_=>by kernel_rfl,by kernel_rfl⟩
def c_123:Con te:=ae_ te [.d (.int .i64)] [(.bool,[])] false λa=>kd_ a.1
theorem ok_123:OKF 123 c_123:=⟨ab_ ad_ ac_ Tryz.func123 (by kernel_rfl) (pl := .p) λ_=>by kernel_rfl,by kernel_rfl⟩
def c_142:Con te:=ae_ te [.d (.int .u8)] [(.int .i64,[])] false λa=>num_digit a.1
theorem ok_142:OKF 142 c_142:=⟨ab_ ad_ ac_ Tryz.func142 (by kernel_rfl) (pl := .p) λ_=>by kernel_rfl,by kernel_rfl⟩
def c_102:Con te:=ae_ te [.d .str,.d (.int .i64),.d (.int .i64)] [(.int .i64,[]),(.int .i64,[])] false λa=>num_Parse a.1 a.2.1 a.2.2.1
theorem ok_102:OKF 102 c_102:=⟨ab_ ad_ (aa_ ok_142 (aa_ ok_123 ac_)) Tryz.func102 (by kernel_rfl) (pl := .s .p (.s .p (.s .p (.s .p (.s (.s .p (.lp ⟨[(8,.d (.int .i64)),(32,.d (.int .i64))],[],[0,1,2,31],[],[],12013⟩ ⟨[(8,.d (.int .i64))],[],[],[],[],12013⟩ true .p)) .p))))) λ_=>by kernel_rfl,by kernel_rfl⟩
def c_119:Con te:=ae_ te [.d (.sl (.st 2))] [(.int .i64,[])] false λa=>ff_ a.1
theorem ok_119:OKF 119 c_119:=⟨ab_ ad_ (aa_ ok_141 ac_) Tryz.func119 (by kernel_rfl) (pl := .s .p (.s (.s .p (.lp ⟨[(8,.d (.int .i64))],[],[0,6,7],[],[],4⟩ ⟨[],[],[],[],[],4⟩ true (.s .p (.s .p (.s (.s .p (.s (.dr [0,0,0,0,0,0] [] false []) .p)) .p))))) .p)) λ_=>by kernel_rfl,by kernel_rfl⟩
def c_155:Con te:=ae_ te [.d (.st 2)] [(.bool,[])] false λa=>fg_ a.1
theorem ok_155:OKF 155 c_155:=⟨ab_ ad_ ac_ Tryz.func155 (by kernel_rfl) (pl := .p) λ_=>by kernel_rfl,by kernel_rfl⟩
def c_120:Con te:=ae_ te [.d (.sl (.st 2))] [(.bool,[])] false λa=>eF_ a.1
theorem ok_120:OKF 120 c_120:=⟨ab_ ad_ (aa_ ok_155 (aa_ ok_154 ac_)) Tryz.func120 (by kernel_rfl) (pl := .p) λ_=>by kernel_rfl,by kernel_rfl⟩
def c_82:Con te:=ae_ te [.d (.st 3)] [(.int .i64,[])] false λa=>c7_ a.1
theorem ok_82:OKF 82 c_82:=⟨ab_ ad_ (aa_ ok_120 (aa_ ok_119 (aa_ ok_118 ac_))) Tryz.func82 (by kernel_rfl) (pl := .s .p (.s (.s .p (.lp ⟨[(16,.d (.int .i64))],[(11,true,.row 9 .str [])],[1,14,15],[0],[],15⟩ ⟨[],[],[1],[0],[],15⟩ true .p)) .p)) λ_=>by kernel_rfl,by kernel_rfl⟩
def c_63:Con te:=ae_ te [.d .str] [(.st 3,[none,none,none,none,some 87]),(.int .i64,[])] false λa=>k5_ a.1
theorem ok_63:OKF 63 c_63:=⟨ab_ ad_ (aa_ ok_82 (aa_ ok_102 (aa_ ok_101 (aa_ ok_100 ac_)))) Tryz.func63 (by kernel_rfl) (pl := .s .p (.s .p (.s .p (.s .p (.s .p (.s .p (.s .p (.s (.dr [0,0,0,0,0,0,0,0,0,0,0,0,0,0,0,0,0,1,2] [] false []) .p)))))))) λ_=>by kernel_rfl,by kernel_rfl⟩
def c_213:Con te:=ae_ te [.d .str] [(.int .i32,[]),(.int .i64,[])] false λa=>utf8_DecodeRuneInString a.1
theorem ok_213:OKF 213 c_213:=⟨gL_ λ_=>rfl,by kernel_rfl⟩
theorem e_188(a:PA te [.d .str,.d .str,.d .str,.d (.int .i64)]):strings_Replace a.1 a.2.1 a.2.2.1 a.2.2.2.1=eC_ Tryz.prog te eqL (ti 71 (inlF Tryz.prog te eqL (ti 114 cf_ dc_) Tryz.f71 (.p:Pl)) (tb 213 c_213 (tb 153 c_153 (tb 177 gv_ (ti 72 dp_ (ti 122 lB_ dc_)))))) Tryz.f188 [.d .str,.d .str,.d .str,.d (.int .i64)] [(.str,[])] (.s .p (.s .p (.j ⟨[(3,.d (.int .i64))],[],[0,1,2],[],[],3005⟩ true .p (.s .p (.s .p (.s .p (.j ⟨[(11,.d (.int .i64))],[(3005,true,.cells 110 [.sbp 3005,.own 3021]),(3021,false,.row 5 (.int .u8) [])],[0,10],[],[],3022⟩ false (.s .p (.s (.s .p (.lp ⟨[(11,.d (.int .i64)),(53,.d (.int .i64))],[(3005,true,.cells 110 [.sbp 3005,.own 3026]),(3026,false,.row 5 (.int .u8) [])],[0,1,2,10,52],[],[],3027⟩ ⟨[(11,.d (.int .i64))],[(3005,true,.cells 110 [.sbp 3005,.own 3026]),(3026,false,.row 5 (.int .u8) [])],[0,10],[],[],3027⟩ false .p)) (.s .p (.s .p (.lp ⟨[(11,.d (.int .i64)),(78,.d (.int .i64))],[(3005,true,.cells 110 [.sbp 3005,.own 3249]),(3249,false,.row 5 (.int .u8) [])],[0,2,10,77],[],[],3250⟩ ⟨[(11,.d (.int .i64))],[(3005,true,.cells 110 [.sbp 3005,.own 3249]),(3249,false,.row 5 (.int .u8) [])],[0,10],[],[],3250⟩ false .p))))) .p))))))) a:=by kernel_rfl
def c_188:Con te:=ae_ te [.d .str,.d .str,.d .str,.d (.int .i64)] [(.str,[])] false λa=>strings_Replace a.1 a.2.1 a.2.2.1 a.2.2.2.1
theorem ok_188:OKF 188 c_188:=⟨ab_ ad_ (bM_ ⟨d8_ ad_ (bM_ cG_ ac_) Tryz.func71,by kernel_rfl⟩ (aa_ ok_213 (aa_ ok_153 (aa_ fo_ (bM_ du_ (bM_ k8_ ac_)))))) Tryz.func188 (by kernel_rfl) e_188,by kernel_rfl⟩
def c_157:Con te:=ae_ te [.d .str,.d .str,.d .str] [(.str,[])] false λa=>strings_ReplaceAll a.1 a.2.1 a.2.2.1
theorem ok_157:OKF 157 c_157:=⟨ab_ ad_ (aa_ ok_188 ac_) Tryz.func157 (by kernel_rfl) (pl := .p) λ_=>by kernel_rfl,by kernel_rfl⟩
def c_121:Con te:=ae_ te [.d .str] [(.str,[])] false λa=>gN_ a.1
theorem ok_121:OKF 121 c_121:=⟨ab_ ad_ (aa_ ok_157 (aa_ ok_156 ac_)) Tryz.func121 (by kernel_rfl) (pl := .p) λ_=>by kernel_rfl,by kernel_rfl⟩
theorem e_84(a:PA te [.d (.sl .str),.d .str]):strings_Join a.1 a.2.1=eC_ Tryz.prog te eqL (ti 71 (inlF Tryz.prog te eqL (ti 114 cf_ dc_) Tryz.f71 (.p:Pl)) (ti 72 dp_ (ti 122 lB_ dc_))) Tryz.f84 [.d (.sl .str),.d .str] [(.str,[])] (.s .p (.s .p (.s .p (.j ⟨[(5,.d (.int .i64))],[],[0,1],[],[],8⟩ false (.s .p (.s (.j ⟨[],[],[0,1,5],[],[],11⟩ false .p .p) .p)) (.s (.s .p (.lp ⟨[(5,.d (.int .i64)),(41,.d (.int .i64))],[],[0,1,39,40],[],[],11⟩ ⟨[(5,.d (.int .i64))],[],[0,1],[],[],11⟩ false (.s .p (.s .p (.s (.s .p (.j ⟨[],[],[0,1,5,7,39,40,41],[],[],15⟩ false .p .p)) .p))))) (.s .p (.s .p (.s .p (.s (.s .p (.lp ⟨[(65,.d (.int .i64))],[(11,true,.cells 110 [.sbp 11,.own 245]),(245,false,.row 5 (.int .u8) [])],[1,8,63,64],[],[],246⟩ ⟨[],[(11,true,.cells 110 [.sbp 11,.own 245]),(245,false,.row 5 (.int .u8) [])],[8],[],[],246⟩ false .p)) .p))))))))) a:=by kernel_rfl
def c_84:Con te:=ae_ te [.d (.sl .str),.d .str] [(.str,[])] false λa=>strings_Join a.1 a.2.1
theorem ok_84:OKF 84 c_84:=⟨ab_ ad_ (bM_ ⟨d8_ ad_ (bM_ cG_ ac_) Tryz.func71,by kernel_rfl⟩ (bM_ du_ (bM_ k8_ ac_))) Tryz.func84 (by kernel_rfl) e_84,by kernel_rfl⟩
def c_83:Con te:=ae_ te [.d (.sl (.st 2))] [(.str,[]),(.int .i64,[])] false λa=>gO_ a.1
theorem ok_83:OKF 83 c_83:=⟨ab_ ad_ (aa_ ok_84 (aa_ ok_121 (aa_ ok_119 ac_))) Tryz.func83 (by kernel_rfl) (pl := .s .p (.s .p (.s .p (.s (.s .p (.lp ⟨[(5,.one (.own 15)),(18,.d (.int .i64))],[(15,false,.row 9 .str [])],[16,17],[],[],16⟩ ⟨[(5,.one (.own 15))],[(15,false,.row 9 .str [])],[],[],[],16⟩ false (.s .p (.s .p (.j ⟨[(5,.one (.own 17))],[(17,false,.row 9 .str [])],[16,17,18],[],[],18⟩ false (.s .p (.s .p (.s .p (.dr [0,0,0,0,0,0,0,0,1,2,4] [] false [])))) .p))))) .p)))) λ_=>by kernel_rfl,by kernel_rfl⟩
def c_85:Con te:=ae_ te [.d (.int .i64),.d (.int .i64)] [(.str,[])] false λa=>ja_ a.1 a.2.1
theorem ok_85:OKF 85 c_85:=⟨ab_ ad_ (aa_ ho_ (aa_ ok_123 ac_)) Tryz.func85 (by kernel_rfl) (pl := .p) λ_=>by kernel_rfl,by kernel_rfl⟩
def c_47:Con te:=ae_ te [.d (.st 3)] [(.str,[]),(.int .i64,[])] false λa=>cx_ a.1
theorem ok_47:OKF 47 c_47:=⟨ab_ ad_ (aa_ ok_84 (aa_ ok_85 (aa_ ok_83 (aa_ ok_82 ac_)))) Tryz.func47 (by kernel_rfl) (pl := .s .p (.s .p (.s .p (.s .p (.s (.dr [0,0,0,0,0,0,0,0,0,0,0,0,0,0,0,1,1,4,4] [] false []) .p))))) λ_=>by kernel_rfl,by kernel_rfl⟩
def c_70:Con te:=ae_ te [.d (.st 1)] [(.bool,[])] false λa=>h1_ a.1
theorem ok_70:OKF 70 c_70:=⟨ab_ ad_ (aa_ ok_99 ac_) Tryz.func70 (by kernel_rfl) (pl := .s .p (.s .p (.s .p (.s (.s .p (.lp ⟨[(18,.d (.int .i64))],[],[3,16,17],[],[],3014⟩ ⟨[],[],[],[],[],3014⟩ true .p)) .p)))) λ_=>by kernel_rfl,by kernel_rfl⟩
def c_194:Con te:=ae_ te [.bm 157 (.st 9) [] false,.d (.int .i64)] [(.str,[])] true λa=>gr_ a.1 a.2.1
theorem ok_194:OKF 194 c_194:=⟨ab_ ad_ ac_ Tryz.func194 (by kernel_rfl) (pl := .s .p (.s (.s (.dr [0,0,0,0,0,0,0,0,0,0,0,0,0,0,0,0,0,0,0,0,0,0,0,0,0,0,0,0,0,0,0,0,0,0,0,0,0,0,0,0] [] false []) .p) (.s (.dr [0,0,0,0,0,0,0,0,0,0,0,0,0,0,0,0,0,0,0,0,0,0,0] [] false []) .p))) λ_=>by kernel_rfl,by kernel_rfl⟩
theorem e_195(a:PA te [.bm 157 (.st 9) [] false,.d .str]):el_ a.1 a.2.1=eC_ Tryz.prog te eqL (ti 162 (inlF Tryz.prog te eqL dc_ Tryz.f162 (.p:Pl)) (tb 96 c_96 dc_)) Tryz.f195 [.bm 157 (.st 9) [] false,.d .str] [(.str,[]),(.int .i64,[])] (.s .p (.s (.s .p (.lp ⟨[(10,.d (.int .i64))],[(3,true,.row 9 .str [])],[0,1,8,9],[0],[],7⟩ ⟨[],[],[],[0],[],7⟩ true .p)) .p)) a:=by kernel_rfl
def c_195:Con te:=ae_ te [.bm 157 (.st 9) [] false,.d .str] [(.str,[]),(.int .i64,[])] true λa=>el_ a.1 a.2.1
theorem ok_195:OKF 195 c_195:=⟨ab_ ad_ (bM_ ⟨d8_ ad_ ac_ Tryz.func162,by kernel_rfl⟩ (aa_ ok_96 ac_)) Tryz.func195 (by kernel_rfl) e_195,by kernel_rfl⟩
theorem e_160(a:PA te [.bm 157 (.st 9) [] false,.d .str]):dT_ a.1 a.2.1=eC_ Tryz.prog te eqL (ti 71 (inlF Tryz.prog te eqL (ti 114 cf_ dc_) Tryz.f71 (.p:Pl)) (tb 195 c_195 (tb 194 c_194 (tb 96 c_96 (tb 135 c_135 (ti 72 dp_ dc_)))))) Tryz.f160 [.bm 157 (.st 9) [] false,.d .str] [(.str,[])] (.s .p (.s .p (.s (.lp ⟨[(1,.d .str)],[(0,true,.box 157 (.st 9)),(2,true,.cells 110 [.sbp 2,.own 4]),(4,false,.row 5 (.int .u8) [])],[0,5],[],[],5⟩ ⟨[],[(2,true,.cells 110 [.sbp 2,.own 4]),(4,false,.row 5 (.int .u8) []),(0,true,.box 157 (.st 9))],[5],[],[],5⟩ false .p) .p))) a:=by kernel_rfl
def c_160:Con te:=ae_ te [.bm 157 (.st 9) [] false,.d .str] [(.str,[])] true λa=>dT_ a.1 a.2.1
theorem ok_160:OKF 160 c_160:=⟨ab_ ad_ (bM_ ⟨d8_ ad_ (bM_ cG_ ac_) Tryz.func71,by kernel_rfl⟩ (aa_ ok_195 (aa_ ok_194 (aa_ ok_96 (aa_ ok_135 (bM_ du_ ac_)))))) Tryz.func160 (by kernel_rfl) e_160,by kernel_rfl⟩
def c_228:Con te:=ae_ te [.g (.sl (.st 2)) [some 87],.f1 (.st 2) .bool] [(.sl (.st 2),[])] true λa=>cF_ a.1 a.2.1
theorem ok_228:OKF 228 c_228:=⟨ab_ ad_ (aa_ ok_186 ac_) Tryz.func228 (by kernel_rfl) (pl := .s .p (.s .p (.s .p (.s (.s .p (.lp ⟨[(5,.d (.int .i64)),(6,.d (.int .i64))],[(0,true,.row 87 (.st 2) [])],[0,1],[],[],11⟩ ⟨[(5,.d (.int .i64))],[(0,true,.row 87 (.st 2) [])],[0],[],[],11⟩ false (.s .p (.j ⟨[(5,.d (.int .i64))],[(0,true,.row 87 (.st 2) [])],[0,1,6],[],[],15⟩ false .p .p)))) .p)))) λ_=>by kernel_rfl,by kernel_rfl⟩
def c_229:Con te:=ae_ te [.d (.st 2),.p .str] [(.bool,[])] false λa=>im_ a.1 a.2.1
theorem ok_229:OKF 229 c_229:=⟨ab_ ad_ ac_ Tryz.func229 (by kernel_rfl) (pl := .p) λ_=>by kernel_rfl,by kernel_rfl⟩
def c_196:Con te:=ae_ te [.d (.sl (.st 2)),.d .str] [(.sl (.st 2),[])] true λa=>kf_ a.1 a.2.1
theorem ok_196:OKF 196 c_196:=⟨ab_ ad_ (aa_ ok_229 (aa_ ok_228 (aa_ ok_87 ac_))) Tryz.func196 (by kernel_rfl) (pl := .p) λ_=>by kernel_rfl,by kernel_rfl⟩
def c_251:Con te:=ae_ te [.d (.st 2),.p .str] [(.bool,[])] false λa=>kg_ a.1 a.2.1
theorem ok_251:OKF 251 c_251:=⟨ab_ ad_ ac_ Tryz.func251 (by kernel_rfl) (pl := .p) λ_=>by kernel_rfl,by kernel_rfl⟩
def c_231:Con te:=ae_ te [.d (.sl (.st 2)),.d .str] [(.int .i64,[])] false λa=>jc_ a.1 a.2.1
theorem ok_231:OKF 231 c_231:=⟨ab_ ad_ (aa_ ok_251 (aa_ ok_186 ac_)) Tryz.func231 (by kernel_rfl) (pl := .p) λ_=>by kernel_rfl,by kernel_rfl⟩
def c_230:Con te:=ae_ te [.d (.sl (.st 2)),.d .str] [(.str,[]),(.bool,[])] false λa=>attr_Find a.1 a.2.1
theorem ok_230:OKF 230 c_230:=⟨ab_ ad_ (aa_ ok_231 ac_) Tryz.func230 (by kernel_rfl) (pl := .p) λ_=>by kernel_rfl,by kernel_rfl⟩
def c_197:Con te:=ae_ te [.d (.sl (.st 2)),.d (.sl (.st 2))] [(.bool,[])] false λa=>kh_ a.1 a.2.1
theorem ok_197:OKF 197 c_197:=⟨ab_ ad_ (aa_ ok_230 ac_) Tryz.func197 (by kernel_rfl) (pl := .s .p (.s (.s .p (.lp ⟨[(11,.d (.int .i64))],[],[0,9,10],[],[],4⟩ ⟨[],[],[],[],[],4⟩ true .p)) .p)) λ_=>by kernel_rfl,by kernel_rfl⟩
def c_198:Con te:=ae_ te [.d (.sl (.st 2)),.d .str,.d .str] [(.sl (.st 2),[some 87])] false λa=>attr_Set a.1 a.2.1 a.2.2.1
theorem ok_198:OKF 198 c_198:=⟨ab_ ad_ (aa_ ok_231 (aa_ ok_87 ac_)) Tryz.func198 (by kernel_rfl) (pl := .p) λ_=>by kernel_rfl,by kernel_rfl⟩
def c_161:Con te:=ae_ te [.bm 157 (.st 9) [] false,.d .str,.d .str] [(.bool,[])] true λa=>gs_ a.1 a.2.1 a.2.2.1
theorem ok_161:OKF 161 c_161:=⟨ab_ ad_ (aa_ ok_198 (aa_ ok_120 (aa_ ok_197 (aa_ ok_101 (aa_ ok_196 ac_))))) Tryz.func161 (by kernel_rfl) (pl := .s .p (.s .p (.s .p (.s .p (.s .p (.s .p (.s (.s .p (.lp ⟨[(49,.d (.int .i64))],[(0,true,.cells 157 [.v .str,.v .str,.v .str,.v .str,.v (.sl (.st 2)),.v .str,.v .str,.v (.sl (.int .i64)),.v .str]),(5,true,.row 87 (.st 2) [])],[0,47,48],[],[],23⟩ ⟨[],[(0,true,.box 157 (.st 9))],[],[],[],23⟩ false (.s .p (.s .p (.s (.s .p (.dr [0,0,0,0,0,0,0,0,0,0,1,4,4,4,2] [] false [])) .p))))) .p))))))) λ_=>by kernel_rfl,by kernel_rfl⟩
def c_258:Con te:=ae_ te [.d (.int .u64),.d (.int .u64)] [(.int .u64,[]),(.int .u64,[])] false λa=>bits_Mul64 a.1 a.2.1
theorem ok_258:OKF 258 c_258:=⟨ab_ ad_ ac_ Tryz.func258 (by kernel_rfl) (pl := .p) λ_=>by kernel_rfl,by kernel_rfl⟩
def c_252:Con te:=ae_ te [.d (.int .u64),.d (.int .u64)] [(.int .u64,[]),(.int .u64,[])] false λa=>bits_Mul a.1 a.2.1
theorem ok_252:OKF 252 c_252:=⟨ab_ ad_ (aa_ ok_258 ac_) Tryz.func252 (by kernel_rfl) (pl := .p) λ_=>by kernel_rfl,by kernel_rfl⟩
def c_234:Con te:=ae_ te [.d (.sl (.int .i64)),.d (.int .i64)] [(.sl (.int .i64),[some 3])] false λa=>fh_ a.1 a.2.1
theorem ok_234:OKF 234 c_234:=⟨ab_ ad_ (aa_ ok_252 ac_) Tryz.func234 (by kernel_rfl) (pl := .s .p (.j ⟨[],[],[0,1],[],[],1⟩ false .p (.s .p (.j ⟨[],[],[0,6],[],[],12⟩ false .p (.s .p (.s .p (.s (.lp ⟨[(8,.d (.int .i64))],[(14,true,.row 3 (.int .i64) [])],[7],[],[],22⟩ ⟨[],[(14,true,.row 3 (.int .i64) [])],[7],[],[],22⟩ false (.s .p (.dr [4,0,0,0,0,0,0,2,4,4] [0,1,2,3,4,5,6] false []))) .p))))))) λ_=>by kernel_rfl,by kernel_rfl⟩
def c_200:Con te:=ae_ te [.d (.sl (.int .i64))] [(.sl (.int .i64),[some 3])] false λa=>cI_ a.1
theorem ok_200:OKF 200 c_200:=⟨ab_ ad_ ac_ Tryz.func200 (by kernel_rfl) (pl := .p) λa=>(congrFun io_ a.1).symm.trans (by kernel_rfl),by kernel_rfl⟩
def cS_233(rec0:regex_machine->Int->(List Int)->Option regex_machine):Con te:=ae_ te [.bm 254 (.st 11) [none,none,none,none,some 3,some 259] false,.d (.int .i64),.d (.sl (.int .i64))] [] true λa=>rec0 a.1 a.2.1 a.2.2.1
theorem okS_233(rec0:regex_machine->Int->(List Int)->Option regex_machine)(h:OKF 233 (cS_233 rec0)):OKF 233 (cS_233 (fs_ rec0)):=⟨ab_ ad_ (aa_ ok_200 (aa_ h ac_)) Tryz.func233 (by kernel_rfl) (pl := .s .p (.s .p (.s .p (.s .p (.s .p (.s .p (.s .p (.s .p (.s .p (.s (.s .p (.s (.dr [0,0,0,0,0,0,0,0,2] [] false []) .p)) (.s .p (.s .p (.s .p (.s (.s (.dr [0,0,0,0,0,0,0,0,0,0] [] false []) .p) .p)))))))))))))) λ_=>by kernel_rfl,by kernel_rfl⟩
theorem okN_233:∀n,OKF 233 (cS_233 (cl_ n))
 | 0=>⟨gL_ λ_=>rfl,by kernel_rfl⟩
 | n+1=>okS_233 _ (okN_233 n)
def c_233:Con te:=cS_233 (cl_ BIG)
theorem ok_233:OKF 233 c_233:=okN_233 BIG
def c_236:Con te:=ae_ te [.d (.st 6),.d (.int .u8)] [(.bool,[])] false λa=>jx_ a.1 a.2.1
theorem ok_236:OKF 236 c_236:=⟨ab_ ad_ ac_ Tryz.func236 (by kernel_rfl) (pl := .s .p (.s (.s .p (.s .p (.s .p (.s .p (.s .p (.s .p (.s (.s .p (.s (.s .p (.lp ⟨[(5,.d .bool),(6,.d (.int .i64))],[],[1,2],[0],[],13⟩ ⟨[(5,.d .bool)],[],[2],[0],[],13⟩ false .p)) .p)) .p))))))) .p)) λ_=>by kernel_rfl,by kernel_rfl⟩
theorem e_199(a:PA te [.d (.st 7),.d .str,.d (.int .i64),.d .bool]):ki_ a.1 a.2.1 a.2.2.1 a.2.2.2.1=eC_ Tryz.prog te eqL (ti 235 (inlF Tryz.prog te eqL dc_ Tryz.f235 (.s .p (.s (.s .p (.lx ⟨[(10,.d (.int .i64))],[(257,true,.row 259 (.st 10) [])],[0,8,9],[7,256],[],266⟩ ⟨[],[(257,true,.row 259 (.st 10) [])],[],[7,256],[],266⟩ ⟨[(2,.d (.sl (.int .i64)))],[(257,true,.row 259 (.st 10) [])],[],[7,256],[],266⟩ (.s .p (.s .p (.s (.s .p (.s (.dr [0,0,0,0,0,0,0,0,0,0,0] [] false []) (.s (.s .p .rx) .p))) .p))))) .p))) (ti 232 (inlF Tryz.prog te eqL dc_ Tryz.f232 (.p:Pl)) (tb 236 c_236 (tb 233 c_233 (tb 234 c_234 dc_))))) Tryz.f199 [.d (.st 7),.d .str,.d (.int .i64),.d .bool] [(.sl (.int .i64),[]),(.int .i64,[])] (.s .p (.s .p (.s .p (.s .p (.s .p (.s .p (.lp ⟨[(11,.d (.sl (.int .i64))),(12,.d (.int .i64))],[(7,true,.cells 254 [.v (.sl (.st 6)),.v (.int .i64),.v .str,.v (.int .i64),.own 256,.own 257]),(256,false,.row 3 (.int .i64) []),(257,false,.row 259 (.st 10) [])],[1,3,4,10],[0],[],258⟩ ⟨[],[],[],[],[],256⟩ true (.j ⟨[(11,.d (.sl (.int .i64))),(12,.d (.int .i64))],[(7,true,.cells 254 [.v (.sl (.st 6)),.v (.int .i64),.v .str,.v (.int .i64),.own 256,.own 257]),(256,true,.row 3 (.int .i64) []),(257,true,.row 259 (.st 10) [])],[1,3,4,10],[0],[],258⟩ false (.s .p (.s .p (.s (.dr [0,0,0,0,0,0,0] [] false []) .p))) (.s .p (.s (.dr [0,0,0,0,0,0,0,0,0,0,0,0] [] false []) (.s .p (.s .p (.lp ⟨[(90,.d (.int .i64))],[(7,true,.cells 254 [.v (.sl (.st 6)),.v (.int .i64),.v .str,.v (.int .i64),.own 7511,.own 7512]),(7511,false,.row 3 (.int .i64) []),(7512,false,.row 259 (.st 10) []),(257,true,.row 259 (.st 10) [])],[1,3,4,10,11,12,15,88,89],[0],[],7513⟩ ⟨[],[(7,true,.cells 254 [.v (.sl (.st 6)),.v (.int .i64),.v .str,.v (.int .i64),.own 7511,.own 7512]),(7511,false,.row 3 (.int .i64) []),(7512,false,.row 259 (.st 10) [])],[1,3,4,10,11,12],[0],[],7513⟩ false (.s .p (.s .p (.j ⟨[],[(7,true,.cells 254 [.v (.sl (.st 6)),.v (.int .i64),.v .str,.v (.int .i64),.own 7514,.own 7515]),(7514,false,.row 3 (.int .i64) []),(7515,false,.row 259 (.st 10) []),(257,true,.row 259 (.st 10) [])],[1,3,4,10,11,12,15,88,89,90],[0],[],7516⟩ false .p .p)))))))))))))))) a:=by kernel_rfl
def c_199:Con te:=ae_ te [.d (.st 7),.d .str,.d (.int .i64),.d .bool] [(.sl (.int .i64),[]),(.int .i64,[])] true λa=>ki_ a.1 a.2.1 a.2.2.1 a.2.2.2.1
theorem ok_199:OKF 199 c_199:=⟨ab_ ad_ (bM_ ⟨d8_ ad_ ac_ Tryz.func235,by kernel_rfl⟩ (bM_ ⟨d8_ ad_ ac_ Tryz.func232,by kernel_rfl⟩ (aa_ ok_236 (aa_ ok_233 (aa_ ok_234 ac_))))) Tryz.func199 (by kernel_rfl) e_199,by kernel_rfl⟩
def c_163:Con te:=ae_ te [.d (.st 7),.d .str] [(.sl (.int .i64),[some 3]),(.bool,[])] false λa=>dA_ a.1 a.2.1
theorem ok_163:OKF 163 c_163:=⟨ab_ ad_ (aa_ ok_200 (aa_ ok_199 ac_)) Tryz.func163 (by kernel_rfl) (pl := .p) λ_=>by kernel_rfl,by kernel_rfl⟩
theorem e_125(a:PA te [.bm 157 (.st 9) [] false,.d (.st 0)]):eQ_ a.1 a.2.1=eC_ Tryz.prog te eqL (ti 162 (inlF Tryz.prog te eqL dc_ Tryz.f162 (.p:Pl)) (tb 163 c_163 (tb 137 c_137 (tb 161 c_161 (tb 160 c_160 dc_))))) Tryz.f125 [.bm 157 (.st 9) [] false,.d (.st 0)] [(.bool,[])] (.s .p (.s .p (.s .p (.s .p (.s (.dr [0,0,0,0,0,2,4] [] false []) (.s .p (.s .p (.s .p (.s (.dr [0,0,0,0,1,4,4,4,4,4] [] false []) (.j ⟨[],[(0,true,.cells 157 [.v .str,.v .str,.v .str,.v .str,.v (.sl (.st 2)),.v .str,.v .str,.v (.sl (.int .i64)),.v .str])],[11],[],[],4276⟩ false .p .p)))))))))) a:=by kernel_rfl
def c_125:Con te:=ae_ te [.bm 157 (.st 9) [] false,.d (.st 0)] [(.bool,[])] true λa=>eQ_ a.1 a.2.1
theorem ok_125:OKF 125 c_125:=⟨ab_ ad_ (bM_ ⟨d8_ ad_ ac_ Tryz.func162,by kernel_rfl⟩ (aa_ ok_163 (aa_ ok_137 (aa_ ok_161 (aa_ ok_160 ac_))))) Tryz.func125 (by kernel_rfl) e_125,by kernel_rfl⟩
def c_86:Con te:=ae_ te [.d (.st 1),.d (.st 3)] [(.st 3,[]),(.str,[]),(.bool,[])] true λa=>k6_ a.1 a.2.1
theorem ok_86:OKF 86 c_86:=⟨ab_ ad_ (aa_ ok_125 (aa_ ok_87 (aa_ ok_82 (aa_ ok_70 ac_)))) Tryz.func86 (by kernel_rfl) (pl := .s .p (.s .p (.s .p (.s .p (.s (.s .p (.lp ⟨[(32,.d (.int .i64))],[(4014,true,.cells 157 [.v .str,.v .str,.v .str,.v .str,.v (.sl (.st 2)),.v .str,.v .str,.v (.sl (.int .i64)),.v .str])],[4,7,30,31],[4],[],4031⟩ ⟨[],[(4014,true,.box 157 (.st 9))],[4,7],[4],[],4031⟩ true .p)) (.s .p (.s (.dr [0,0,0,0,0,0,0,0,1,4,4] [] true [4]) .p))))))) λ_=>by kernel_rfl,by kernel_rfl⟩
def c_48:Con te:=ae_ te [.d (.sl (.st 1)),.d (.st 3)] [(.st 3,[]),(.str,[]),(.bool,[])] true λa=>dB_ a.1 a.2.1
theorem ok_48:OKF 48 c_48:=⟨ab_ ad_ (aa_ ok_86 ac_) Tryz.func48 (by kernel_rfl) (pl := .s .p (.s (.s .p (.lp ⟨[(14,.d (.int .i64))],[],[3,4,12,13],[0,2],[],9⟩ ⟨[],[],[4],[2],[],9⟩ true .p)) .p)) λ_=>by kernel_rfl,by kernel_rfl⟩
def c_49:Con te:=ae_ te [.d (.sl (.st 4)),.f1 (.st 4) .bool] [(.int .i64,[])] false λa=>aq_ a.1 a.2.1
theorem ok_49:OKF 49 c_49:=⟨ab_ ad_ ac_ Tryz.func49 (by kernel_rfl) (pl := .s .p (.s (.s .p (.lp ⟨[(8,.d (.int .i64))],[],[0,1,7],[],[],4⟩ ⟨[],[],[],[],[],4⟩ true .p)) .p)) λ_=>by kernel_rfl,by kernel_rfl⟩
def c_50:Con te:=ae_ te [.d (.st 4),.p .str] [(.bool,[])] false λa=>dd_ a.1 a.2.1
theorem ok_50:OKF 50 c_50:=⟨ab_ ad_ ac_ Tryz.func50 (by kernel_rfl) (pl := .p) λ_=>by kernel_rfl,by kernel_rfl⟩
def c_51:Con te:=ae_ te [.d (.st 3)] [(.bool,[])] false λa=>b1_ a.1
theorem ok_51:OKF 51 c_51:=⟨ab_ ad_ (aa_ ok_47 ac_) Tryz.func51 (by kernel_rfl) (pl := .p) λ_=>by kernel_rfl,by kernel_rfl⟩
noncomputable abbrev fSend:Func:=Tryz.f19
noncomputable def sC:Code:=fSend.body.getD .skip
noncomputable def sR0:Code:=sC.lf
noncomputable def sR1:Code:=sC.rt.lf
noncomputable def sP2:Code:=sC.rt.rt.lf
noncomputable def sR5:Code:=sC.rt.rt.rt.lf
noncomputable def sP6:Code:=sC.rt.rt.rt.rt.lf
noncomputable def sR8:Code:=sC.rt.rt.rt.rt.rt.lf
noncomputable def sB0:Code:=sC.rt.rt.rt.rt.rt.rt.lf
noncomputable def sR15:Code:=sC.rt.rt.rt.rt.rt.rt.rt.lf
noncomputable def sR16:Code:=sC.rt.rt.rt.rt.rt.rt.rt.rt.lf
theorem sC_eq:fSend.body=some (.seq sR0 (.seq sR1 (.seq sP2 (.seq sR5 (.seq sP6 (.seq sR8 (.seq sB0 (.seq sR15 (.seq sR16 .ret))))))))):=by kernel_rfl
theorem sR0_eq:sR0 = .region 0 [sR0.at 0,sR0.at 1,sR0.at 2,sR0.at 3].toArray false:=by kernel_rfl
theorem sR1_eq:sR1 = .region 1 [sR1.at 0,sR1.at 1,sR1.at 2,sR1.at 3].toArray false:=by kernel_rfl
noncomputable def s15:List Oper:=[sR15.at 0,sR15.at 1,sR15.at 2,sR15.at 3,sR15.at 4,sR15.at 5,sR15.at 6,sR15.at 7,sR15.at 8,sR15.at 9,sR15.at 10,sR15.at 11,sR15.at 12,sR15.at 13,sR15.at 14,sR15.at 15]
theorem sR15_eq:sR15 = .region 15 s15.toArray true:=by kernel_rfl
theorem sR16_eq:sR16 = .region 16 [sR16.at 0,sR16.at 1,sR16.at 2].toArray false:=by kernel_rfl
def sOrd:List (Nat×Bool):=[(0,false),(1,false),(2,false),(3,false),(4,false),(5,false),(6,false),(7,false),(8,false),(9,false),(10,true),(11,true),(12,true),(13,true),(14,true),(15,true)]
theorem s15_mix:mixBI .any s15.toArray [15] [] sOrd=true:=by kernel_rfl
noncomputable def tSend:Tab te:=tb 52 c_52 (tb 51 c_51 (tb 50 c_50 (tb 49 c_49 (tb 48 c_48 (tb 47 c_47 (tb 41 c_41 dc_))))))
theorem fN_:tSend.OK Tryz.prog te:=aa_ ok_52 (aa_ ok_51 (aa_ ok_50 (aa_ ok_49 (aa_ ok_48 (aa_ ok_47 (aa_ ok_41 ac_))))))
noncomputable def bS(H:Nat->Option (Rt.Obj te)):Ba te:=⟨λ_=>none,H,5⟩
noncomputable abbrev evS(H:Nat->Option (Rt.Obj te))(c:Code)(pl:Pl){R:Type}(s:St te)(k:St te->Option R):Option R:=evCode Tryz.prog te eqL tSend 85 Unit (λ_ _=>none) c pl R (bS H) s (thenE k) (λ_=>none)
noncomputable def frH(l:List (Nat×Rt.Obj te)):Nat->Option (Rt.Obj te):=λi=>am_ i l
noncomputable def sH2(x0:Xx)(x1:Xz):Nat->Option (Rt.Obj te):=frH [(1,.fb (.st 5) x0),(2,.fb (.st 3) x1)]
noncomputable def sS2:St te:=⟨[(2,some (.v (.one (.ptr 1 0)))),(3,some (.v (.one (.ptr 2 0)))),(4,some (.v (.one (.ptr 3 0)))),(6,some (.v (.one (.ptr 4 0))))],none,[],none,10⟩
noncomputable def sK2(H:Nat->Option (Rt.Obj te))(s:St te):Option (Xz×Str):=(dL_ (s.L (bS H) 4)).bind λk4=>(dL_ (s.L (bS H) 6)).bind λk6=>(dL_ (s.L (bS H) 9)).bind λi=>(dL_ (s.L (bS H) 10)).bind λj=>(obBox 39 (s.H (bS H) i)).bind λcs=>(obBox 9 (s.H (bS H) j)).bind λds=>bA_ (!(Nat.beq i j)&&Nat.beq cs.length 6&&Nat.beq ds.length 1&&(Nat.beq k4 3&&Nat.beq k6 4))<|(fm_ .str cs[0]?).bind λa=>(fm_ .str cs[1]?).bind λb=>(fm_ .str cs[2]?).bind λc=>(fm_ .str cs[3]?).bind λd=>(fm_ (.sl (.st 2)) cs[4]?).bind λe=>(fm_ .str cs[5]?).bind λf=>(fm_ .str ds[0]?).bind λn=>some (Xz.mk a b c d e f,n)
theorem sEv2(x0:Xx)(x1:Xz):(evS (sH2 x0 x1) sP2 .p sS2 λs1=>evS (sH2 x0 x1) sR5 .p s1 λs2=>evS (sH2 x0 x1) sP6 (.s .p (.s (.dr [0,0,0,1,1] [] true [27,29]) .p)) s2 (sK2 (sH2 x0 x1))) =
  (cx_ x1).bind λy2=>bif(y2.2 != 0)then none else(dB_ x0.Xb x1).bind λy3=>bif(!y3.2.2)then some (x1,x1.Xd)else some (y3.1,y3.2.1):=by kernel_rfl
noncomputable def sH3(y:Xx)(m:Xz)(n:Str):Nat->Option (Rt.Obj te):=frH [(1,.fb (.st 5) y),(2,.fb (.st 3) m),(3,.fb .str n)]
noncomputable def sS3:St te:=⟨[(6,some (.v (.one (.ptr 1 0)))),(9,some (.v (.one (.ptr 2 0)))),(10,some (.v (.one (.ptr 3 0)))),(4,some (.v (.one (.ptr 4 0))))],none,[],none,10⟩
noncomputable def sK3(H:Nat->Option (Rt.Obj te))(s:St te):Option Int:=(dL_ (s.L (bS H) 4)).bind λk=>(dL_ (s.L (bS H) 6)).bind λi=>(dL_ (s.L (bS H) 9)).bind λj=>bA_ (Nat.beq i 1&&Nat.beq j 2&&Nat.beq k 4) (svInt (s.L (bS H) 12))
noncomputable def sPl0:Pl := .s (.ot 0 (.free 0 (.free 1 (.free 2 (.spl 2 (.free 3 (.alt 4 (.free 5 (.alt 6 (.free 7 (.alt 8 (.free 9 (.alt 10 (.free 11 .nil) .nil)) .nil)) .nil)) .nil)) (.free 3 (.alt 4 (.free 5 (.alt 6 (.free 7 (.alt 8 (.free 9 (.alt 10 (.free 11 .nil) .nil)) .nil)) .nil)) .nil))))))) .p
theorem sEv3(y:Xx)(m:Xz)(n:Str):(evS (sH3 y m n) sR8 .p sS3 λs1=>evS (sH3 y m n) sB0 sPl0 s1 (sK3 (sH3 y m n))) =
  (aq_ y.Xj (λ(u1:Xk)=>Option.bind (dd_ u1 n) λ(v1:Bool)=>some v1)).bind λy4 =>
  bif(decide (y4<0))then none else(ag_ y.Xj y4).bind λy5=>bif(y5.Xp==0)then none else(b1_ m).bind λy6=>bif(!y6)then none else
  (ag_ y.Xj y4).bind λy7=>bif(decide ((y7.Xf.length:Int)>=64))then none else some y4:=by kernel_rfl
end
structure Sent(x0:Xx)(x1:Xz)(y1:Xx)(m:Xz)(n:Str)(y4:Int)(y5:Xk)(y9:Xz):Prop where
 own:br_ x0=some y1
 ev2:(evS (sH2 x0 x1) sP2 .p sS2 λs1=>evS (sH2 x0 x1) sR5 .p s1 λs2=>evS (sH2 x0 x1) sP6 (.s .p (.s (.dr [0,0,0,1,1] [] true [27,29]) .p)) s2 (sK2 (sH2 x0 x1)))=some (m,n)
 ev3:(evS (sH3 y1 m n) sR8 .p sS3 λs1=>evS (sH3 y1 m n) sB0 sPl0 s1 (sK3 (sH3 y1 m n)))=some y4
 at4:ag_ y1.Xj y4=some y5
 cl:bL_ m=some y9
 rm:∃r,room 104 y5.Xf [y9]=some r
def sG2(b2 b3 b4 b6:Nat):Ga:=λj=>if j=1 then some ⟨none,0,0,0,b2,0⟩else if j=2 then some ⟨none,0,0,0,b3,0⟩else if j=3 then some ⟨none,0,0,0,b4,0⟩else if j=4 then some ⟨none,0,0,0,b6,0⟩else none
theorem hI_{b2 b3 b4 b6 n:Nat}(h:5<=n):Fresh (sG2 b2 b3 b4 b6) n:=λj hj=>by
 unfold sG2;rw[if_neg (by omega),if_neg (by omega),if_neg (by omega),if_neg (by omega)]
def SentH(z0:Fz)(w0:World)(y:Xx)(v:Value)(w:World):Prop:=∃z vr vp,Mx te z0 w0 w z []/\v = .tuple #[.agg #[vr,vp],.int .i64 0]/\RD te z [.sl (.st 1),.sl (.st 4)] (y.Xb,y.Xj,()) [vr,vp]
theorem frH_two{p q o:Rt.Obj te}{i:Nat}(h:frH [(1,p),(2,q)] i=some o):(i=1/\o=p)\/(i=2/\o=q):=by
 unfold frH at h;simp only[am_]at h;split at h
 .rename_i hb;exact .inl ⟨qNb hb,(qSj h).symm⟩
 .split at h
  .rename_i hb;exact .inr ⟨qNb hb,(qSj h).symm⟩
  .cases h
theorem frH_three{p q r o:Rt.Obj te}{i:Nat}(h:frH [(1,p),(2,q),(3,r)] i=some o):(i=1/\o=p)\/(i=2/\o=q)\/(i=3/\o=r):=by
 unfold frH at h;simp only[am_]at h;split at h
 .rename_i hb;exact .inl ⟨qNb hb,(qSj h).symm⟩
 .split at h
  .rename_i hb;exact .inr (.inl ⟨qNb hb,(qSj h).symm⟩)
  .split at h
   .rename_i hb;exact .inr (.inr ⟨qNb hb,(qSj h).symm⟩)
   .cases h
theorem jj_{α:Type}{l:List α}(h:l.length=6):∃a b c d e f,l=[a,b,c,d,e,f]:=by
 match l,h with
 | [a,b,c,d,e,f],_=>exact⟨a,b,c,d,e,f,rfl⟩
theorem one_list{α:Type}{l:List α}(h:l.length=1):∃a,l=[a]:=by
 match l,h with
 | [a],_=>exact⟨a,rfl⟩
section
variable{x0:Xx}{x1:Xz}{y1:Xx}{m:Xz}{n:Str}{y4:Int}{y5:Xk}{y9:Xz}{z0:Fz}{w0:World}{y10:List Xz}
def SentJ(z0:Fz)(w0:World)(y1:Xx)(m:Xz)(y4:Int)(a:Act)(w:World):Prop :=
 ∃z b4 b6 b9 vr A cap rows Aq capq rq ms,Mx te z0 w0 w z [.box b6 27 [vr,.slice A y1.Xj.length cap],.row 66 3 A y1.Xj.length cap rows,.row 39 6 Aq (rq:List (List Value)).length capq rq,.box b4 27 [.slice none 0 0,.slice none 0 0]] /\
  Env 85 a [(4,.pointer (some ⟨b4,0,none⟩)),(6,.pointer (some ⟨b6,0,none⟩)),(9,.pointer (some ⟨b9,0,none⟩)),(12,.int .i64 y4)]/\RD te z [.sl (.st 1)] (y1.Xb,()) [vr]/\HoleRows z y4.toNat y1.Xj rows Aq capq rq /\
  z.F b9/\RD te z (te.flat (.st 3)) (te.fl (.st 3) m) ms/\∀j u,ms[j]? = some u->z.w.cell? ⟨b9,j,none⟩=some u
def I15(z:Fz)(b6:Nat)(A:Option Addr)(w:World)(w':World):Prop:=w.heap.size<=w'.heap.size/\∀k,(z.F k\/k=b6\/aZ_ A k)->w'.heap[k]? = w.heap[k]?
theorem ld_at{N:Nat}{a:Act}{env:List (Nat×Value)}{P:Program}{o:Oper}{w:World}{b off:Nat}{T T':TypeId}{cs:List Value}{v:Value}{x:Operand}(hE:Env N a env)(ho:o.op = .load T x)(hx:opv env x=some (.pointer (some ⟨b,off,none⟩)))(hb:w.heap[b]? = some (.cells cs.toArray T' (0,0)))
  (hv:cO_ P T cs off=some v):(execOp a.eval o).run P w = .ok (.value v) w:=by
 have h:=ct_ (P:=P) (b:=b) (base:=0) hv (w:=w) (λj u hu=>by
  rw[Nat.zero_add,cell_of_row w b j cs.toArray T' (0,0) hb];simpa using hu)
 rw[Nat.zero_add]at h;exact Rt.run_load ho (hE.eval hx) h
theorem clone_call(hcl:bL_ m=some y9){w:World}{z:Fz}{L:List Res}(hM:Mx te z0 w0 w z L){ms:List Value}(hms:RD te z (te.flat (.st 3)) (te.fl (.st 3) m) ms) :
  Ret Tryz.prog 52 #[.agg ms.toArray] w λv w'=>∃z' vs,Mx te z0 w0 w' z' L/\z.Le z'/\v = .agg vs.toArray/\RD te z' (te.flat (.st 3)) (te.fl (.st 3) y9) vs/\Chg [] w w':=by
 obtain⟨rh,bh,hk,hcall⟩:=ok_52.1 _ (m,()) (λrh _=>some rh) (y9,()) (by
  show(bL_ m).bind _=_;rw[hcl];rfl)
 obtain rfl:=qSj hk;refine Ret.mono (hcall w z (λ_=>none) [] [.agg (te.cells (.st 3) m)] [.agg ms.toArray] rfl ((hM.hr _).less λi o e=>e) (λ_ _=>rfl) (.cons ⟨ms,rfl,cells_rd.1 hms⟩ .nil)) ?_
 rintro v w' ⟨z',g',svr,hz,_,hg,hsv,hv,hH⟩;obtain rfl:=qSj hsv;obtain⟨vs,rfl,hvs⟩:=hv;have hrow:upH (λ_=>none) (bD_ te [(.st 3,[none,none,none,none,some 87])] (y9,()) 0++av_ te [.d (.st 3)] (cc_ te [.d (.st 3)] (m,()) bh) 0 (0+1)) 0=some (.row 87 (.st 2) y9.Xy []):=rfl;obtain⟨l,rows,hl,hn,hlen,hrows,hres⟩:=hH_ hH hrow;have hM2:=hM.step hH hz [(0,.row 87 (te.size (.st 2)) l.A y9.Xy.length l.cap rows)] (λp hp=>by
  obtain rfl:=List.mem_singleton.1 hp;exact⟨_,hrow,hres⟩) (by simp)
 obtain⟨hM3,hz3,hs3⟩:=hM2.freeze;refine⟨_,vs,hM3,hz.trans hz3,rfl,?_,hH.chg⟩;have hc:All2 (RC Tryz.prog te z' g') [.dt .str y9.Xr,.dt .str y9.Xd,.dt .str y9.Xt,.dt .str y9.Xm,.own 0,.dt .str y9.Xn] vs:=hvs;cases hc with
 | cons c0 hc =>
 cases hc with
 | cons c1 hc =>
 cases hc with
 | cons c2 hc =>
 cases hc with
 | cons c3 hc =>
 cases hc with
 | cons c4 hc =>
 cases hc with
 | cons c5 hc =>
 cases hc
 obtain⟨l',gl',rfl⟩:=c4;obtain rfl:=qSj (hl.symm.trans gl');rw[hn];refine RD.cons (RD.le c0 hz3) (RD.cons (RD.le c1 hz3) (RD.cons (RD.le c2 hz3) (RD.cons (RD.le c3 hz3) ?_)));exact .sl hs3 (Own.cap_le hres.2.1.1).1 (λj x r h7 h8=>(hrows.le hz3) j x r h7 h8) (RD.le c5 hz3)
set_option maxRecDepth 100000 in
theorem send_end(hs:Sent x0 x1 y1 m n y4 y5 y9)(hr:room 104 y5.Xf [y9]=some y10){a:Act}{w:World}(hJ:SentJ z0 w0 y1 m y4 a w) :
  (Code.seq sR15 (.seq sR16 .ret)).wp Tryz.prog (bodyPost Tryz.prog fSend λe w'=>∃v,e = .returned v/\SentH z0 w0 ⟨y1.Xb,y1.Xj.set y4.toNat ⟨y5.Xv,y10,y5.Xp⟩⟩ v w') a w:=by
 obtain⟨z,b4,b6,b9,vr,A,cap,rows,Aq,capq,rq,ms,hM,hE,hrr,hh,hF9,hms,hc9⟩:=hJ;obtain⟨h40,hy5,hlt4⟩:=cu_ hs.at4;obtain⟨hrow,hlq,hrq⟩:=hh.hole y5 hy5;obtain⟨m0,m1,m2,m3,m4,m5,rfl⟩:=jj_ hms.len;rw[hlq]at hM;have hrd:=bx_ (hM.sep.hold (.row 66 3 A y1.Xj.length cap rows) (by simp));obtain⟨b,off,rfl,_,_⟩:=hrd.2 (by omega);have hb6:w.heap[b6]? = some (.cells [vr,.slice (some ⟨b,off,none⟩) y1.Xj.length cap].toArray 27 (0,0)):=hM.sep.hold (.box b6 27 [vr,.slice (some ⟨b,off,none⟩) y1.Xj.length cap]) (by simp);have hlt:∀k,(z.F k\/k=b6\/aZ_ (some ⟨b,off,none⟩) k)->k<w.heap.size:=λk hk=>by
  rcases hk with hk|hk|hk
  .exact(hM.In k hk).1
  .exact hM.lt (r := .box b6 27 [vr,.slice (some ⟨b,off,none⟩) y1.Xj.length cap]) (by simp) hk
  .exact hM.lt (r := .row 66 3 (some ⟨b,off,none⟩) y1.Xj.length cap rows) (by simp) hk
 have hIx:∀w1 w2,I15 z b6 (some ⟨b,off,none⟩) w w1->Ext w1 w2->I15 z b6 (some ⟨b,off,none⟩) w w2:=λw1 w2 h1 hx =>
  ⟨Nat.le_trans h1.1 hx.below.size,λk hk=>(hx.below.block k (Nat.lt_of_lt_of_le (hlt k hk) h1.1)).trans (h1.2 k hk)⟩
 have hI6:∀w',I15 z b6 (some ⟨b,off,none⟩) w w'->w'.heap[b6]? = some (.cells [vr,.slice (some ⟨b,off,none⟩) y1.Xj.length cap].toArray 27 (0,0)):=λw' h=>(h.2 b6 (.inr (.inl rfl))).trans hb6
 have hIr:∀w',I15 z b6 (some ⟨b,off,none⟩) w w'->SlF (aZ_ (some ⟨b,off,none⟩)) 3 (some ⟨b,off,none⟩) y1.Xj.length rows w':=λw' h=>SlF.local w w' h.1 (λk hk=>h.2 k (.inr (.inr hk))) hrd
 have hIz:∀w',I15 z b6 (some ⟨b,off,none⟩) w w'->z.In w':=λw' h k hk=>⟨Nat.lt_of_lt_of_le (hM.In k hk).1 h.1,(h.2 k (.inl hk)).trans (hM.In k hk).2⟩
 rw[sR15_eq];refine wp_seq (fD_ hIx [15] [] sOrd (by kernel_rfl) s15_mix ⟨Nat.le_refl _,λ_ _=>rfl⟩ ?_);refine es_ hE (o:=sR15.at 0) rfl (by kernel_rfl) 69 (by kernel_rfl) rfl (.pointer (some ⟨b6,1,none⟩)) (λw' _=>dj_ hE (by kernel_rfl) w') λa1 hE1 => ?_
 refine es_ hE1 (o:=sR15.at 1) rfl (by kernel_rfl) 70 (by kernel_rfl) rfl (.slice (some ⟨b,off,none⟩) y1.Xj.length cap) (λw' h=>ld_at hE1 (by kernel_rfl:(sR15.at 1).op = .load 25 (.tmp 69)) rfl (hI6 w' h) (by kernel_rfl)) λa2 hE2 => ?_
 refine es_ hE2 (o:=sR15.at 2) rfl (by kernel_rfl) 71 (by kernel_rfl) rfl (.int .i64 y4) (λw' _=>dj_ hE2 (by kernel_rfl) w') λa3 hE3 => ?_
 refine es_ hE3 (o:=sR15.at 3) rfl (by kernel_rfl) 72 (by kernel_rfl) rfl (.pointer (some ⟨b6,1,none⟩)) (λw' _=>dj_ hE3 (by kernel_rfl) w') λa4 hE4 => ?_
 refine es_ hE4 (o:=sR15.at 4) rfl (by kernel_rfl) 73 (by kernel_rfl) rfl (.slice (some ⟨b,off,none⟩) y1.Xj.length cap) (λw' h=>ld_at hE4 (by kernel_rfl:(sR15.at 4).op = .load 25 (.tmp 72)) rfl (hI6 w' h) (by kernel_rfl)) λa5 hE5 => ?_
 refine es_ hE5 (o:=sR15.at 5) rfl (by kernel_rfl) 74 (by kernel_rfl) rfl (.int .i64 y4) (λw' _=>dj_ hE5 (by kernel_rfl) w') λa6 hE6 => ?_
 refine es_ hE6 (o:=sR15.at 6) rfl (by kernel_rfl) 75 (by kernel_rfl) rfl (.pointer (some ⟨b,off+y4.toNat*3,none⟩)) (λw' h => ?_) λa7 hE7 => ?_
 .obtain⟨b',off',e,hrun⟩:=ev_ (P:=Tryz.prog) (by kernel_rfl:(sR15.at 6).op = .indexAddr 25 (.tmp 73) (.tmp 74)) (by kernel_rfl) (by kernel_rfl:ao_ Tryz.prog 66=some 3) (hE6.eval rfl) (hE6.eval rfl) (hIr w' h) rfl hs.at4;cases e
  exact hrun
 refine es_ hE7 (o:=sR15.at 7) rfl (by kernel_rfl) 76 (by kernel_rfl) rfl (.pointer (some ⟨b,off+y4.toNat*3+1,none⟩)) (λw' _=>dj_ hE7 (by kernel_rfl) w') λa8 hE8 => ?_
 refine es_ hE8 (o:=sR15.at 8) rfl (by kernel_rfl) 77 (by kernel_rfl) rfl (.slice Aq y5.Xf.length capq) (λw' h=>n2_ (by kernel_rfl:(sR15.at 8).op = .load 34 (.tmp 76)) (hE8.eval rfl) (hIr w' h) rfl hrow rfl (by kernel_rfl)) λa9 hE9 => ?_
 refine es_ hE9 (o:=sR15.at 9) rfl (by kernel_rfl) 78 (by kernel_rfl) rfl (.agg #[m0,m1,m2,m3,m4,m5]) (λw' h=>Rt.run_load (by kernel_rfl:(sR15.at 9).op = .load 39 (.tmp 9)) (hE9.eval rfl) ?_) λa10 hE10 => ?_
 .have:=ct_ (P:=Tryz.prog) (T:=39) (b:=b9) (base:=0) (off:=0) (cs:=[m0,m1,m2,m3,m4,m5]) (v := .agg #[m0,m1,m2,m3,m4,m5]) (by kernel_rfl) (w:=w') (λj u hu=>by
   rw[Nat.zero_add];exact(hIz w' h).cell hF9 (hc9 j u hu))
  exact this
 have hapq:∀k,(z.F k\/k=b6\/aZ_ (some ⟨b,off,none⟩) k)->¬aZ_ Aq k:=λk hk hq=>by
  rcases hk with hk|hk|hk
  .exact hM.nfz (r := .row 39 6 Aq y5.Xf.length capq rq) (by simp) hq hk
  .exact(List.pairwise_cons.1 (List.pairwise_cons.1 hM.sep.apart).2).1 (.row 39 6 Aq y5.Xf.length capq rq) (by simp) (.inl trivial) k hk hq
  .exact(List.pairwise_cons.1 (List.pairwise_cons.1 (List.pairwise_cons.1 hM.sep.apart).2).2).1 (.row 39 6 Aq y5.Xf.length capq rq) (by simp) (.inl trivial) k hk hq
 refine g1_ (o:=sR15.at 10) rfl λw' hx => ?_
 refine st_call hE10 (by kernel_rfl) 79 (by kernel_rfl) rfl 52 #[.agg #[m0,m1,m2,m3,m4,m5]] (by kernel_rfl) _ (clone_call hs.cl (hM.ext hx) hms) λa11 v79 w11 hR hE11 => ?_
 obtain⟨z1,vs,hM1,hz1,rfl,hvs,hchg⟩:=hR;obtain⟨n0,n1,n2,n3,n4,n5,rfl⟩:=jj_ hvs.len;refine⟨λ_ hI=>hIx w' w11 (hIx w w' hI hx) (Ext.of_below hchg.below),?_⟩;refine g1_ (o:=sR15.at 11) rfl λw' hx => ?_
 refine go_slice hE11 (hM1.ext hx).sep (by kernel_rfl) 80 (by kernel_rfl) rfl 39 6 1 [[n0,n1,n2,n3,n4,n5]] (λ_=>by kernel_rfl) rfl (λr hr=>by obtain rfl:=List.mem_singleton.1 hr;rfl) rfl λa12 w12 A8 hx12 hE12 hS12 => ?_
 refine⟨λ_ hI=>hIx w' w12 (hIx w11 w' hI hx) hx12,?_⟩;refine g1_ (o:=sR15.at 12) rfl λw' hx => ?_
 have hlit:=bx_ ((hS12.ext hx).hold (.row 39 6 A8 1 1 [[n0,n1,n2,n3,n4,n5]]) (by simp));obtain⟨A',cap',w13,hrun,hS13,hgrow,hoth⟩:=iy_ (P:=Tryz.prog) (k:=4) (by kernel_rfl:(sR15.at 12).op = .call { callee := .builtin .append,args := #[.tmp 77,.tmp 80],argTypes := #[34,34] }) (h5_ (t:=34) (e:=39) (c:=6) (bytes:=104) (by kernel_rfl) (by kernel_rfl)) (hE12.eval rfl) (hE12.eval rfl) (hS12.ext hx) rfl hlit (λr hr=>by
  obtain rfl:=List.mem_singleton.1 hr;exact RD.cells hvs) rfl rfl hr (λr hr=>by obtain rfl:=List.mem_singleton.1 hr;rfl)
 refine dN_ hE12 (by kernel_rfl) 81 (by kernel_rfl) rfl _ hrun λa13 hE13 => ?_
 refine⟨λ_ hI => ?_,?_⟩
 .have h1:=hIx w12 w' hI hx;exact⟨Nat.le_trans h1.1 hgrow.size,λk hk=>(hoth k (Nat.lt_of_lt_of_le (hlt k hk) h1.1) (hapq k hk)).trans (h1.2 k hk)⟩
 refine g1_ (o:=sR15.at 13) rfl λw' hx => ?_
 have hS14:=hS13.ext hx;obtain⟨b',off',e,hrun⟩:=ev_ (P:=Tryz.prog) (by kernel_rfl:(sR15.at 13).op = .indexAddr 25 (.tmp 70) (.tmp 71)) (by kernel_rfl) (by kernel_rfl:ao_ Tryz.prog 66=some 3) (hE13.eval rfl) (hE13.eval rfl) (bx_ (hS14.hold (.row 66 3 (some ⟨b,off,none⟩) y1.Xj.length cap rows) (by simp))) rfl hs.at4;cases e
 refine dN_ hE13 (by kernel_rfl) 82 (by kernel_rfl) rfl _ hrun λa14 hE14 => ?_
 refine⟨λ_ hI=>hIx w13 w' hI hx,?_⟩;refine g1_ (o:=sR15.at 14) rfl λw2 hx2 => ?_
 refine eT_ hE14 (by kernel_rfl) 83 (by kernel_rfl) rfl (.pointer (some ⟨b,off+y4.toNat*3+1,none⟩)) (by kernel_rfl) λa15 hE15 => ?_
 refine⟨λ_ hI=>hIx w' w2 hI hx2,?_⟩;refine g1_ (o:=sR15.at 15) rfl λw3 hx3 => ?_
 have hS15:=(hS14.ext hx2).ext hx3;have hvr:cQ_ vr=true:=RD.cell hrr;refine go_put (j:=1) (i:=y4.toNat) (r:=[S y5.Xv,.slice Aq y5.Xf.length capq,.int .i64 y5.Xp]) (r':=[S y5.Xv,.slice A' (y5.Xf.length+1) cap',.int .i64 y5.Xp]) (L':=[.row 39 6 A8 1 1 [[n0,n1,n2,n3,n4,n5]],.ro z1.F z1.In,.box b6 27 [vr,.slice (some ⟨b,off,none⟩) y1.Xj.length cap],.row 66 3 (some ⟨b,off,none⟩) y1.Xj.length cap (rows.set y4.toNat [S y5.Xv,.slice A' (y5.Xf.length+1) cap',.int .i64 y5.Xp]),.row 39 6 A' (y5.Xf.length+1) cap' (rq++[[n0,n1,n2,n3,n4,n5]]),.box b4 27 [.slice none 0 0,.slice none 0 0]]) hE15 hS15 (by kernel_rfl) (by kernel_rfl) 3 (by kernel_rfl:(sR15.at 15).op = .store 34 (.tmp 83) (.tmp 81)) rfl rfl rfl rfl hrow rfl (by kernel_rfl) (by kernel_rfl) rfl rfl rfl rfl λw16 hS16 => ?_
 refine⟨λh=>(by cases h),λX d => ?_⟩;show(Code.seq sR16 .ret).wp _ _ a15 (w16.ext X d);have hS17:=hS16.ext ⟨X,d,rfl⟩;rw[sR16_eq];refine gc_ (λa' w'=>Env 85 a' [(4,.pointer (some ⟨b4,0,none⟩)),(5,.int .i64 0)]/\Sep [] w0 w' [.row 39 6 A8 1 1 [[n0,n1,n2,n3,n4,n5]],.ro z1.F z1.In,.box b6 27 [vr,.slice (some ⟨b,off,none⟩) y1.Xj.length cap],.row 66 3 (some ⟨b,off,none⟩) y1.Xj.length cap (rows.set y4.toNat [S y5.Xv,.slice A' (y5.Xf.length+1) cap',.int .i64 y5.Xp]),.row 39 6 A' (y5.Xf.length+1) cap' (rq++[[n0,n1,n2,n3,n4,n5]]),.box b4 27 [vr,.slice (some ⟨b,off,none⟩) y1.Xj.length cap]]) (λa' w' ⟨hE',hS'⟩ => ?_) (e3_ ?_)
 .refine wp_ret (out (N:=85) (rs:=[.cell 4 27,.tmp 5]) (vs:=[.agg #[vr,.slice (some ⟨b,off,none⟩) y1.Xj.length cap],.int .i64 0]) (by kernel_rfl) hE' hS' (.cons (.cell (i:=5) rfl rfl (by kernel_rfl)) (.cons (.tmp rfl) .nil)) ?_);have hMq:Mx te z0 w0 w' z1 [.row 39 6 A' (y5.Xf.length+1) cap' (rq++[[n0,n1,n2,n3,n4,n5]]),.row 66 3 (some ⟨b,off,none⟩) y1.Xj.length cap (rows.set y4.toNat [S y5.Xv,.slice A' (y5.Xf.length+1) cap',.int .i64 y5.Xp])] :=
   (hM1.of_sep hS' (l:=[.row 66 3 (some ⟨b,off,none⟩) y1.Xj.length cap (rows.set y4.toNat [S y5.Xv,.slice A' (y5.Xf.length+1) cap',.int .i64 y5.Xp]),.row 39 6 A' (y5.Xf.length+1) cap' (rq++[[n0,n1,n2,n3,n4,n5]])]) (.cons _ (.cons_cons _ (.cons _ (.cons_cons _ (.cons_cons _ (.cons _ .slnil)))))) (λr hr=>by
    simp only[List.mem_cons,List.not_mem_nil,or_false]at hr;rcases hr with rfl|rfl<;>trivial)).perm (List.Perm.swap _ _ _)
  obtain⟨hMr,hzr,hsr⟩:=hMq.freeze;obtain⟨hMs,hzs,hss⟩:=hMr.freeze;have hzB:=hzr.trans hzs;have hzA:=hz1.trans hzB;have hcapq:y5.Xf.length+1<=cap':=(Own.cap_le (hMq.sep.hold (.row 39 6 A' (y5.Xf.length+1) cap' (rq++[[n0,n1,n2,n3,n4,n5]])) (by simp)).1).1;have hcapp:y1.Xj.length<=cap:=(Own.cap_le (hMq.sep.hold (.row 66 3 (some ⟨b,off,none⟩) y1.Xj.length cap (rows.set y4.toNat [S y5.Xv,.slice A' (y5.Xf.length+1) cap',.int .i64 y5.Xp])) (by simp)).1).1;obtain⟨_,_,rfl⟩:=gb_ hr;have hql:(y5.Xf++[y9]).length=y5.Xf.length+1:=by simp
  have hsl:(y1.Xj.set y4.toNat ⟨y5.Xv,y5.Xf++[y9],y5.Xp⟩).length=y1.Xj.length:=List.length_set;refine⟨_,vr,_,hMs,rfl,RD.cons (hrr.le hzA) ?_⟩;rw[←hsl]at hcapp hss ⊢;refine .sl hss hcapp (λk x r h7 h8 => ?_) .nil
  replace h7:(y1.Xj.set y4.toNat (Xk.mk y5.Xv (y5.Xf++[y9]) y5.Xp))[k]? = some x:=h7;by_cases hk:y4.toNat=k
  .subst hk;rw[List.getElem?_set,if_pos rfl,if_pos hlt4]at h7;rw[List.getElem?_set,if_pos rfl,if_pos (by rw[hh.len];exact hlt4)]at h8;obtain rfl:=qSj h7;obtain rfl:=qSj h8;have hq:=SlF.le hsr hzs;rw[←hql]at hq hcapq ⊢;refine .str (.sl hq hcapq ?_ (.int .nil));exact(hrq.le hzA).append (λi' x' r' h9 h10=>by
    obtain rfl:i'=0:=Nat.lt_one_iff.1 (List.getElem?_eq_some_iff.1 h9).1;obtain rfl:=qSj h9;obtain rfl:=qSj h10;exact hvs.le hzB) hlq
  .rw[List.getElem?_set,if_neg hk]at h7;rw[List.getElem?_set,if_neg hk]at h8;exact(hh.other k x r (λe=>hk e.symm) h7 h8).le hzA
 .refine dN_ hE15 (by kernel_rfl) 84 (by kernel_rfl) rfl (.agg #[vr,.slice (some ⟨b,off,none⟩) y1.Xj.length cap]) (ld_box hE15 hS17 2 (by kernel_rfl:(sR16.at 0).op = .load 27 (.tmp 6)) rfl rfl (by kernel_rfl)) λa16 hE16 => ?_
  refine go_set (L':=[.row 39 6 A8 1 1 [[n0,n1,n2,n3,n4,n5]],.ro z1.F z1.In,.box b6 27 [vr,.slice (some ⟨b,off,none⟩) y1.Xj.length cap],.row 66 3 (some ⟨b,off,none⟩) y1.Xj.length cap (rows.set y4.toNat [S y5.Xv,.slice A' (y5.Xf.length+1) cap',.int .i64 y5.Xp]),.row 39 6 A' (y5.Xf.length+1) cap' (rq++[[n0,n1,n2,n3,n4,n5]]),.box b4 27 [vr,.slice (some ⟨b,off,none⟩) y1.Xj.length cap]]) hE16 hS17 (by kernel_rfl) (by kernel_rfl) 5 (by kernel_rfl:(sR16.at 1).op = .store 27 (.tmp 4) (.tmp 84)) rfl rfl rfl (by kernel_rfl) (by kernel_rfl) (kp_ hvr rfl) [vr,.slice (some ⟨b,off,none⟩) y1.Xj.length cap] (by kernel_rfl) rfl λw18 hS18 => ?_
  refine eT_ hE16 (by kernel_rfl) 5 (by kernel_rfl) rfl (.int .i64 0) (by kernel_rfl) λa17 hE17 => ?_
  exact⟨hE17.sel ⟨rfl,rfl,trivial⟩,hS18⟩
set_option maxRecDepth 100000 in
theorem send_hole(hs:Sent x0 x1 y1 m n y4 y5 y9)(hr:room 104 y5.Xf [y9]=some y10){w:World}{z:Fz}(hz:z.In w)(hg:Glo te z){v0 v1:Value}
  (hv0:RV Tryz.prog te z (λ_=>none) (.v (.agg [.dt (.sl (.st 1)) x0.Xb,.dt (.sl (.st 4)) x0.Xj])) v0) (hv1:∃ms:List Value,v1 = .agg ms.toArray/\RD te z (te.flat (.st 3)) (te.fl (.st 3) x1) ms) :
  Ret Tryz.prog 19 #[v0,v1] w (SentH z w ⟨y1.Xb,y1.Xj.set y4.toNat ⟨y5.Xv,y10,y5.Xp⟩⟩):=by
 obtain⟨vs0,rfl,hc0⟩:=hv0;obtain⟨ms,rfl,hms⟩:=hv1;have hv0:RV Tryz.prog te z (λ_=>none) (.v (.agg [.dt (.sl (.st 1)) x0.Xb,.dt (.sl (.st 4)) x0.Xj])) (.agg vs0.toArray):=⟨vs0,rfl,hc0⟩;have hr0:RD te z (te.flat (.st 5)) (te.fl (.st 5) x0) vs0:=cells_rd.2 hc0;obtain⟨r0,p0,rfl⟩:=two_list' hc0.len.symm;obtain⟨m0,m1,m2,m3,m4,m5,rfl⟩:=jj_ hms.len;refine enter Tryz.func19 sC_eq (by kernel_rfl) (by kernel_rfl) (N:=85) λa hE => ?_
 have hM0:=Mx.start (E:=te) hz hg;rw[sR0_eq,sR1_eq];refine wp_seq (e3_ ?_);refine go_box hE hM0.sep (by kernel_rfl) 2 (by kernel_rfl) rfl 27 [r0,p0] (λ_=>by kernel_rfl) λa1 w1 b2 _ hE1 hS1 => ?_
 refine go_box hE1 hS1 (by kernel_rfl) 3 (by kernel_rfl) rfl 39 [m0,m1,m2,m3,m4,m5] (λ_=>by kernel_rfl) λa2 w2 b3 _ hE2 hS2 => ?_
 refine go_box hE2 hS2 (by kernel_rfl) 4 (by kernel_rfl) rfl 27 [.slice none 0 0,.slice none 0 0] (λ_=>by kernel_rfl) λa3 w3 b4 _ hE3 hS3 => ?_
 refine eT_ hE3 (by kernel_rfl) 5 (by kernel_rfl) rfl (.int .i64 0) (by kernel_rfl) λa4 hE4 => ?_
 show(Code.seq _ _).wp _ _ a4 w3;refine wp_seq (e3_ ?_);refine dN_ hE4 (by kernel_rfl) 13 (by kernel_rfl) rfl (.agg #[r0,p0]) (ld_box hE4 hS3 2 (by kernel_rfl:(sR1.at 0).op = .load 27 (.tmp 2)) rfl rfl (by kernel_rfl)) λa5 hE5 => ?_
 have hz3:z.In w3:=(hS3.hold (.ro z.F z.In) (by simp)).1;refine st_call hE5 (by kernel_rfl) 14 (by kernel_rfl) rfl 41 #[.agg #[r0,p0]] (by kernel_rfl) (OwnH z w3 y4.toNat y1) (own_hole hs.own y4.toNat hz3 hg hv0) λa6 v14 w4 hO hE6 => ?_
 obtain⟨z2,vr,A,cap,rows,Aq,capq,rq,hMo,rfl,hrr,hh⟩:=hO;have hM1:Mx te z w w3 z [.box b4 27 [.slice none 0 0,.slice none 0 0],.box b3 39 [m0,m1,m2,m3,m4,m5],.box b2 27 [r0,p0]]:=by
  refine⟨hM0.le,hM0.gl,hM0.new,hS3.perm ?_,λr hr => ?_⟩
  .exact List.perm_append_comm (l₁ := [_,_,_]) (l₂ := [_])
  .simp only[List.mem_cons,List.not_mem_nil,or_false]at hr;rcases hr with rfl|rfl|rfl<;>trivial
 have hM2:=hM1.call hMo;refine go_box hE6 hM2.sep (by kernel_rfl) 6 (by kernel_rfl) rfl 27 [.slice none 0 0,.slice none 0 0] (λ_=>by kernel_rfl) λa7 w5 b6 _ hE7 hS5 => ?_
 have hvr:cQ_ vr=true:=RD.cell hrr;refine go_set (L':=[.box b6 27 [vr,.slice A y1.Xj.length cap],.ro z2.F z2.In,.row 66 3 A y1.Xj.length cap rows,.row 39 6 Aq rq.length capq rq,.box b4 27 [.slice none 0 0,.slice none 0 0],.box b3 39 [m0,m1,m2,m3,m4,m5],.box b2 27 [r0,p0]]) hE7 hS5 (by kernel_rfl) (by kernel_rfl) 0 (by kernel_rfl:(sR1.at 3).op = .store 27 (.tmp 6) (.tmp 14)) rfl rfl rfl (by kernel_rfl) (by kernel_rfl) (kp_ hvr rfl) [vr,.slice A y1.Xj.length cap] (by kernel_rfl) rfl λw6 hS6 => ?_
 show(Code.seq _ _).wp _ _ a7 w6;have hM6:Mx te z w w6 z2 [.box b2 27 [r0,p0],.box b3 39 [m0,m1,m2,m3,m4,m5],.box b6 27 [vr,.slice A y1.Xj.length cap],.row 66 3 A y1.Xj.length cap rows,.row 39 6 Aq rq.length capq rq,.box b4 27 [.slice none 0 0,.slice none 0 0]]:=by
  refine⟨hM2.le,hM2.gl,hM2.new,hS6.perm ?_,λr hr => ?_⟩
  .refine(List.Perm.swap _ _ _).trans (List.Perm.cons _ ?_);refine(List.perm_append_comm (l₁ := [_,_,_,_]) (l₂ := [_,_])).trans ?_;exact List.Perm.swap _ _ _
  .simp only[List.mem_cons,List.not_mem_nil,or_false]at hr;rcases hr with rfl|rfl|rfl|rfl|rfl|rfl<;>trivial
 obtain⟨hM7,hz7,hc7⟩:=hM6.freezeBox;obtain⟨hM8,hz8,hc8⟩:=hM7.freezeBox;have hz08:=hMo.le.trans (hz7.trans hz8);have hb2:(z2.grow (λk=>k=b2) w6).F b2 := .inr rfl;have hR:Rel Tryz.prog te [] ⟨_,sG2 b2 b3 b4 b6,5⟩ w6 85 (sS2.L (bS (sH2 x0 x1))) (sS2.H (bS (sH2 x0 x1))) sS2.nx a7 w6 :=
  hM8.relF (H:=sH2 x0 x1) (lo:=5) (nx:=10) (hE7.sel (sl:=[(2,.pointer (some ⟨b2,0,none⟩)),(3,.pointer (some ⟨b3,0,none⟩)),(4,.pointer (some ⟨b4,0,none⟩)),(6,.pointer (some ⟨b6,0,none⟩))]) ⟨rfl,rfl,rfl,rfl,trivial⟩)
   (.cons ⟨_,rfl,rfl⟩ (.cons ⟨_,rfl,rfl⟩ (.cons ⟨_,rfl,rfl⟩ (.cons ⟨_,rfl,rfl⟩ .nil)))) (hI_ (by decide)) λid o e=>by
   rcases frH_two e with⟨rfl,rfl⟩|⟨rfl,rfl⟩
   .exact⟨.st 5,x0,rfl,_,[r0,p0],rfl,(hz8 b2 hb2).1,hr0.le hz08,λj u hu=>hz8.cell hb2 (hc7 j u hu)⟩
   .exact⟨.st 3,x1,rfl,_,[m0,m1,m2,m3,m4,m5],rfl,.inr rfl,hms.le hz08,hc8⟩
 have hlo:Fresh (sG2 b2 b3 b4 b6) (bS (sH2 x0 x1)).lo:=hI_ (Nat.le_refl 5);refine wp_seq (frag ad_ fN_ hlo hs.ev2 hR λex s1 a8 w8 he hR => ?_);cases ex with
 | some _=>cases he
 | none =>
 refine wp_seq (frag ad_ fN_ hlo he hR λex s2 a9 w9 he hR => ?_);cases ex with
 | some _=>cases he
 | none =>
 refine wp_seq (frag ad_ fN_ hlo he hR λex s3 a10 w10 he hR => ?_);cases ex with
 | some _=>cases he
 | none =>
 show(Code.seq _ _).wp _ _ a10 w10
 replace he:sK2 (sH2 x0 x1) s3=some (m,n):=he;obtain⟨z10,g10,hE10,hH10,hf10,hz10,hg10⟩:=hR;unfold sK2 at he;obtain⟨k4,e4,he⟩:=bind_some he;obtain⟨k6,e6,he⟩:=bind_some he;obtain⟨i9,e9,he⟩:=bind_some he;obtain⟨i10,e10,he⟩:=bind_some he;obtain⟨cs,ec,he⟩:=bind_some he;obtain⟨ds,ed,he⟩:=bind_some he;obtain⟨hb,he⟩:=aQ_ he;obtain⟨d0,c0,he⟩:=bind_some he;obtain⟨d1,c1,he⟩:=bind_some he;obtain⟨d2,c2,he⟩:=bind_some he;obtain⟨d3,c3,he⟩:=bind_some he;obtain⟨d4,c4,he⟩:=bind_some he;obtain⟨d5,c5,he⟩:=bind_some he;obtain⟨n',c6,he⟩:=bind_some he;injection qSj he with hm hn;subst hn;simp only[qAn,Bool.not_eq_true']at hb
 have hne:i9≠i10:=aI_ hb.1.1.1;obtain⟨q0,q1,q2,q3,q4,q5,rfl⟩:=jj_ (qNb hb.1.1.2);obtain⟨q6,rfl⟩:=one_list (qNb hb.1.2);obtain rfl:=qNb hb.2.1;obtain rfl:=qNb hb.2.2;obtain rfl:=qSj (cr_ c0);obtain rfl:=qSj (cr_ c1);obtain rfl:=qSj (cr_ c2);obtain rfl:=qSj (cr_ c3);obtain rfl:=qSj (cr_ c4);obtain rfl:=qSj (cr_ c5);obtain rfl:=qSj (cr_ c6);obtain⟨_,t4,l4,gl4,rfl⟩:=hE10.get 4 _ (bt_ e4);obtain⟨_,t6,l6,gl6,rfl⟩:=hE10.get 6 _ (bt_ e6);obtain⟨_,t9,l9,gl9,rfl⟩:=hE10.get 9 _ (bt_ e9);obtain⟨_,t10,l10,gl10,rfl⟩:=hE10.get 10 _ (bt_ e10);obtain rfl:=qSj ((hg10 3 _ rfl).symm.trans gl4);obtain rfl:=qSj ((hg10 4 _ rfl).symm.trans gl6)
 obtain⟨lk9,vs9,gk9,hvs9,rk9⟩:=gh_ hH10 (bc_ ec);obtain rfl:=qSj (gl9.symm.trans gk9);obtain⟨lk10,vs10,gk10,hvs10,rk10⟩:=gh_ hH10 (bc_ ed);obtain rfl:=qSj (gl10.symm.trans gk10);have hM10:=hM8.step hH10 hz10 [(i9,.box l9.b 39 vs9),(i10,.box l10.b 9 vs10)] (λp hp=>by
  rcases List.mem_cons.1 hp with rfl|hp
  .exact⟨_,bc_ ec,rk9⟩
  .obtain rfl:=List.mem_singleton.1 hp;exact⟨_,bc_ ed,rk10⟩) (by simp[hne])
 have hm9:RD te z10 (te.flat (.st 3)) (te.fl (.st 3) m) vs9:=by
  rw[←hm];exact cells_rd.2 hvs9
 have hn10:RD te z10 (te.flat .str) (te.fl .str n') vs10:=cells_rd.2 hvs10;obtain⟨hM11,hz11,hc11⟩:=hM10.freezeBox;obtain⟨hM12,hz12,hc12⟩:=hM11.freezeBox;have hzA:z2.Le _:=hz7.trans (hz8.trans (hz10.trans (hz11.trans hz12)));have hb9:(z10.grow (λk=>k=l9.b) w10).F l9.b := .inr rfl;have hMB:=hM12.perm (L':=[.row 39 6 Aq rq.length capq rq,.row 66 3 A y1.Xj.length cap rows,.box b6 27 [vr,.slice A y1.Xj.length cap],.box b4 27 [.slice none 0 0,.slice none 0 0]]) (by
  refine(List.Perm.cons _ (List.Perm.swap _ _ _)).trans ?_;refine(List.Perm.swap _ _ _).trans ?_;exact List.Perm.cons _ (List.Perm.swap _ _ _))
 obtain⟨hM13,hz13,hs13⟩:=hMB.freeze;obtain⟨hM14,hz14,hs14⟩:=hM13.freeze;obtain⟨hM15,hz15,hc15⟩:=hM14.freezeBox;have hzB:=hz13.trans (hz14.trans hz15);obtain⟨h40,hy5,hlt4⟩:=cu_ hs.at4;have hcapq:rq.length<=capq:=(Own.cap_le (hMB.sep.hold (.row 39 6 Aq rq.length capq rq) (by simp)).1).1;have hcapp:y1.Xj.length<=cap:=(Own.cap_le (hMB.sep.hold (.row 66 3 A y1.Xj.length cap rows) (by simp)).1).1;have hy1:RD te _ (te.flat (.st 5)) (te.fl (.st 5) y1) [vr,.slice A y1.Xj.length cap] :=
  RD.cons ((hrr.le hzA).le hzB) (.sl (SlF.le hs14 hz15) hcapp (λj x r h7 h8=>by
   by_cases hj:j=y4.toNat
   .subst hj;obtain⟨h9,h10,h11⟩:=hh.hole x h7;obtain rfl:=qSj (h9.symm.trans h8);have hq:=SlF.le hs13 (hz14.trans hz15);rw[h10]at hq hcapq;exact .str (.sl hq hcapq (λj x r h7 h8=>((h11.le hzA).le hzB) j x r h7 h8) (.int .nil))
   .exact((hh.other j x r hj h7 h8).le hzA).le hzB) .nil)
 have hR:Rel Tryz.prog te [] ⟨_,sG2 b6 l9.b l10.b b4,5⟩ w10 85 (sS3.L (bS (sH3 y1 m n'))) (sS3.H (bS (sH3 y1 m n'))) sS3.nx a10 w10 :=
  hM15.relF (H:=sH3 y1 m n') (lo:=5) (nx:=10) (m:=[(6,.pointer (some ⟨b6,0,none⟩)),(9,.pointer (some ⟨l9.b,0,none⟩)),(10,.pointer (some ⟨l10.b,0,none⟩)),(4,.pointer (some ⟨b4,0,none⟩))]) (((((Env.of_er hE10).add t4).add t10).add t9).add t6)
   (.cons ⟨_,rfl,rfl⟩ (.cons ⟨_,rfl,rfl⟩ (.cons ⟨_,rfl,rfl⟩ (.cons ⟨_,rfl,rfl⟩ .nil)))) (hI_ (by decide)) λid o e=>by
   rcases frH_three e with⟨rfl,rfl⟩|⟨rfl,rfl⟩|⟨rfl,rfl⟩
   .exact⟨.st 5,y1,rfl,_,_,rfl,.inr rfl,hy1,hc15⟩
   .exact⟨.st 3,m,rfl,_,vs9,rfl,(hzB _ (hz12 _ hb9).1).1,(hm9.le (hz11.trans hz12)).le hzB,λj u hu=>hzB.cell (hz12 _ hb9).1 (hz12.cell hb9 (hc11 j u hu))⟩
   .exact⟨.str,n',rfl,_,vs10,rfl,(hzB _ (.inr rfl)).1,(hn10.le (hz11.trans hz12)).le hzB,λj u hu=>hzB.cell (.inr rfl) (hc12 j u hu)⟩
 have hlo:Fresh (sG2 b6 l9.b l10.b b4) (bS (sH3 y1 m n')).lo:=hI_ (Nat.le_refl 5);refine wp_seq (frag ad_ fN_ hlo hs.ev3 hR λex s4 a11 w11 he hR => ?_);cases ex with
 | some _=>cases he
 | none =>
 refine wp_seq (frag ad_ fN_ hlo he hR λex s5 a12 w12 he hR => ?_);cases ex with
 | some _=>cases he
 | none =>
 show(Code.seq _ _).wp _ _ a12 w12
 replace he:sK3 (sH3 y1 m n') s5=some y4:=he;obtain⟨z12,g12,hE12,hH12,hf12,hz12',hg12⟩:=hR;unfold sK3 at he;obtain⟨k4,e4,he⟩:=bind_some he;obtain⟨k6,e6,he⟩:=bind_some he;obtain⟨k9,e9,he⟩:=bind_some he;obtain⟨hb,he⟩:=aQ_ he;simp only[qAn]at hb;obtain rfl:=qNb hb.1.1;obtain rfl:=qNb hb.1.2;obtain rfl:=qNb hb.2;obtain⟨_,t4,l4,gl4,rfl⟩:=hE12.get 4 _ (bt_ e4);obtain⟨_,t6,l6,gl6,rfl⟩:=hE12.get 6 _ (bt_ e6);obtain⟨_,t9,l9',gl9,rfl⟩:=hE12.get 9 _ (bt_ e9);obtain⟨v12,t12,r12⟩:=hE12.get 12 _ (fn_ he);obtain rfl:=qSj ((hg12 4 _ rfl).symm.trans gl4);obtain rfl:=qSj ((hg12 1 _ rfl).symm.trans gl6);obtain rfl:=qSj ((hg12 2 _ rfl).symm.trans gl9)
 obtain⟨_,ev,_⟩:=RD.int_inv r12;injection ev with ev _;subst ev;refine send_end hs hr ⟨_,b4,b6,l9.b,vr,A,cap,rows,Aq,capq,rq,vs9,(hM12.ext (Ext.of_below hH12.chg.below)).perm ?_,((((Env.of_er hE12).add t12).add t9).add t6).add t4,hrr.le hzA,⟨hh.len,λj x r hj h7 h8=>(hh.other j x r hj h7 h8).le hzA,λx hx => ?_⟩,(hz12 _ hb9).1,hm9.le (hz11.trans hz12),λj u hu=>hz12.cell hb9 (hc11 j u hu)⟩
 .exact List.Perm.refl _
 .obtain⟨h9,h10,h11⟩:=hh.hole x hx;exact⟨h9,h10,h11.le hzA⟩
end
noncomputable section
noncomputable def jB_(x0:Xx)(x1:Xz):Option (Xx×Int) :=
 (br_ x0).bind λy1 =>
 (cx_ x1).bind λy2 =>
 (bif(y2.2 != 0)then
  some ((y1,y2.2))
 else
  (dB_ x0.Xb x1).bind λy3 =>
  Option.bind (
   (bif(!y3.2.2)then
    some (x1,x1.Xd)
   else
    some (y3.1,y3.2.1))
   ) λ(o1:Xz×Str) =>
  (aq_ y1.Xj (λ(u1:Xk)=>Option.bind (dd_ u1 o1.2) λ(v1:Bool)=>some v1)).bind λy4 =>
  (bif(decide (y4<0))then
   some ((y1,51))
  else
   (ag_ y1.Xj y4).bind λy5 =>
   (bif(y5.Xp==0)then
    some ((y1,51))
   else
    (b1_ o1.1).bind λy6 =>
    (bif(!y6)then
     some ((y1,4))
    else
     (ag_ y1.Xj y4).bind λy7 =>
     (bif(decide ((y7.Xf.length:Int)>=64))then
      some ((y1,22))
     else
      none)))))
theorem sendA_ok(x0:Xx)(x1:Xz):jB_ x0 x1=eC_ Tryz.prog te eqL tSend fSend [.d (.st 5),.d (.st 3)] [(.st 5,[]),(.int .i64,[])] (.s .p (.s .p (.s .p (.s .p (.j ⟨[],[(32,true,.box 39 (.st 3)),(34,true,.box 9 .str)],[4,6,9,10],[4,8,9,11],[],41⟩ false (.s .p (.s (.dr [0,0,0,1,1] [] true [32,34]) .p)) (.s .p (.s (.s (.ot 0 (.free 0 (.free 1 (.free 2 (.spl 2 (.free 3 (.alt 4 (.free 5 (.alt 6 (.free 7 (.alt 8 (.free 9 (.alt 10 (.free 11 .nil) .nil)) .nil)) .nil)) .nil)) (.free 3 (.alt 4 (.free 5 (.alt 6 (.free 7 (.alt 8 (.free 9 (.alt 10 (.free 11 .nil) .nil)) .nil)) .nil)) .nil))))))) .p) (.s (.sq 0) .p)))))))) (x0,x1,()):=by kernel_rfl
theorem ap_{α β:Type}{x:Option α}{f:α->Option β}{a:α}{r:β}(h:x=some a)(h':f a=some r):x.bind f=some r:=by rw[h];exact h'
theorem send_cases{x0:Xx}{x1:Xz}{r:Xx×Int}(h:bJ_ x0 x1=some r) :
  jB_ x0 x1=some r\/∃y1 m n y4 y5 y9 y10,Sent x0 x1 y1 m n y4 y5 y9/\room 104 y5.Xf [y9]=some y10/\r=(⟨y1.Xb,y1.Xj.set y4.toNat ⟨y5.Xv,y10,y5.Xp⟩⟩,0):=by
 unfold bJ_ at h;obtain⟨y1,h1,h⟩:=bind_some h;obtain⟨y2,h2,h⟩:=bind_some h;cases c2:y2.2 != 0 with
 | true =>
  rw[c2]at h;exact .inl (ap_ h1 (ap_ h2 (by rw[c2];exact h)))
 | false =>
 rw[c2]at h;obtain⟨y3,h3,h⟩:=bind_some (show(dB_ x0.Xb x1).bind _=some r from h);obtain⟨o1,h4,h⟩:=bind_some h;obtain⟨y4,h5,h⟩:=bind_some h;cases c4:decide (y4<0)with
 | true =>
  rw[c4]at h;exact .inl (ap_ h1 (ap_ h2 (by rw[c2];exact ap_ h3 (ap_ h4 (ap_ h5 (by rw[c4];exact h))))))
 | false =>
 rw[c4]at h;obtain⟨y5,h6,h⟩:=bind_some (show(ag_ y1.Xj y4).bind _=some r from h);cases c5:y5.Xp==0 with
 | true =>
  rw[c5]at h;exact .inl (ap_ h1 (ap_ h2 (by rw[c2];exact ap_ h3 (ap_ h4 (ap_ h5 (by rw[c4];exact ap_ h6 (by rw[c5];exact h)))))))
 | false =>
 rw[c5]at h;obtain⟨y6,h7,h⟩:=bind_some (show(b1_ o1.1).bind _=some r from h);cases c6 : !y6 with
 | true =>
  rw[c6]at h;exact .inl (ap_ h1 (ap_ h2 (by rw[c2];exact ap_ h3 (ap_ h4 (ap_ h5 (by rw[c4];exact ap_ h6 (by rw[c5];exact ap_ h7 (by rw[c6];exact h))))))))
 | false =>
 rw[c6]at h;obtain⟨y7,h8,h⟩:=bind_some (show(ag_ y1.Xj y4).bind _=some r from h);obtain rfl:=qSj (h6.symm.trans h8);cases c7:decide ((y5.Xf.length:Int)>=64)with
 | true =>
  rw[c7]at h;exact .inl (ap_ h1 (ap_ h2 (by rw[c2];exact ap_ h3 (ap_ h4 (ap_ h5 (by rw[c4];exact ap_ h6 (by rw[c5];exact ap_ h7 (by rw[c6];exact ap_ h6 (by rw[c7];exact h)))))))))
 | false =>
 rw[c7]at h;obtain⟨y8,h9,h⟩:=bind_some (show(ag_ y1.Xj y4).bind _=some r from h);obtain rfl:=qSj (h6.symm.trans h9);obtain⟨y9,h10,h⟩:=bind_some h;obtain⟨y10,h11,h⟩:=bind_some h;obtain⟨y11,h12,h⟩:=bind_some h;obtain rfl:=qSj (h6.symm.trans h12);obtain rfl:=qSj h;refine .inr ⟨y1,o1.1,o1.2,y4,y5,y9,y10,⟨h1,?_,?_,h6,h10,_,h11⟩,h11,rfl⟩
 .rw[sEv2];exact ap_ h2 (by rw[c2];exact ap_ h3 h4)
 .rw[sEv3];exact ap_ h5 (by rw[c4];exact ap_ h6 (by rw[c5];exact ap_ h7 (by rw[c6];exact ap_ h6 (by rw[c7];rfl))))
def c_19:Con te:=ae_ te [.d (.st 5),.d (.st 3)] [(.st 5,[]),(.int .i64,[])] true λa=>bJ_ a.1 a.2.1
theorem ok_19:OKF 19 c_19:=by
 refine⟨?_,by kernel_rfl⟩;intro R a k r hr;obtain⟨x0,x1,u⟩:=a;obtain⟨y,h1,h2⟩:=bind_some (show(bJ_ x0 x1).bind _=some r from hr);refine⟨_,_,h2,?_⟩;rcases send_cases h1 with hA|⟨y1,m,n,y4,y5,y9,y10,hs,hrm,rfl⟩
 .exact evFun_ok ad_ fN_ Tryz.func19 ((sendA_ok x0 x1).symm.trans hA)
 .intro w z g Bs svs vs hav hH hfr hv;obtain rfl:=qSj hav;cases hv with
  | cons hv0 hv =>
  cases hv with
  | cons hv1 hv =>
  cases hv
  obtain⟨vs0,rfl,hc0⟩:=hv0;obtain⟨vs1,rfl,hc1⟩:=hv1;have hr0:RD te z (te.flat (.st 5)) (te.fl (.st 5) x0) vs0:=cells_rd.2 hc0;have hr1:RD te z (te.flat (.st 3)) (te.fl (.st 3) x1) vs1:=cells_rd.2 hc1;refine Ret.mono (send_hole hs hrm hH.fz hH.gl ⟨vs0,rfl,cells_rd.1 hr0⟩ ⟨vs1,rfl,hr1⟩) ?_
  rintro v w' ⟨z',vr,vp,hM,rfl,hrd⟩;refine⟨z',g,_,hM.le,(λe=>nomatch e),Ga.Le.refl g,rfl,?_,?_⟩
  .exact⟨[.agg #[vr,vp],.int .i64 0],rfl,.cons ⟨[vr,vp],rfl,cells_rd.1 hrd⟩ (.cons (.int .nil) .nil)⟩
  .exact⟨⟨hM.sep.chg.grow,λk hk _=>hM.sep.chg.block k hk (by simp)⟩,(λ_ _ e=>nomatch e),(λ_ _ _ e=>nomatch e),(λ_ _ _ _ _ _ e=>nomatch e),hM.In,λk hk=>(hM.new k hk).imp id .inl,(λ_ _ _ e=>nomatch e),hM.gl⟩
def c_29:Con te:=ae_ te [.d (.st 5),.d (.int .i64),.d (.int .i64),.d .str] [(.st 5,[]),(.int .i64,[]),(.int .i64,[])] true λa=>go_ a.1 a.2.1 a.2.2.1 a.2.2.2.1
theorem ok_29:OKF 29 c_29:=⟨ab_ ad_ (aa_ ok_19 (aa_ ok_63 (aa_ ok_62 (aa_ ok_42 (aa_ ok_41 ac_))))) Tryz.func29 (by kernel_rfl) (pl := .p) λ_=>by kernel_rfl,by kernel_rfl⟩
def c_43:Con te:=ae_ te [.d (.int .i64),.d (.int .i64)] [(.bool,[])] false λa=>gt_ a.1 a.2.1
theorem ok_43:OKF 43 c_43:=⟨ab_ ad_ ac_ Tryz.func43 (by kernel_rfl) (pl := .p) λ_=>by kernel_rfl,by kernel_rfl⟩
def c_16:Con te:=ae_ te [.d (.st 5),.d (.int .i64),.d (.int .i64)] [(.st 5,[some 78,some 66]),(.int .i64,[])] true λa=>fi_ a.1 a.2.1 a.2.2.1
theorem ok_16:OKF 16 c_16:=⟨ab_ ad_ (aa_ ok_43 (aa_ ok_42 (aa_ ok_41 ac_))) Tryz.func16 (by kernel_rfl) (pl := .p) λ_=>by kernel_rfl,by kernel_rfl⟩
theorem e_38(a:PA te [.d (.sl (.st 1))]):gP_ a.1=eC_ Tryz.prog te eqL (ti 71 (inlF Tryz.prog te eqL (ti 114 cf_ dc_) Tryz.f71 (.p:Pl)) (tb 70 c_70 (ti 72 dp_ dc_))) Tryz.f38 [.d (.sl (.st 1))] [(.str,[]),(.int .i64,[])] (.s .p (.s .p (.s .p (.s (.s .p (.lp ⟨[(14,.d (.int .i64))],[(5,true,.cells 110 [.sbp 5,.own 10]),(10,false,.row 5 (.int .u8) [])],[4,12,13],[],[],11⟩ ⟨[],[(5,true,.cells 110 [.sbp 5,.own 10]),(10,false,.row 5 (.int .u8) [])],[4],[],[],11⟩ true (.s .p (.s .p (.s (.s .p (.s .p (.j ⟨[],[(5,true,.cells 110 [.sbp 5,.own 23]),(23,false,.row 5 (.int .u8) [])],[4,6,12,13,14],[15],[],24⟩ false .p (.s .p (.lp ⟨[(28,.d (.int .i64))],[(5,true,.cells 110 [.sbp 5,.own 28]),(28,false,.row 5 (.int .u8) [])],[4,12,13,14,26,27],[],[],29⟩ ⟨[],[(5,true,.cells 110 [.sbp 5,.own 28]),(28,false,.row 5 (.int .u8) [])],[4,12,13,14],[],[],29⟩ false .p))))) .p))))) .p)))) a:=by kernel_rfl
def c_38:Con te:=ae_ te [.d (.sl (.st 1))] [(.str,[]),(.int .i64,[])] false λa=>gP_ a.1
theorem ok_38:OKF 38 c_38:=⟨ab_ ad_ (bM_ ⟨d8_ ad_ (bM_ cG_ ac_) Tryz.func71,by kernel_rfl⟩ (aa_ ok_70 (bM_ du_ ac_))) Tryz.func38 (by kernel_rfl) e_38,by kernel_rfl⟩
def c_20:Con te:=ae_ te [.d (.st 5),.d (.int .i64),.d (.int .i64),.d (.int .i64)] [(.st 5,[some 78,some 66]),(.str,[]),(.bool,[]),(.int .i64,[])] true λa=>b2_ a.1 a.2.1 a.2.2.1 a.2.2.2.1
theorem ok_20:OKF 20 c_20:=⟨ab_ ad_ (aa_ ok_47 (aa_ ok_38 (aa_ ok_42 (aa_ ok_41 ac_)))) Tryz.func20 (by kernel_rfl) (pl := .s .p (.s .p (.s .p (.s .p (.s (.s .p (.s (.s .p (.s .p (.s (.dr [0,0,0,0,0,0,0,1,4,4,4] [] true [2]) .p))) .p)) (.s .p (.s .p (.s .p (.j ⟨[(17,.d (.int .i64))],[],[8,12,15,16],[2,8,9,11],[3039],3060⟩ false .p .p))))))))) λ_=>by kernel_rfl,by kernel_rfl⟩
def c_60:Con te:=ae_ te [.d (.st 4),.p .str] [(.bool,[])] false λa=>ip_ a.1 a.2.1
theorem ok_60:OKF 60 c_60:=⟨ab_ ad_ ac_ Tryz.func60 (by kernel_rfl) (pl := .p) λ_=>by kernel_rfl,by kernel_rfl⟩
def c_24:Con te:=ae_ te [.d (.st 5),.d (.int .i64),.d .str] [(.int .i64,[]),(.int .i64,[])] false λa=>kj_ a.1 a.2.1 a.2.2.1
theorem ok_24:OKF 24 c_24:=⟨ab_ ad_ (aa_ ok_60 (aa_ ok_49 (aa_ ok_42 ac_))) Tryz.func24 (by kernel_rfl) (pl := .p) λ_=>by kernel_rfl,by kernel_rfl⟩
def c_115:Con te:=ae_ te [.d (.sl (.st 3)),.f1 (.st 3) .bool] [(.int .i64,[])] false λa=>cy_ a.1 a.2.1
theorem ok_115:OKF 115 c_115:=⟨ab_ ad_ ac_ Tryz.func115 (by kernel_rfl) (pl := .s .p (.s (.s .p (.lp ⟨[(8,.d (.int .i64))],[],[0,1,7],[],[],4⟩ ⟨[],[],[],[],[],4⟩ true .p)) .p)) λ_=>by kernel_rfl,by kernel_rfl⟩
def c_73:Con te:=ae_ te [.d (.sl (.st 3)),.f1 (.st 3) .bool] [(.bool,[])] false λa=>b3_ a.1 a.2.1
theorem ok_73:OKF 73 c_73:=⟨ab_ ad_ (aa_ ok_115 ac_) Tryz.func73 (by kernel_rfl) (pl := .p) λ_=>by kernel_rfl,by kernel_rfl⟩
def c_74:Con te:=ae_ te [.d (.st 3)] [(.bool,[])] false λa=>ft_ a.1
theorem ok_74:OKF 74 c_74:=⟨ab_ ad_ (aa_ ok_51 ac_) Tryz.func74 (by kernel_rfl) (pl := .p) λ_=>by kernel_rfl,by kernel_rfl⟩
def c_39:Con te:=ae_ te [.d (.st 4)] [(.bool,[])] false λa=>gu_ a.1
theorem ok_39:OKF 39 c_39:=⟨ab_ ad_ (aa_ ok_74 (aa_ ok_73 (aa_ ok_30 ac_))) Tryz.func39 (by kernel_rfl) (pl := .p) λ_=>by kernel_rfl,by kernel_rfl⟩
def c_14:Con te:=ae_ te [.d (.st 5)] [(.bool,[])] false λa=>jy_ a.1
theorem ok_14:OKF 14 c_14:=⟨ab_ ad_ (aa_ ok_39 (aa_ ok_38 ac_)) Tryz.func14 (by kernel_rfl) (pl := .s .p (.s .p (.s (.s .p (.lp ⟨[(24,.d (.int .i64))],[],[1,22,23],[0],[],5018⟩ ⟨[],[],[],[],[],5018⟩ true (.s .p (.s .p (.s (.s .p (.s (.dr [0,0,0,0,0,0,0,0,0,0,0,0,0,0,0,0,0,0,0] [] false []) .p)) .p))))) .p))) λ_=>by kernel_rfl,by kernel_rfl⟩
def c_9:Con te:=ae_ te [] [(.bool,[])] false λ_=>dC_
theorem ok_9:OKF 9 c_9:=⟨ab_ ad_ (aa_ ok_14 (aa_ ok_24 (aa_ ok_20 (aa_ ok_16 (aa_ ok_29 (aa_ ok_10 ac_)))))) Tryz.func9 (by kernel_rfl) (pl := .s .p (.s .p (.s (.s (.ot 0 (.free 0 (.free 1 (.free 2 (.spl 2 (.free 3 (.alt 4 (.alt 5 (.free 6 (.alt 7 (.free 8 (.spl 8 (.free 9 (.alt 10 (.alt 11 (.free 12 (.alt 13 (.free 14 (.alt 15 .nil .nil)) .nil)) .nil) .nil)) (.free 9 (.alt 10 (.alt 11 (.free 12 (.alt 13 (.free 14 (.alt 15 .nil .nil)) .nil)) .nil) .nil)))) .nil)) .nil) .nil)) (.free 3 (.alt 4 (.alt 5 (.free 6 (.alt 7 (.free 8 (.spl 8 (.free 9 (.alt 10 (.alt 11 (.free 12 (.alt 13 (.free 14 (.alt 15 .nil .nil)) .nil)) .nil) .nil)) (.free 9 (.alt 10 (.alt 11 (.free 12 (.alt 13 (.free 14 (.alt 15 .nil .nil)) .nil)) .nil) .nil)))) .nil)) .nil) .nil))))))) .p) .p))) λ_=>by kernel_rfl,by kernel_rfl⟩
def c_17:Con te:=ae_ te [.d (.st 3)] [(.bool,[])] false λa=>f1_ a.1
theorem ok_17:OKF 17 c_17:=⟨ab_ ad_ ac_ Tryz.func17 (by kernel_rfl) (pl := .s .p (.s .p (.s (.s .p (.lp ⟨[(41,.d (.int .i64))],[],[1,40],[0],[],25016⟩ ⟨[],[],[],[],[],25016⟩ true .p)) .p))) λ_=>by kernel_rfl,by kernel_rfl⟩
def c_77:Con te:=ae_ te [.d .str] [(.int .i64,[])] false λa=>gQ_ a.1
theorem ok_77:OKF 77 c_77:=⟨ab_ ad_ ac_ Tryz.func77 (by kernel_rfl) (pl := .s .p (.s .p (.s (.s .p (.lp ⟨[(3,.d (.int .i64))],[],[0],[],[],5⟩ ⟨[],[],[],[],[],5⟩ true .p)) .p))) λ_=>by kernel_rfl,by kernel_rfl⟩
def c_184:Con te:=ae_ te [.d .str] [(.bool,[])] false λa=>fj_ a.1
theorem ok_184:OKF 184 c_184:=⟨ab_ ad_ ac_ Tryz.func184 (by kernel_rfl) (pl := .p) λ_=>by kernel_rfl,by kernel_rfl⟩
def c_151:Con te:=ae_ te [.d .str] [(.bool,[])] false λa=>gR_ a.1
theorem ok_151:OKF 151 c_151:=⟨ab_ ad_ (aa_ ok_184 ac_) Tryz.func151 (by kernel_rfl) (pl := .s .p (.j ⟨[(0,.d .str)],[],[],[],[],1⟩ false .p (.s (.s .p (.lp ⟨[(3,.d (.int .i64))],[],[0],[],[],2⟩ ⟨[],[],[0],[],[],2⟩ true .p)) .p))) λ_=>by kernel_rfl,by kernel_rfl⟩
def c_152:Con te:=ae_ te [.d .str] [(.bool,[])] false λa=>f2_ a.1
theorem ok_152:OKF 152 c_152:=⟨ab_ ad_ ac_ Tryz.func152 (by kernel_rfl) (pl := .s .p (.s (.s .p (.lp ⟨[(3,.d (.int .i64))],[],[0],[],[],2⟩ ⟨[],[],[],[],[],2⟩ true .p)) .p)) λ_=>by kernel_rfl,by kernel_rfl⟩
def c_117:Con te:=ae_ te [.d (.sl (.st 2)),.d (.st 2)] [(.int .i64,[])] false λa=>hG_ a.1 a.2.1
theorem ok_117:OKF 117 c_117:=⟨ab_ ad_ (aa_ ok_152 (aa_ ok_151 ac_)) Tryz.func117 (by kernel_rfl) (pl := .s .p (.s .p (.s (.s .p (.lp ⟨[(5,.d (.int .i64))],[],[0,3],[0],[],9023⟩ ⟨[],[],[],[],[],9023⟩ true (.s .p (.s (.s (.dr [0,0,0,0,0,0,0,0] [] false []) .p) .p)))) .p))) λ_=>by kernel_rfl,by kernel_rfl⟩
def c_78:Con te:=ae_ te [.d (.sl (.st 2))] [(.int .i64,[])] false λa=>er_ a.1
theorem ok_78:OKF 78 c_78:=⟨ab_ ad_ (aa_ ok_117 ac_) Tryz.func78 (by kernel_rfl) (pl := .s .p (.s (.s .p (.lp ⟨[(3,.d (.int .i64))],[],[0],[],[],2⟩ ⟨[],[],[],[],[],2⟩ true (.s .p (.s (.s (.dr [0,0,0,0,0,0,0,0,0] [] false []) .p) .p)))) .p)) λ_=>by kernel_rfl,by kernel_rfl⟩
def c_44:Con te:=ae_ te [.d (.st 3)] [(.int .i64,[])] false λa=>f3_ a.1
theorem ok_44:OKF 44 c_44:=⟨ab_ ad_ (aa_ ok_78 (aa_ ok_77 ac_)) Tryz.func44 (by kernel_rfl) (pl := .s .p (.s .p (.s (.s .p (.lp ⟨[(4,.d (.int .i64))],[(11,true,.row 9 .str [])],[1,3],[0],[],15⟩ ⟨[],[],[1],[0],[],15⟩ true .p)) (.s .p (.s (.s .p (.lp ⟨[(7,.d (.int .i64))],[],[1],[0],[],22⟩ ⟨[],[],[1],[0],[],22⟩ true .p)) .p))))) λ_=>by kernel_rfl,by kernel_rfl⟩
def c_79:Con te:=ae_ te [.d .str] [(.str,[])] false λa=>f4_ a.1
theorem ok_79:OKF 79 c_79:=⟨ab_ ad_ ac_ Tryz.func79 (by kernel_rfl) (pl := .s .p (.s .p (.s (.s .p (.lp ⟨[(3,.d .str),(4,.d .bool),(5,.d (.int .i64))],[],[0],[],[],6⟩ ⟨[(3,.d .str),(4,.d .bool)],[],[0],[],[],6⟩ false (.s .p (.j ⟨[(3,.d .str),(4,.d .bool)],[],[0,5],[],[],10⟩ false .p .p)))) .p))) λ_=>by kernel_rfl,by kernel_rfl⟩
def c_45:Con te:=ae_ te [.d (.sl (.st 2))] [(.str,[]),(.int .i64,[])] false λa=>f5_ a.1
theorem ok_45:OKF 45 c_45:=⟨ab_ ad_ (aa_ ok_79 (aa_ ok_78 ac_)) Tryz.func45 (by kernel_rfl) (pl := .s .p (.s .p (.s .p (.s (.s .p (.lp ⟨[(5,.d .str),(6,.d (.int .i64))],[],[0],[],[],9⟩ ⟨[(5,.d .str)],[],[],[],[],9⟩ false (.s .p (.j ⟨[(5,.d .str)],[],[0,6],[],[],13⟩ false (.j ⟨[(5,.d .str)],[],[0,6],[],[],13⟩ false .p (.s .p (.s .p (.dr [0,0,0,0,0,0,0,0,0,0,0,0,0,0,0,0] [] false [])))) .p)))) .p)))) λ_=>by kernel_rfl,by kernel_rfl⟩
def c_80:Con te:=ae_ te [.d (.int .i64)] [(.bool,[])] false λa=>k7_ a.1
theorem ok_80:OKF 80 c_80:=⟨ab_ ad_ ac_ Tryz.func80 (by kernel_rfl) (pl := .p) λ_=>by kernel_rfl,by kernel_rfl⟩
def c_81:Con te:=ae_ te [.d (.int .i64),.d (.int .i64)] [(.str,[])] false λa=>fl_ a.1 a.2.1
theorem ok_81:OKF 81 c_81:=⟨ab_ ad_ ac_ Tryz.func81 (by kernel_rfl) (pl := .s .p (.s .p (.s (.lp ⟨[(0,.d (.int .i64)),(5,.d .str)],[],[1],[],[],2⟩ ⟨[(5,.d .str)],[],[],[],[],2⟩ false .p) .p))) λ_=>by kernel_rfl,by kernel_rfl⟩
def c_46:Con te:=ae_ te [.d (.int .i64),.d (.int .i64)] [(.str,[])] false λa=>gS_ a.1 a.2.1
theorem ok_46:OKF 46 c_46:=⟨ab_ ad_ (aa_ ok_81 (aa_ ok_80 ac_)) Tryz.func46 (by kernel_rfl) (pl := .p) λ_=>by kernel_rfl,by kernel_rfl⟩
def c_18:Con te:=ae_ te [.d (.st 3)] [(.str,[]),(.int .i64,[])] false λa=>f6_ a.1
theorem ok_18:OKF 18 c_18:=⟨ab_ ad_ (aa_ ok_46 (aa_ ok_45 (aa_ ok_44 ac_))) Tryz.func18 (by kernel_rfl) (pl := .s .p (.s .p (.s .p (.s (.dr [0,0,0,0,0,0,0,0,0,0,0,0,0,0,0,0,0,0,0,0,0,0,0,0,0,0,0,0,0] [] false []) .p)))) λ_=>by kernel_rfl,by kernel_rfl⟩
def c_5:Con te:=ae_ te [.d (.sl (.st 3))] [(.bool,[])] false λa=>bN_ a.1
theorem ok_5:OKF 5 c_5:=⟨ab_ ad_ (aa_ ok_20 (aa_ ok_19 (aa_ ok_18 (aa_ ok_17 (aa_ ok_16 (aa_ ok_10 (aa_ ok_9 ac_))))))) Tryz.func5 (by kernel_rfl) (pl := .s .p (.s .p (.s .p (.s .p (.s .p (.s .p (.s (.s .p (.lp ⟨[(7,.one (.own 3039)),(45,.d (.int .i64))],[(27,true,.cells 27 [.v (.sl (.st 1)),.v (.sl (.st 4))]),(3039,false,.row 9 .str [])],[0,5,44],[],[],3040⟩ ⟨[(7,.one (.own 3039))],[(27,true,.box 27 (.st 5)),(3039,false,.row 9 .str [])],[5],[],[],3040⟩ true (.s .p (.s .p (.j ⟨[(7,.one (.own 3041))],[(27,true,.box 27 (.st 5)),(3041,false,.row 9 .str [])],[0,5,44,45],[],[],3042⟩ true .p .p))))) (.s (.s .p (.lp ⟨[(88,.d (.int .i64))],[(27,true,.cells 27 [.v (.sl (.st 1)),.v (.sl (.st 4))]),(3039,true,.row 9 .str [])],[5,7,87],[],[],3043⟩ ⟨[],[(27,true,.box 27 (.st 5))],[5],[],[],3043⟩ true .p)) .p)))))))) λ_=>by kernel_rfl,by kernel_rfl⟩
end
end Go.Proofs.YtfbcbakhdkppoaaGreatDoor
