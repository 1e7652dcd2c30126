/-
 What the statements of this seat hang on,part 6: LGa LGb ShGr LGr ShIb LIb Lw Ls LIa LIc LIm ShIx LIx ShSb LSb Lq ShSp LSp K1 Ob Oc Od K2 K3 K4 K5 Oe.
-/
import Derived.Test.YtfbcbakhdkppoaaGreatDoorWD5
import Derived.Shelf.Strings.Builder2
import Derived.Test.YtfbcbakhdkppoaaGreatDoorProg
import Derived.Ground.NamesProg
import Derived.Lib.Agree
import Derived.KernelRfl
import Derived.Shelf.Strings.Search1
import Derived.Shelf.Slices.Delete
import Derived.Shelf.Spec.SlicesInsertGrow
import Derived.Shelf.SlLaysE
import Derived.Shelf.RegionOpenPlain
import Derived.WalkKit
import Derived.Deep.LoopGhost
import Derived.Deep.RegionLaw
import Derived.Lib.Walk
import Derived.Sort.WalkB12
import Derived.Lib.SliceRun
import Derived.Laws.Externs
import Derived.Shelf.Strings.Search2
import Derived.Shelf.Strings.Builder1
import Derived.Sort.Grow
import Derived.Sort.EncStr
import Derived.Shelf.SlSortCmp.NoneTotal
import Derived.Shelf.SlSortCmp.WholeK
import Derived.Shelf.SlGeneric
import Derived.Shelf.Small.Strs
import Derived.Sort.AssemblyPlain
namespace Go.Proofs
open Go.Shelf Go.RowKit Go.Rt
variable{P:tT}{ρ:Ren}
def gw_(T e:tN)(b:Nat)(w w':tS):Prop:=∃A cap,w'.heap[b]? = some (.cells #[.pointer (some ⟨b,0,none⟩),.slice A 0 cap] T (0,0))/\((A=none/\cap=0)\/∃q cs,A=some ⟨q,0,none⟩/\w.heap.size<=q/\w'.heap[q]? = some (.cells cs e (0,0))/\cs.size=cap/\cap<=maxLen)/\Grow w w'/\∀k,k<w.heap.size->k≠b->w'.heap[k]? = w.heap[k]?
theorem grownF_row{T e:tN}{b:Nat}{w:tS}{cs:Array tW}(f:w.heap[b]? = some (.cells #[.pointer (some ⟨b,0,none⟩),.slice none 0 0] T (0,0)))(u:cs.size<=maxLen) :
  gw_ T e b w ((w.alloc (.cells cs e)).setCell ⟨b,1,none⟩ (.slice (some ⟨w.heap.size,0,none⟩) 0 cs.size)).drew.drew.drew:=by
 have p:b<w.heap.size:=by
  rcases qR b w.heap.size with s|s
  .exact s
  .simp[zJ s]at f
 have q:(w.alloc (.cells cs e)).heap[b]? = some (.cells #[.pointer (some ⟨b,0,none⟩),.slice none 0 0] T (0,0)):=(Lib.alloc_old w _ b p).trans f;have h:(w.alloc (.cells cs e)).heap[w.heap.size]? = some (.cells cs e (0,0)):=by
  show(w.heap.push _)[w.heap.size]? = _;simp
 refine⟨some ⟨w.heap.size,0,none⟩,cs.size,?_,.inr ⟨w.heap.size,cs,rfl,qE _,?_,rfl,u⟩,⟨rfl,rfl,rfl,?_⟩,λk x j => ?_⟩
 .show((w.alloc (.cells cs e)).setCell ⟨b,1,none⟩ (.slice (some ⟨w.heap.size,0,none⟩) 0 cs.size)).heap[b]? = _;simp[World.setCell,zm,q]
 .show((w.alloc (.cells cs e)).setCell ⟨b,1,none⟩ (.slice (some ⟨w.heap.size,0,none⟩) 0 cs.size)).heap[w.heap.size]? = _;simp only[World.setCell,zm];rw[qP (by omega),h]
 .show w.heap.size<=((w.alloc (.cells cs e)).setCell ⟨b,1,none⟩ (.slice (some ⟨w.heap.size,0,none⟩) 0 cs.size)).heap.size;simp only[World.setCell,Array.size_modify];exact(Grow.of_below (Ext.one w _).below).size
 .show((w.alloc (.cells cs e)).setCell ⟨b,1,none⟩ (.slice (some ⟨w.heap.size,0,none⟩) 0 cs.size)).heap[k]? = _;simp only[World.setCell,zm];rw[qP (λe=>j e.symm)];exact Lib.alloc_old w _ k x
set_option maxHeartbeats 2000000 in
set_option maxRecDepth 1000000 in
theorem Any.Builder_grow_f(L:Lays.n241 P ρ)(X:Builder.Extra P ρ)(b n:Nat)(w:tS)(h:w.heap[b]? = some (.cells #[.pointer (some ⟨b,0,none⟩),.slice none 0 0] (ρ.t 72) (0,0)))(J:n<=281474976710656) :
  Calls P (ρ.f 241) #[.pointer (some ⟨b,0,none⟩),.int .i64 n] w λe w'=>e = .returned (.tuple #[])/\gw_ (ρ.t 72) (ρ.t 5) b w w':=by
 obtain⟨cs,q,M,s⟩:=Lib.run_makeNoZero (P:=P) w.drew #[(ρ.t 3)] (ρ.t 37) (ρ.t 5) L.t37 n J;have C:IntKind.i64.wrap (IntKind.i64.wrap 0+(n:Int))=n:=by
  rw[IntKind.wrap_i64,IntKind.wrap_i64];omega
 have y:(callFunc (ρ.f 277) #[.int .i64 (IntKind.i64.wrap (IntKind.i64.wrap 0+(n:Int)))]).run P w.drew = .ok (.value (.slice (some ⟨w.drew.heap.size,0,none⟩) n cs.size)) (w.drew.drew.drew.alloc (.cells cs (ρ.t 5))):=by
  rw[C,run_callFunc_extern L.f277 (by kernel_rfl) (by kernel_rfl) (by kernel_rfl) (e:=Extern.BytealgMakeNoZero.makeNoZero #[(ρ.t 3)] #[(ρ.t 37)]) (by kernel_rfl),q];rfl
 have Y:w.drew.cell? ⟨b,1,none⟩=some (.slice none 0 0):=by
  have:w.drew.heap[b]? = _:=h;rw[Lib.cell_of_heap this];rfl
 have V:(w.alloc (.cells cs (ρ.t 5))).cell? ⟨b,1,none⟩=some (.slice none 0 0):=by
  have j:b<w.heap.size:=by
   rcases qR b w.heap.size with p|p
   .exact p
   .simp[zJ p]at h
  have:(w.alloc (.cells cs (ρ.t 5))).heap[b]? = _:=(Lib.alloc_old w _ b j).trans h;rw[Lib.cell_of_heap this];rfl
 have f2:(w.alloc (.cells cs (ρ.t 5))).frozen? ⟨b,1,none⟩=false:=by
  have j:b<w.heap.size:=by
   rcases qR b w.heap.size with p|p
   .exact p
   .simp[zJ p]at h
  exact Lib.frozen_of_heap ((Lib.alloc_old w _ b j).trans h) 1
 have x:∀W:tS,(Builtin.copy_ #[(ρ.t 37),(ρ.t 37)] (ρ.t 3) #[.slice (some ⟨w.heap.size,0,none⟩) 0 cs.size,.slice none 0 0]).run P W = .ok (goInt 0) W :=
  λW=>run_copy_none W (ρ.t 37) (ρ.t 37) (ρ.t 3) (ρ.t 5) _ _ 0 cs.size 0 0 L.t37 X.sizeByte rfl
 clear C;have mixed:=L.mixed;have t72:=L.t72;have a72:=L.a72;have z72:=L.z72;have v72:=L.v72;have D:=run_underlying L.t72;have t70:=L.t70;have a70:=L.a70;have z70:=L.z70;have v70:=L.v70;have F:=run_underlying L.t70;have t37:=L.t37;have a37:=L.a37;have z37:=L.z37;have v37:=L.v37;have G:=run_underlying L.t37;have t3:=L.t3;have a3:=L.a3;have z3:=L.z3;have v3:=L.v3;have U:=run_underlying L.t3;have t5:=X.t5;have a5:=X.a5;have z5:=X.z5;have v5:=X.v5;have O:=run_underlying X.t5
 go_enter L.f241,Body.n241_ntmps ρ
 go_wp2
 have u:=grownF_row (T:=(ρ.t 72)) (e:=(ρ.t 5)) (cs:=cs) h (s (by unfold maxLen;omega))
 go_region_o
 all_goals (go_wp2;go_end0;exact⟨rfl,u⟩)
set_option maxHeartbeats 2000000 in
set_option maxRecDepth 1000000 in
theorem Any.Builder_Grow_f(L:Lays.n165 P ρ)(X:Builder.Extra P ρ)(b n:Nat)(w:tS)(p:w.heap[b]? = some (.cells #[.pointer none,.slice none 0 0] (ρ.t 72) (0,0)))(hn:n<=281474976710656) :
  Calls P (ρ.f 165) #[.pointer (some ⟨b,0,none⟩),.int .i64 n] w λe w'=>e = .returned (.tuple #[])/\gw_ (ρ.t 72) (ρ.t 5) b w w':=by
 have h:(w.setCell ⟨b,0,none⟩ (.pointer (some ⟨b,0,none⟩))).heap[b]? = some (.cells #[.pointer (some ⟨b,0,none⟩),.slice none 0 0] (ρ.t 72) (0,0)):=by
  simp[World.setCell,zm,p]
 have c1:(w.setCell ⟨b,0,none⟩ (.pointer (some ⟨b,0,none⟩))).cell? ⟨b,1,none⟩=some (.slice none 0 0):=by rw[Lib.cell_of_heap h];rfl
 have u:(w.setCell ⟨b,0,none⟩ (.pointer (some ⟨b,0,none⟩))).heap.size=w.heap.size:=by simp[World.setCell]
 have s:∀k,k≠b->(w.setCell ⟨b,0,none⟩ (.pointer (some ⟨b,0,none⟩))).heap[k]? = w.heap[k]? := λk y=>by
  simp only[World.setCell,zm];rw[qP (λe=>y e.symm)]
 have mixed:=L.mixed;have t72:=L.t72;have a72:=L.a72;have z72:=L.z72;have v72:=L.v72;have U:=run_underlying L.t72;have t70:=L.t70;have a70:=L.a70;have z70:=L.z70;have v70:=L.v70;have V:=run_underlying L.t70;have t37:=L.t37;have a37:=L.a37;have z37:=L.z37;have v37:=L.v37;have Y:=run_underlying L.t37;have t3:=L.t3;have a3:=L.a3;have z3:=L.z3;have v3:=L.v3;have u3:=run_underlying L.t3;have t9:=L.t9;have a9:=L.a9;have z9:=L.z9;have v9:=L.v9;have u9:=run_underlying L.t9;have t4:=L.t4;have a4:=L.a4;have z4:=L.z4;have v4:=L.v4;have u4:=run_underlying L.t4;have t164:=L.t164;have a164:=L.a164;have z164:=L.z164;have v164:=L.v164;have F:=run_underlying L.t164
 have t5:=X.t5;have a5:=X.a5;have z5:=X.z5;have v5:=X.v5;have u5:=run_underlying X.t5;have O:∀args w,(callFunc (ρ.f 240) args).run P w = .ok (.enter (ρ.f 240) args) w:=enters_of L.f240 (by kernel_rfl) rfl;have M:∀args w,(callFunc (ρ.f 241) args).run P w = .ok (.enter (ρ.f 241) args) w:=enters_of L.f241 (by kernel_rfl) rfl
 go_enter L.f165,Body.n165_ntmps ρ
 have hU:gw_ (ρ.t 72) (ρ.t 5) b w (w.setCell ⟨b,0,none⟩ (.pointer (some ⟨b,0,none⟩))):=⟨none,0,h,.inl ⟨rfl,rfl⟩,⟨rfl,rfl,rfl,by rw[u];exact qE _⟩,λk _ j=>s k j⟩;have J:∀w',gw_ (ρ.t 72) (ρ.t 5) b (w.setCell ⟨b,0,none⟩ (.pointer (some ⟨b,0,none⟩))).drew w'->gw_ (ρ.t 72) (ρ.t 5) b w w':=λw' ⟨A,cap,D,C,h3,h4⟩=>by
  have hg:Grow w (w.setCell ⟨b,0,none⟩ (.pointer (some ⟨b,0,none⟩))).drew:=⟨rfl,rfl,rfl,by show w.heap.size<=(w.setCell ⟨b,0,none⟩ (.pointer (some ⟨b,0,none⟩))).heap.size;rw[u];exact qE _⟩;have x:(w.setCell ⟨b,0,none⟩ (.pointer (some ⟨b,0,none⟩))).drew.heap.size=w.heap.size:=u;refine⟨A,cap,D,?_,hg.trans h3,λk y j=>(h4 k (by rw[x];exact y) j).trans (s k j)⟩;rcases C with C|⟨q,cs,q1,G,Z⟩
  .exact .inl C
  .rw[x]at G;exact .inr ⟨q,cs,q1,G,Z⟩
 have ZZ:(w.setCell ⟨b,0,none⟩ (.pointer (some ⟨b,0,none⟩))).drew.cell? ⟨b,1,none⟩=some (.slice none 0 0):=c1
 go_wp2_with (go_at_fn (ρ.f 240);refine(Any.Builder_copyCheck_fresh { L with } X.toX72 b w (by rw[Lib.cell_of_heap p];rfl) (by simp[World.shape?,p]) (Lib.frozen_of_heap p 0)).mono ?_;rintro e w' ⟨rfl,rfl⟩)
 go_region_o
 all_goals go_wp2_with (go_at_fn (ρ.f 241);refine(Any.Builder_grow_f { L with } X b n (w.setCell ⟨b,0,none⟩ (.pointer (some ⟨b,0,none⟩))).drew h hn).mono ?_;rintro e w' ⟨rfl,D⟩)
 all_goals first
  | (go_end0;exact⟨rfl,J _ D⟩)
  | (go_end0;exact⟨rfl,hU⟩)
  | (go_end0;exact⟨rfl,J _ ⟨none,0,h,.inl ⟨rfl,rfl⟩,⟨rfl,rfl,rfl,qE _⟩,λ_ _ _=>rfl⟩⟩)
set_option maxHeartbeats 2000000 in
set_option maxRecDepth 1000000 in
theorem Any.Builder_Grow_u(L:Lays.n165 P ρ)(X:Builder.Extra P ρ)(b n:Nat)(w:tS)(h:w.heap[b]? = some (.cells #[.pointer (some ⟨b,0,none⟩),.slice none 0 0] (ρ.t 72) (0,0)))(F:n<=281474976710656) :
  Calls P (ρ.f 165) #[.pointer (some ⟨b,0,none⟩),.int .i64 n] w λe w'=>e = .returned (.tuple #[])/\gw_ (ρ.t 72) (ρ.t 5) b w w':=by
 have V:w.cell? ⟨b,1,none⟩=some (.slice none 0 0):=by rw[Lib.cell_of_heap h];rfl
 have mixed:=L.mixed;have t72:=L.t72;have a72:=L.a72;have z72:=L.z72;have v72:=L.v72;have y:=run_underlying L.t72;have t70:=L.t70;have a70:=L.a70;have z70:=L.z70;have v70:=L.v70;have C:=run_underlying L.t70;have t37:=L.t37;have a37:=L.a37;have z37:=L.z37;have v37:=L.v37;have D:=run_underlying L.t37;have t3:=L.t3;have a3:=L.a3;have z3:=L.z3;have v3:=L.v3;have u3:=run_underlying L.t3;have t9:=L.t9;have a9:=L.a9;have z9:=L.z9;have v9:=L.v9;have Y:=run_underlying L.t9;have t4:=L.t4;have a4:=L.a4;have z4:=L.z4;have v4:=L.v4;have u4:=run_underlying L.t4;have t164:=L.t164;have a164:=L.a164;have z164:=L.z164;have v164:=L.v164;have p:=run_underlying L.t164
 have t5:=X.t5;have a5:=X.a5;have z5:=X.z5;have v5:=X.v5;have Z:=run_underlying X.t5;have x:∀args w,(callFunc (ρ.f 240) args).run P w = .ok (.enter (ρ.f 240) args) w:=enters_of L.f240 (by kernel_rfl) rfl;have u:∀args w,(callFunc (ρ.f 241) args).run P w = .ok (.enter (ρ.f 241) args) w:=enters_of L.f241 (by kernel_rfl) rfl
 go_enter L.f165,Body.n165_ntmps ρ
 have G:gw_ (ρ.t 72) (ρ.t 5) b w w:=⟨none,0,h,.inl ⟨rfl,rfl⟩,Grow.refl w,λ_ _ _=>rfl⟩;have s:∀w',gw_ (ρ.t 72) (ρ.t 5) b w.drew w'->gw_ (ρ.t 72) (ρ.t 5) b w w':=λw' ⟨A,cap,j,O,M,J⟩=>⟨A,cap,j,O,(show Grow w w.drew from⟨rfl,rfl,rfl,qE _⟩).trans M,J⟩
 have U:w.drew.cell? ⟨b,1,none⟩=some (.slice none 0 0):=V
 go_wp2_with (go_at_fn (ρ.f 240);refine(Any.Builder_copyCheck_used { L with } X.toX72 b w (by rw[Lib.cell_of_heap h];rfl)).mono ?_;rintro e w' ⟨rfl,q⟩;rw[q];clear q w')
 go_region_o
 all_goals go_wp2_with (go_at_fn (ρ.f 241);refine(Any.Builder_grow_f { L with } X b n w.drew h F).mono ?_;rintro e w' ⟨rfl,j⟩)
 all_goals first
  | (go_end0;exact⟨rfl,s _ j⟩)
  | (go_end0;exact⟨rfl,G⟩)
  | (go_end0;exact⟨rfl,s _ ⟨none,0,h,.inl ⟨rfl,rfl⟩,Grow.refl _,λ_ _ _=>rfl⟩⟩)
end Go.Proofs
namespace Go
namespace Rt
open Go.RowKit Go.Proofs Go.Shelf
section
variable{P:tT}{E:TE}{z:Fz}{g:Ga}{w w' w0:tS}{Bs:tL Nat}{F0:Nat->Prop}{H H':Nat->tO (Obj E)}
theorem HR.know{n:Nat}{o:Obj E}(h:HR P E Bs F0 w0 w z g H)(G:ObjR P E z g w n o)(x:∀k,fpO g n o k->w0.heap.size<=k/\¬z.F k/\∀j p,H j=some p->¬fpO g j p k):HR P E Bs F0 w0 w z g (upH H [(n,some o)]):=by
 refine⟨h.chg,λj p e => ?_,λj p k e f => ?_,λj C p y k D e J f s => ?_,h.fz,h.fz0,λj p k e f => ?_,h.gl⟩
 .rcases bi_ e with⟨rfl,rfl⟩|⟨_,q⟩
  .exact G
  .exact h.hold j p q
 .rcases bi_ e with⟨rfl,rfl⟩|⟨_,q⟩
  .exact .inl (x k f).1
  .exact h.own j p k q f
 .rcases bi_ e with⟨rfl,rfl⟩|⟨_,q⟩<;>rcases bi_ J with⟨rfl,rfl⟩|⟨_,u⟩
  .exact D rfl
  .exact(x k f).2.2 C y u s
  .exact(x k s).2.2 j p q f
  .exact h.apart j C p y k D q u f s
 .rcases bi_ e with⟨rfl,rfl⟩|⟨_,q⟩
  .exact(x k f).2.1
  .exact h.fza j p k q f
def growI(E:TE)(e:tN):InlF E:=λH nx xs _ k=>match xs with
 | [.one (.ptr id 0),.one (.dt (.int .i64) n)]=>match H id with
  | some (.box T [.sbp id',.nils])=>match Nat.beq id id'&&E.sb T with
   | true=>Option.bind (growB [] n) λz=>k (some (.tup [])) [(id,some (.box T [.sbp id,.own nx])),(nx,some (.row e (.int .u8) z []))]
   | false=>none
  | _=>none
 | _=>none
theorem growI_ok {ρ:Ren} (L:Lays.n165 P ρ) (X:Builder.Extra P ρ) (ZY:E.size (.int .u8)=1) (ZX:∀T,E.sb T=true->T=ρ.t 72):kF_ P E (ρ.f 165) (growI E (ρ.t 5)):=by
 intro z g nx H xs vs R k r Bs F0 w0 w U G O h;unfold growI at h;split at h
 .rename_i id n;split at h
  .rename_i T id' hi;split at h
   .rename_i hb;simp only[qAn]at hb;obtain rfl:=qNb hb.1;have hT:=ZX T hb.2;subst hT;obtain⟨y,M,ZU⟩:=bind_some h;clear h;unfold growB at M;cases hc:(decide (0<=n)&&decide (n<=281474976710656))with
    | false=>rw[hc]at M;cases M
    | true =>
     rw[hc]at M;simp only[qAn,qDe]at hc;obtain rfl:=qSj (show some ([]:tL Int)=some y from M);cases O with
     | cons v1 O=>cases O with
      | cons v2 O =>
       cases O
       obtain⟨l,D,rfl⟩:=v1;obtain⟨ZQ,e2,_⟩:=RD.int_inv (show RD E z [.int .i64] (n,()) _ from v2);obtain⟨rfl,_⟩:=List.cons.inj e2;obtain⟨n,rfl⟩:∃q:Nat,n=(q:Int):=⟨Int.toNat n,(Int.toNat_of_nonneg hc.1).symm⟩;have ZP:(n:Int)<=281474976710656:=hc.2;obtain⟨l',us,h2,h3,h4⟩:=G.hold _ _ hi;rw[D]at h2;obtain rfl:=qSj h2;cases h4 with
       | cons c1 h4=>cases h4 with
        | cons c2 h4 =>
         cases h4
         rename_i u1 u2;obtain rfl:u2 = .slice none 0 0:=c2;obtain⟨l2,u,J⟩:=c1;rw[D]at u;obtain rfl:=qSj u
         -- what the world is behind it
         have key:Calls P (ρ.f 165) #[.pointer (some ⟨l.b,0,none⟩),.int .i64 n] w λe w'=>e = .returned (.tuple #[])/\gw_ (ρ.t 72) (ρ.t 5) l.b w w':=by
          rcases J with rfl|rfl
          .exact Any.Builder_Grow_f L X l.b n w h3 (by omega)
          .exact Any.Builder_Grow_u L X l.b n w h3 (by omega)
         refine Calls.mono key λe w' ⟨he,A,cap,q1,q2,q3,q4⟩ => ?_
         have s:g nx=none:=U.self;have ZT:id≠nx:=λe=>by rw[e,s]at D;cases D
         have ZO:l.b<w.heap.size:=by
          rcases qR l.b w.heap.size with h'|h'
          .exact h'
          .rw[zJ h']at h3;cases h3
         refine⟨_,he,.tup [],_,z,g.put nx ⟨A,0,cap,1,0,0⟩,ZU,Fz.Le.refl z,Ga.le_put s,Fresh.nxU λi hi=>U.put _ i (by omega),⟨[],rfl,.nil⟩,?_⟩;have step1:HR P E Bs F0 w0 w' z (g.put nx ⟨A,0,cap,1,0,0⟩) (upH H [(id,some (.box (ρ.t 72) [.sbp id,.own nx]))]):=by
          refine G.turn (Ga.le_put s) (i:=id) (i':=id) (C:=λk=>k=l.b) (λk F=>⟨_,hi,l,D,F⟩) q3 (λk F ZV=>q4 k F ZV) (o' := .box (ρ.t 72) [.sbp id,.own nx]) ?_ (λk F => ?_) λj p V => ?_
          .refine⟨l,_,Ga.le_put s _ _ D,q1,.cons ⟨l,Ga.le_put s _ _ D,.inr rfl⟩ (.cons ⟨_,Ga.put_self _ _ _,rfl⟩ .nil)⟩
          .obtain⟨l2,u,rfl⟩:=F;rw[Ga.le_put s _ _ D]at u;obtain rfl:=qSj u;exact .inl rfl
          .rcases bi_ V with⟨rfl,rfl⟩|⟨u,J⟩
           .exact .inl ⟨rfl,rfl⟩
           .exact .inr ⟨u,.inl u,J⟩
         have e4:upH H [(id,some (.box (ρ.t 72) [.sbp id,.own nx])),(nx,some (.row (ρ.t 5) (.int .u8) ([]:tL Int) []))]=upH (upH H [(id,some (.box (ρ.t 72) [.sbp id,.own nx]))]) [(nx,some (.row (ρ.t 5) (.int .u8) ([]:tL Int) []))]:=by
          funext j
          simp only[upH];cases V:Nat.beq j id with
          | false=>rfl
          | true =>
           have:Nat.beq j nx=false:=by
            cases hn:Nat.beq j nx with
            | false=>rfl
            | true=>exact absurd ((qNb V).symm.trans (qNb hn)) ZT
           rw[this]
         rw[e4];refine step1.know ?_ λk F => ?_
         .refine⟨_,[],Ga.put_self _ _ _,rfl,ZY.symm,⟨rfl,?_⟩,rfl,(λr hr=>nomatch hr),(λi x r hx=>by simp at hx),λp hp=>nomatch hp⟩;rcases q2 with⟨rfl,rfl⟩|⟨q,cs,rfl,_,hq,Z,ZZ⟩
          .exact .inl ⟨rfl,rfl⟩
          .exact .inr ⟨q,cap,cs,rfl,qO _,hq,qO _,ZZ,by rw[Z,Nat.mul_one],by simp⟩
         .obtain⟨l2,a2,u,J,rfl⟩:=F;rw[Ga.put_self]at u;obtain rfl:=qSj u;rcases q2 with⟨rfl,_⟩|⟨q,cs,rfl,ZW,hq,Z,ZZ⟩
          .cases J
          .obtain rfl:=qSj J;refine⟨zQ G.size ZW,λhz => ?_,λj p V Y => ?_⟩
           .have:=(G.fz _ hz).1;have:q<w.heap.size:=this;omega
           .rcases bi_ V with⟨rfl,rfl⟩|⟨h7,h8⟩
            .obtain⟨l3,h9,ZR⟩:=Y;rw[Ga.le_put s _ _ D]at h9;obtain rfl:=qSj h9;have:q=l.b:=ZR;omega
            .have ZS:=(hj_ (G.hold j p h8).loc (Ga.le_put s)).1 Y;have:q<w.heap.size:=(G.hold j p h8).lt ZS;omega
   .cases h
  .cases h
 .cases h
end
end Rt
end Go
namespace Go.Proofs
open Go.Shelf
def Tryz.laysGrow_ren:Go.Shelf.Ren:=⟨λ | 165=>122 | 240=>114 | 241=>158 | 276=>148 | 277=>189|n=>n,λ | 70=>107 | 3=>3 | 0=>0 | 4=>4 | 9=>9 | 20=>20 | 72=>110 | 37=>108 | 164=>179 | 5=>5|n=>n,λ|n=>n⟩
theorem Tryz.laysGrow:Go.Proofs.Lays.n165 Tryz.prog Tryz.laysGrow_ren:={
 mixed:=by kernel_rfl
 f165:=Tryz.func122.trans (qa some (by kernel_rfl))
 f240:=Tryz.func114.trans (qa some (by kernel_rfl))
 f241:=Tryz.func158.trans (qa some (by kernel_rfl))
 f276:=Tryz.func148.trans (qa some (by kernel_rfl))
 f277:=Tryz.func189.trans (qa some (by kernel_rfl))
 t0:=Tryz.underlying0
 a0:=Tryz.isAgg0
 z0:=Tryz.sizeOf0
 v0:=Tryz.zeroValue0
 t3:=Tryz.underlying3
 a3:=Tryz.isAgg3
 z3:=Tryz.sizeOf3
 v3:=Tryz.zeroValue3
 t4:=Tryz.underlying4
 a4:=Tryz.isAgg4
 z4:=Tryz.sizeOf4
 v4:=Tryz.zeroValue4
 t9:=Tryz.underlying9
 a9:=Tryz.isAgg9
 z9:=Tryz.sizeOf9
 v9:=Tryz.zeroValue9
 t20:=Tryz.underlying20
 a20:=Tryz.isAgg20
 z20:=Tryz.sizeOf20
 v20:=Tryz.zeroValue20
 t37:=Tryz.underlying108
 a37:=Tryz.isAgg108
 z37:=Tryz.sizeOf108
 v37:=Tryz.zeroValue108
 t70:=Tryz.underlying107
 a70:=Tryz.isAgg107
 z70:=Tryz.sizeOf107
 v70:=Tryz.zeroValue107
 t72:=Tryz.underlying110
 a72:=Tryz.isAgg110
 z72:=Tryz.sizeOf110
 v72:=Tryz.zeroValue110
 t164:=Tryz.underlying179
 a164:=Tryz.isAgg179
 z164:=Tryz.sizeOf179
 v164:=Tryz.zeroValue179 }
end Go.Proofs
namespace Go.Proofs.YtfbcbakhdkppoaaGreatDoor
open Go.Shelf Go.RowKit Go.Rt
theorem Tryz.extraGrow:Builder.Extra Tryz.prog Tryz.laysGrow_ren where
 sizeBuilder:=by kernel_rfl
 liesBuilder:=by kernel_rfl
 t5:=Tryz.underlying5
 a5:=Tryz.isAgg5
 z5:=Tryz.sizeOf5
 v5:=Tryz.zeroValue5
 infoByte:=by kernel_rfl
 cellsByte:=by kernel_rfl
 sizeByte:=by kernel_rfl
 neB5:=by decide
theorem fGrow:Tryz.laysGrow_ren.f 165=122:=by kernel_rfl
theorem tGrow:Tryz.laysGrow_ren.t 5=5:=by kernel_rfl
def qy_:InlF te:=growI te 5
theorem p2_:kF_ Tryz.prog te 122 qy_/\c3_ Tryz.prog 122=true:=by
 refine⟨?_,by kernel_rfl⟩;have h:kF_ Tryz.prog te (Tryz.laysGrow_ren.f 165) (growI te (Tryz.laysGrow_ren.t 5)):=growI_ok (E:=te) Tryz.laysGrow Tryz.extraGrow (by kernel_rfl) λT j=>(qNb j:T=110)
 rw[fGrow,tGrow]at h;exact @h
end Go.Proofs.YtfbcbakhdkppoaaGreatDoor
namespace Go.Proofs
open Go.Shelf
def Tryz.laysIndexByte_ren:Go.Shelf.Ren:=⟨λ | 217=>220 | 266=>247|n=>n,λ | 9=>9 | 5=>5 | 3=>3|n=>n,λ|n=>n⟩
theorem Tryz.laysIndexByte:Go.Proofs.Lays.n217 Tryz.prog Tryz.laysIndexByte_ren:={
 mixed:=by kernel_rfl
 f217:=Tryz.func220.trans (qa some (by kernel_rfl))
 f266:=Tryz.func247.trans (qa some (by kernel_rfl))
 t3:=Tryz.underlying3
 a3:=Tryz.isAgg3
 z3:=Tryz.sizeOf3
 v3:=Tryz.zeroValue3
 t5:=Tryz.underlying5
 a5:=Tryz.isAgg5
 z5:=Tryz.sizeOf5
 v5:=Tryz.zeroValue5
 t9:=Tryz.underlying9
 a9:=Tryz.isAgg9
 z9:=Tryz.sizeOf9
 v9:=Tryz.zeroValue9 }
end Go.Proofs
namespace Go.Proofs.YtfbcbakhdkppoaaGreatDoor
open Go.Shelf Go.RowKit Go.Rt
theorem fIndexByte:Tryz.laysIndexByte_ren.f 217=220:=by kernel_rfl
theorem rB_:∀(s:tX) (c:UInt8),dI_ s c=Lib.indexByte s c
 | [],_=>rfl
 | b::l,c=>by simp only[dI_,Lib.indexByte,rB_ l c]
theorem W_IndexByte(x0:tX)(x1:Int)(r:Int)(f:stringslite_IndexByte x0 x1=some r)(w0:tS):Ret Tryz.prog 220 #[S x0,.int .u8 x1] w0 λv w=>v = .int .i64 r/\Ext w0 w:=by
 unfold stringslite_IndexByte at f;simp only[qOi]at f;subst f;have h:=Any.stringslite_IndexByte Tryz.laysIndexByte ⟨x0.toArray⟩ x1 w0;rw[fIndexByte]at h;refine Calls.mono h λe w ⟨j,p⟩=>⟨_,j,?_,?_⟩
 .simp[rB_]
 .subst p;exact Ext.refl _
def k3_:Con te:=ag_ te [.d .str,.d (.int .u8)] [(.int .i64,[])] false λa=>stringslite_IndexByte a.1 a.2.1
theorem con_bind{ps:tL Pm}{rs:Rs}{ali:tV}{f:PA te ps->tO (Tp te.S (rs.ts++ba_ ps))}{R:Type}{a:PA te ps}{k:HL te.S rs.ts->HL te.S (ba_ ps)->tO R}{r:R}(hr:(ag_ te ps rs ali f).F R a k=some r):∃y,f a=some y/\k (hfst rs.ts (ba_ ps) (b6_ _ y)) (hsnd rs.ts (ba_ ps) (b6_ _ y))=some r:=bind_some hr
theorem jq_:Con.OK Tryz.prog te 220 k3_/\c3_ Tryz.prog 220=true:=by
 refine⟨λR a k r hr => ?_,by kernel_rfl⟩;obtain⟨y,j,h⟩:=con_bind (ps:=[.d .str,.d (.int .u8)]) (rs:=[(.int .i64,[])]) (ali:=false) (f:=λa=>stringslite_IndexByte a.1 a.2.1) hr;exact⟨_,_,h,mx_ (y:=y) rfl rfl rfl rfl rfl λw=>W_IndexByte a.1 a.2.1 y j w⟩
end Go.Proofs.YtfbcbakhdkppoaaGreatDoor
namespace Go
namespace Rt
open Go.RowKit Go.Shelf Go.Sort Go.Proofs Go.Lib
section
variable{P:tT}{E:TE}{z:Fz}{g:Ga}{w w' w0:tS}{Bs:tL Nat}{F0:Nat->Prop}
theorem splice_nil(cs:tL tW)(o:Nat):splice cs o []=cs:=by
 simp[splice]
theorem splice_cons(cs:tL tW)(o:Nat)(v:tW)(vs:tL tW)(h:o<cs.length):splice (cs.set o v) (o+1) vs=splice cs o (v::vs):=by
 unfold splice;rw[List.take_set,List.take_succ_eq_append_getElem h,List.drop_set_of_lt (by omega),List.set_append_right _ _ (by rw[qA];omega),qA,ji (by omega)];simp;rw[show o+1+vs.length=o+(vs.length+1)by omega]
theorem setCell_heap{b o:Nat}{e:tN}{cs:tL tW}{v:tW}(h:w.heap[b]? = some (.cells cs.toArray e (0,0))):(w.setCell ⟨b,o,none⟩ v).heap[b]? = some (.cells (cs.set o v).toArray e (0,0)):=by
 unfold World.setCell;simp only[zm,zT,h,zn,Option.isSome_none,qM,zY];simp
theorem setCell_else{b o k:Nat}{v:tW}(h:k≠b):(w.setCell ⟨b,o,none⟩ v).heap[k]? = w.heap[k]? := by
 unfold World.setCell;simp only[zm];rw[qP λe=>h e.symm]
theorem setCell_grow{b o:Nat}{v:tW}:Grow w (w.setCell ⟨b,o,none⟩ v):=⟨rfl,rfl,rfl,by simp[World.setCell]⟩
theorem fq_{b:Nat}{e:tN}:∀(vs:tL tW) (o:Nat) (cs:tL tW) (w:tS),w.heap[b]? = some (.cells cs.toArray e (0,0))->o+vs.length<=cs.length->(w.setCells b o vs).heap[b]? = some (.cells (splice cs o vs).toArray e (0,0))/\Grow w (w.setCells b o vs)/\∀k,k≠b->(w.setCells b o vs).heap[k]? = w.heap[k]?
 | [],o,cs,w,h,f=>⟨by rw[splice_nil];exact h,Grow.refl w,λ_ _=>rfl⟩
 | v::vs,o,cs,w,h,f=>by
  simp only[qLc]at f;obtain⟨p,s,q⟩:=fq_ vs (o+1) (cs.set o v) (w.setCell ⟨b,o,none⟩ v) (setCell_heap h) (by simp;omega);rw[splice_cons _ _ _ _ (by omega)]at p;exact⟨p,setCell_grow.trans s,λk j=>(q k j).trans (setCell_else j)⟩
theorem rC_(o:Go.Obj):Grow w (w.drew.alloc o):=(show Grow w w.drew from⟨rfl,rfl,rfl,qE _⟩).trans (Grow.of_below (Ext.one w.drew _).below)
theorem insN_some{α:Type}{by_:Nat}{xs f zs:tL α}{i:Int}(h:insN by_ xs i f=some zs):0<f.length/\0<=i/\i<=(xs.length:Int)/\(xs.length+f.length)*by_<=140737488355328/\zs=xs.take i.toNat++(f++xs.drop i.toNat):=by
 cases f with
 | nil=>cases h
 | cons y l =>
  simp only[insN]at h;split at h
  .rename_i j;obtain rfl:=qSj h;exact⟨Nat.succ_pos _,j.1,j.2.1,j.2.2,rfl⟩
  .cases h
end
section
variable{P:tT}{ρ:Ren}
theorem row_cell{w:tS}{b:Nat}{cs:tL tW}{e:tN}(f:w.heap[b]? = some (.cells cs.toArray e (0,0)))(t:Nat):w.cell? ⟨b,t,none⟩=cs[t]? := by
 rw[cell_of_row w b t _ e (0,0) f];simp
theorem row_free{w:tS}{b:Nat}{cs:Array tW}{e:tN}(f:w.heap[b]? = some (.cells cs e (0,0)))(t:Nat):w.frozen? ⟨b,t,none⟩=false:=by
 unfold World.frozen?;simp only[f];simp
end
section
variable{P:tT}{ρ:Ren}{E:TE}{z:Fz}{g:Ga}{w w' w0:tS}{Bs:tL Nat}{F0:Nat->Prop}
theorem take_flatten{rows:tL (tL tW)}{c:Nat}(hr:∀r∈rows,r.length=c){i:Nat}(hi:i<=rows.length):(rows.take i).flatten=rows.flatten.take (i*c)/\(rows.drop i).flatten=rows.flatten.drop (i*c):=by
 have j:rows.flatten=(rows.take i).flatten++(rows.drop i).flatten:=by rw[←zg,zj]
 have f:(rows.take i).flatten.length=i*c:=by rw[av_ (λr h=>hr r (zK h)),qA,ji hi]
 rw[j,←f];constructor
 .rw[List.take_left]
 .rw[List.drop_left]
end
section
variable{P:tT}{ρ:Ren}
theorem gk_(w:tS)(dT sT ty elem:tN)(b o dLen dCap:Nat)(a:Addr)(sLen sCap c:Nat)(cs:tL tW)
  (s:P.underlying dT=some (.slice elem)) (q:(P.info? elem).map (·.size)=some c) (u:cs.length=Nat.min sLen dLen*c)
  (f:∀j v,cs[j]? = some v->w.cell? (a.add j)=some v) (C:∀j,j<cs.length->(w.cell? ⟨b,o+j,none⟩).isSome=true) (y:∀j,j<cs.length->w.frozen? ⟨b,o+j,none⟩=false) (D:∀v∈cs,v.oneCell'=true) :
  (Builtin.copy_ #[dT,sT] ty #[.slice (some ⟨b,o,none⟩) dLen dCap,.slice (some a) sLen sCap]).run P w = .ok (goInt ((Nat.min sLen dLen:Nat):Int)) (w.setCells b o cs):=by
 have x:=run_loadCells_list (P:=P) w a cs f;have h:=run_storeCells_cells (P:=P) b o cs 0 w (by simpa using C) (by simpa using y) D;cases p:P.info? elem with
 | none=>simp[p]at q
 | some i =>
  have hi:i.size=c:=by simpa[p]using q
  simp[Builtin.copy_,run_underlying s,Builtin.lenOf,Builtin.firstCells,sizeOf,typeInfo,p,hi,←u,x,h]
structure InsL(P:tT)(ρ:Ren)(c bytes:Nat)(zc:Array tW):Prop where
 mixed:P.follows .mixedOrders=true
 f22:Bears P (ρ.f 22) (Body2.n22 ρ)
 ov:∀args w,(callFunc (ρ.f 29) args).run P w=((Extern.SlicesOverlaps.overlaps #[(ρ.t 24),(ρ.t 24)] #[(ρ.t 4)] args).run P w).andThen λv w' => .ok (.value v) w'
 t0:P.underlying (ρ.t 0)=some (TypeDesc.tuple #[])
 a0:∀w,(isAgg (ρ.t 0)).run P w = .ok false w
 z0:∀w,(Go.sizeOf (ρ.t 0)).run P w = .ok 1 w
 v0:∀w,(zeroValue (ρ.t 0)).run P w = .ok (Value.tuple #[]) w
 t3:P.underlying (ρ.t 3)=some (TypeDesc.int IntKind.i64)
 a3:∀w,(isAgg (ρ.t 3)).run P w = .ok false w
 z3:∀w,(Go.sizeOf (ρ.t 3)).run P w = .ok 1 w
 v3:∀w,(zeroValue (ρ.t 3)).run P w = .ok (Value.int IntKind.i64 0) w
 t4:P.underlying (ρ.t 4)=some (TypeDesc.bool)
 a4:∀w,(isAgg (ρ.t 4)).run P w = .ok false w
 z4:∀w,(Go.sizeOf (ρ.t 4)).run P w = .ok 1 w
 v4:∀w,(zeroValue (ρ.t 4)).run P w = .ok (Value.bool false) w
 t24:P.underlying (ρ.t 24)=some (TypeDesc.slice (ρ.t 9))
 a24:∀w,(isAgg (ρ.t 24)).run P w = .ok false w
 z24:∀w,(Go.sizeOf (ρ.t 24)).run P w = .ok 1 w
 v24:∀w,(zeroValue (ρ.t 24)).run P w = .ok (Value.slice none 0 0) w
 z9:∀w,(Go.sizeOf (ρ.t 9)).run P w = .ok c w
 v9:∀w,(zeroValue (ρ.t 9)).run P w = .ok (.agg zc) w
 i9:(P.info? (ρ.t 9)).map (λi=>(i.zero,i.size,i.bytes))=some (some (.agg zc),c,bytes)
 zs:zc.size=c
 c0:0<c
 zo:∀v∈zc.toList,v.oneCell'=true
set_option maxHeartbeats 4000000 in
set_option maxRecDepth 1000000 in
theorem ins_shift{c bytes:Nat}{zc:Array tW}(L:InsL P ρ c bytes zc)(b off n cap i vb voff m vc:Nat)(cs vs:tL tW)(w:tS)(hi:i<n)(hm:0<m)(ZW:n+m<=cap)(ZL:cap<=9223372036854775807)(G:vb≠b)
  (ZP:cs.length=n*c) (y:vs.length=m*c)
  (ZQ:∀j v,cs[j]? = some v->w.cell? ⟨b,off+j,none⟩=some v) (C:∀j,j<(n+m)*c->(w.cell? ⟨b,off+j,none⟩).isSome=true) (O:∀j,j<(n+m)*c->w.frozen? ⟨b,off+j,none⟩=false)
  (ZZ:∀j v,vs[j]? = some v->w.cell? ⟨vb,voff+j,none⟩=some v) (ZM:∀v∈cs,v.oneCell'=true) (ZN:∀v∈vs,v.oneCell'=true)
  (tA tB:tN) (kA kB:Nat) (ZX:w.shape? vb=some (tA,kA)) (ZY:w.shape? b=some (tB,kB)) (ZU:kB≠0) (ZR:w.frozen? ⟨vb,voff,none⟩=false) (ZS:w.frozen? ⟨vb,kA,none⟩=false) :
  Calls P (ρ.f 22) #[.slice (some ⟨b,off,none⟩) n cap,.int .i64 i,.slice (some ⟨vb,voff,none⟩) m vc] w λe w' =>
   e = .returned (.slice (some ⟨b,off,none⟩) (n+m) cap)/\w'=(w.drew.setCells b (off+(i+m)*c) (cs.drop (i*c))).setCells b (off+i*c) vs:=by
 have t0:=L.t0;have a0:=L.a0;have z0:=L.z0;have v0:=L.v0;have t3:=L.t3;have a3:=L.a3;have z3:=L.z3;have v3:=L.v3;have t4:=L.t4;have a4:=L.a4;have z4:=L.z4;have v4:=L.v4;have z9:=L.z9;have t24:=L.t24;have a24:=L.a24;have z24:=L.z24;have v24:=L.v24;have u0:=run_underlying L.t0;have u3:=run_underlying L.t3;have u4:=run_underlying L.t4;have ZK:=run_underlying L.t24;have ZI:¬((m:Int)=0):=by omega
 have ZJ:¬((i:Int)=(n:Int)):=by omega
 have J:(P.info? (ρ.t 9)).map (·.size)=some c:=by
  obtain⟨i0,ZT,h0,h1,h2⟩:=info_parts L.i9;rw[ZT];simp[h1]
 have e1:(n+m)*c=n*c+m*c:=jx _ _ _;have e2:(i+m)*c=i*c+m*c:=jx _ _ _;have e3:(n-i)*c=n*c-i*c:=jv _ _ _;have e4:i*c<=n*c:=qu _ (Nat.le_of_lt hi);have ZV:∀lb cb,(callFunc (ρ.f 29) #[.slice (some ⟨vb,voff,none⟩) m vc,.slice (some ⟨b,off+(i+m)*c,none⟩) lb cb]).run P w = .ok (.value (.bool false)) w:=λlb cb=>by
  rw[L.ov,Lib.run_overlaps_apart w (ρ.t 24) (ρ.t 4) (ρ.t 9) L.t24 c L.z9 ⟨vb,voff,none⟩ ⟨b,off+(i+m)*c,none⟩ m vc lb cb G tA tB kA kB ZX ZY ZU ZR ZS];rfl
 have s:(cs.drop (i*c)).length=(n-i)*c:=by rw[qC,ZP,e3]
 have mixed:=L.mixed;have ZH:IntKind.i64.wrap ((i:Int)+(m:Int))=(i:Int)+(m:Int):=by rw[IntKind.wrap_i64];omega
 have ZB:(0:Int)<=(i:Int)+(m:Int):=by omega
 have ZF:i<=n:=by omega
 have ZG:((i:Int)+(m:Int)).toNat=i+m:=by omega
 have ZC:¬(cap=i+m):=by omega
 have ZD:(i:Int)<=(n:Int)+(m:Int):=by omega
 have ZE:¬(cap=i):=by omega
 have F:Nat.min (n+m-i) (n+m-(i+m))=n-i:=by simp only[Nat.min_def];split<;>omega
 have D:Nat.min m (n+m-i)=m:=by simp only[Nat.min_def];split<;>omega
 have u:∀ty dc Z,(Builtin.copy_ #[(ρ.t 24),(ρ.t 24)] ty #[.slice (some ⟨b,off+(i+m)*c,none⟩) (n+m-(i+m)) dc,.slice (some ⟨b,off+i*c,none⟩) (n+m-i) Z]).run P w.drew = .ok (goInt ((Nat.min (n+m-i) (n+m-(i+m)):Nat):Int)) (w.drew.setCells b (off+(i+m)*c) (cs.drop (i*c))):=λty dc Z =>
  gk_ w.drew _ _ ty (ρ.t 9) b (off+(i+m)*c) (n+m-(i+m)) dc ⟨b,off+i*c,none⟩ (n+m-i) Z c (cs.drop (i*c)) L.t24 J (by rw[s,F])
   (λj v p=>by rw[Addr.add_lit,zG];exact ZQ (i*c+j) v (by rwa [zW]at p))
   (λj p=>by rw[s]at p;rw[zG];exact C _ (by omega)) (λj p=>by rw[s]at p;rw[zG];exact O _ (by omega)) (λv hv=>ZM v (jk hv))
 obtain⟨Y,q⟩:∃Y,Y=w.drew.setCells b (off+(i+m)*c) (cs.drop (i*c)):=⟨_,rfl⟩;have M:∀k,k<(n+m)*c->(Y.cell? ⟨b,off+k,none⟩).isSome=true:=λk hk=>by
  rw[q];exact isSome_setCells b _ _ _ (λj p=>by rw[s]at p;rw[zG];exact C _ (by omega)) _ (C k hk)
 have U:∀(W:tS),(∀x,W.cell? x=Y.cell? x)->(∀x,W.frozen? x=Y.frozen? x)->∀ty dc,(Builtin.copy_ #[(ρ.t 24),(ρ.t 24)] ty #[.slice (some ⟨b,off+i*c,none⟩) (n+m-i) dc,.slice (some ⟨vb,voff,none⟩) m vc]).run P W = .ok (goInt ((Nat.min m (n+m-i):Nat):Int)) (W.setCells b (off+i*c) vs):=λW V ZO ty dc =>
  gk_ W _ _ ty (ρ.t 9) b (off+i*c) (n+m-i) dc ⟨vb,voff,none⟩ m vc c vs L.t24 J (by rw[y,D])
   (λj v p=>by
    rw[Addr.add_lit,V,q,World.cell?_setCells_out b _ _ _ _ (λh _=>absurd h G)];exact ZZ j v p)
   (λj p=>by rw[y]at p;rw[V,zG];exact M _ (by omega)) (λj p=>by rw[y]at p;rw[ZO,q,World.frozen?_setCells,zG];exact O _ (by omega)) ZN
 rw[←q]at u;clear e1 e2 e3 e4;obtain⟨_,_,FG⟩:=L.f22
 go_enter FG,Body2.n22_ntmps ρ
 go_wp2_with (simp only[ZV])
 go_region_law_o (refine step_copy_runI rfl _ _ (ρ.t 24) (ρ.t 24) rfl _ _ (by simp[Act.eval,Act.put]) (by simp[Act.eval,Act.put]) (u _ _ _) ?_)
 go_wp2_with (at_builtin;refine wpList_copy_runI _ rfl _ _ (ρ.t 24) (ρ.t 24) rfl _ _ rfl rfl (U _ (λ_=>rfl) (λ_=>rfl) _ _) ?_)
 go_ret
 first|exact⟨rfl,rfl⟩|exact⟨rfl,by rw[q]⟩
set_option maxHeartbeats 4000000 in
set_option maxRecDepth 1000000 in
theorem ins_end_room{c bytes:Nat}{zc:Array tW}(L:InsL P ρ c bytes zc)(b off n cap vb voff m vc:Nat)(vs:tL tW)(w:tS)(hm:0<m)(p:n+m<=cap)(_:cap<=9223372036854775807)
  (h:vs.length=m*c) (y:∀j,j<m*c->(w.cell? ⟨b,off+n*c+j,none⟩).isSome=true) (D:∀j,j<m*c->w.frozen? ⟨b,off+n*c+j,none⟩=false)
  (x:∀j v,vs[j]? = some v->w.cell? ⟨vb,voff+j,none⟩=some v) (F:∀v∈vs,v.oneCell'=true) :
  Calls P (ρ.f 22) #[.slice (some ⟨b,off,none⟩) n cap,.int .i64 n,.slice (some ⟨vb,voff,none⟩) m vc] w λe w' =>
   e = .returned (.slice (some ⟨b,off,none⟩) (n+m) cap)/\w'=w.setCells b (off+n*c) vs:=by
 have t0:=L.t0;have a0:=L.a0;have z0:=L.z0;have v0:=L.v0;have t3:=L.t3;have a3:=L.a3;have z3:=L.z3;have v3:=L.v3;have t4:=L.t4;have a4:=L.a4;have z4:=L.z4;have v4:=L.v4;have z9:=L.z9;have t24:=L.t24;have a24:=L.a24;have z24:=L.z24;have v24:=L.v24;have u0:=run_underlying L.t0;have Z:=run_underlying L.t3;have Y:=run_underlying L.t4;have J:=run_underlying L.t24;have mixed:=L.mixed;have O:¬((m:Int)=0):=by omega
 obtain⟨i0,C,U,s,M⟩:=info_parts L.i9;subst s;have q:Src P i0.size (ρ.t 24) (.slice (some ⟨vb,voff,none⟩) m vc) m vs w:=Src.ofSlice w L.t24 ⟨vb,voff,none⟩ m vc vs h (λj u V=>by rw[Addr.add_lit];exact x j u V) F;obtain⟨_,_,FG⟩:=L.f22
 go_enter FG,Body2.n22_ntmps ρ
 go_wp2_with (at_builtin;refine wpList_append_room_src _ rfl _ _ (ρ.t 24) (ρ.t 24) rfl (ρ.t 9) i0 L.t24 C b off n cap rfl _ rfl m vs q p (by rw[h];exact y) (by rw[h];exact D) ?_)
 go_ret
 exact⟨rfl,rfl⟩
set_option maxHeartbeats 4000000 in
set_option maxRecDepth 1000000 in
theorem oY_{c bytes:Nat}{zc:Array tW}(L:InsL P ρ c bytes zc)(base:tO Addr)(n cap vb voff m vc:Nat)(cs vs:tL tW)(w:tS)(hm:0<m)(ZX:n<=cap)(h:cap<n+m)(y:(n+m)*bytes<=140737488355328)(ZW:n+m<=9223372036854775807)
  (x:cs.length=n*c) (J:vs.length=m*c) (q:base=none->n=0)
  (U:∀a,base=some a->∀j v,cs[j]? = some v->w.cell? (a.add j)=some v)
  (G:∀j v,vs[j]? = some v->w.cell? ⟨vb,voff+j,none⟩=some v) (Y:∀v∈vs,v.oneCell'=true) :
  Calls P (ρ.f 22) #[.slice base n cap,.int .i64 n,.slice (some ⟨vb,voff,none⟩) m vc] w λe w' =>
   e = .returned (.slice (some ⟨w.heap.size,0,none⟩) (n+m) (grownCap w (n+m) cap (ρ.t 9))) /\
   w'=w.drew.alloc (.cells ((cs++vs).toArray++Builtin.zeroCells zc (grownCap w (n+m) cap (ρ.t 9)-(n+m))) (ρ.t 9)):=by
 have t0:=L.t0;have a0:=L.a0;have z0:=L.z0;have v0:=L.v0;have t3:=L.t3;have a3:=L.a3;have z3:=L.z3;have v3:=L.v3;have t4:=L.t4;have a4:=L.a4;have z4:=L.z4;have v4:=L.v4;have z9:=L.z9;have t24:=L.t24;have a24:=L.a24;have z24:=L.z24;have v24:=L.v24;have u0:=run_underlying L.t0;have u3:=run_underlying L.t3;have u4:=run_underlying L.t4;have ZZ:=run_underlying L.t24;have mixed:=L.mixed;obtain⟨i0,O,F,C,D⟩:=info_parts L.i9;subst C;have ZY:¬((m:Int)=0):=by omega
 have s:Src P i0.size (ρ.t 24) (.slice (some ⟨vb,voff,none⟩) m vc) m vs w:=Src.ofSlice w L.t24 ⟨vb,voff,none⟩ m vc vs J (λj u M=>by rw[Addr.add_lit];exact G j u M) Y;have hold:(Builtin.firstCells i0.size n (.slice base n cap)).run P w.drew = .ok cs.toArray w.drew:=by
  cases base with
  | none =>
   have Z:=q rfl;subst Z;have V:cs=[]:=zI.1 (by rw[x,Nat.zero_mul]);rw[V];exact run_firstCells_none w.drew i0.size 0 0 cap
  | some a=>exact run_firstCells_some w.drew i0.size n a n cap cs x (λj v M=>U a rfl j v M)
 have p:∀ty,(Builtin.append_ #[(ρ.t 24),(ρ.t 24)] ty #[.slice base n cap,.slice (some ⟨vb,voff,none⟩) m vc]).run P w=_:=λty =>
  run_append_grow_src w (ρ.t 24) (ρ.t 24) ty (ρ.t 9) i0 _ L.t24 O F base n cap cs hold _ m vs s h (by omega) (by rw[D];exact growslice_fits h y)
 obtain⟨_,_,FG⟩:=L.f22
 go_enter FG,Body2.n22_ntmps ρ
 cases base with
 | none =>
  have Z:=q rfl;subst Z
  go_wp2_with (at_builtin;refine Lib.wpList_append_run _ rfl _ _ _ _ rfl _ _ rfl rfl _ _ (p _) ?_)
  go_ret
  exact⟨rfl,rfl⟩
 | some a =>
  obtain⟨ab,ao,asp⟩:=a
  go_wp2_with (at_builtin;refine Lib.wpList_append_run _ rfl _ _ _ _ rfl _ _ rfl rfl _ _ (p _) ?_)
  all_goals (go_ret;exact⟨rfl,rfl⟩)
set_option maxHeartbeats 4000000 in
set_option maxRecDepth 1000000 in
theorem ins_grow{c bytes:Nat}{zc:Array tW}(L:InsL P ρ c bytes zc)(b off n cap i vb voff m vc:Nat)(cs vs:tL tW)(w:tS)(hi:i<n)(hm:0<m)(Zq:n<=cap)(F:cap<n+m)(ZP:(n+m)*bytes<=140737488355328)(ZM:n+m<=maxLen)
  (ZR:cs.length=n*c) (ZX:vs.length=m*c)
  (U:∀j v,cs[j]? = some v->w.cell? ⟨b,off+j,none⟩=some v)
  (ZY:∀j v,vs[j]? = some v->w.cell? ⟨vb,voff+j,none⟩=some v) (Zz:∀v∈cs,v.oneCell'=true) (ZA:∀v∈vs,v.oneCell'=true) :
  Calls P (ρ.f 22) #[.slice (some ⟨b,off,none⟩) n cap,.int .i64 i,.slice (some ⟨vb,voff,none⟩) m vc] w λe w' =>
   e = .returned (.slice (some ⟨w.heap.size,0,none⟩) (n+m) (grownCap w (n+m) cap (ρ.t 9))) /\
   w'=(((w.alloc (.cells ((cs.take (i*c)).toArray++Builtin.zeroCells zc (n+m-i)++Builtin.zeroCells zc (grownCap w (n+m) cap (ρ.t 9)-(n+m))) (ρ.t 9))).drew.setCells w.heap.size (i*c) vs).drew).setCells w.heap.size ((i+m)*c) (cs.drop (i*c)):=by
 have t0:=L.t0;have a0:=L.a0;have z0:=L.z0;have v0:=L.v0;have t3:=L.t3;have a3:=L.a3;have z3:=L.z3;have v3:=L.v3;have t4:=L.t4;have a4:=L.a4;have z4:=L.z4;have v4:=L.v4;have z9:=L.z9;have t24:=L.t24;have a24:=L.a24;have z24:=L.z24;have v24:=L.v24;have u0:=run_underlying L.t0;have u3:=run_underlying L.t3;have u4:=run_underlying L.t4;have Zw:=run_underlying L.t24;have mixed:=L.mixed;have ZQ:=L.c0;have Y:=L.zs;obtain⟨i0,ZU,ZL,Z,ZZ⟩:=info_parts L.i9;have Zt:¬((m:Int)=0):=by omega
 have Zu:¬((i:Int)=(n:Int)):=by omega
 have Zv:(cap:Int)<(n:Int)+(m:Int):=by omega
 have ZW:(P.info? (ρ.t 9)).map (·.size)=some c:=by rw[ZU];simp[Z]
 have e1:(n+m)*c=n*c+m*c:=jx _ _ _;have e2:(i+m)*c=i*c+m*c:=jx _ _ _;have e3:(n-i)*c=n*c-i*c:=jv _ _ _;have e4:i*c<=n*c:=qu _ (Nat.le_of_lt hi);have e5:0<n*c:=Nat.mul_pos (by omega) ZQ;have e6:0<m*c:=Nat.mul_pos hm ZQ;have ZJ:b<w.heap.size:=block_lt_of_cell (U 0 _ (qY (by omega)));have ZK:vb<w.heap.size:=block_lt_of_cell (ZY 0 _ (qY (by omega)));have ZV:(n:Int)+(m:Int)-(i:Int)=((n+m-i:Nat):Int):=by omega
 have O:i+(n+m-i)=n+m:=by omega
 have hold:(Builtin.firstCells i0.size i (.slice (some ⟨b,off,none⟩) i cap)).run P w.drew = .ok (cs.take (i*c)).toArray w.drew:=by
  rw[Z];exact run_firstCells_some w.drew c i ⟨b,off,none⟩ i cap (cs.take (i*c)) (by rw[qA];omega) (λj v p=>by
   rw[Addr.add_lit];rw[zp]at p;split at p
   .exact U j v p
   .cases p)
 have ZO:(n+m-i)*bytes<=(n+m)*bytes:=qu _ (Nat.sub_le _ _);have C:∀ty,(Builtin.append_ #[(ρ.t 24),(ρ.t 3)] ty #[.slice (some ⟨b,off,none⟩) i cap,.int .i64 ((n:Int)+(m:Int)-(i:Int))]).run P w =
   .ok (.slice (some ⟨w.heap.size,0,none⟩) (n+m) (grownCap w (n+m) cap (ρ.t 9))) (w.drew.alloc (.cells ((cs.take (i*c)).toArray++Builtin.zeroCells zc (n+m-i)++Builtin.zeroCells zc (grownCap w (n+m) cap (ρ.t 9)-(n+m))) (ρ.t 9))):=λty=>by
  have h:=Lib.run_append_grow_zeros w (ρ.t 24) (ρ.t 3) ty (ρ.t 9) i0 _ .i64 .i64 L.t24 L.t3 ZU ZL (some ⟨b,off,none⟩) i cap (cs.take (i*c)) hold (n+m-i) (by omega) (by omega) (by omega) (by unfold maxLen at ZM;omega) (by rw[ZZ];omega) (by rw[ZZ,O];exact growslice_fits F ZP);rw[O]at h;rw[ZV];exact h
 obtain⟨G,hG⟩:∃G,G=grownCap w (n+m) cap (ρ.t 9):=⟨_,rfl⟩;obtain⟨ROW,u⟩:∃ROW:Array tW,ROW=(cs.take (i*c)).toArray++Builtin.zeroCells zc (n+m-i)++Builtin.zeroCells zc (G-(n+m)):=⟨_,rfl⟩;rw[←hG]at C ⊢;rw[←u]at C ⊢;have ZH:(n+m)*c<=ROW.size:=by
  have f1:(n+m-i)*c=(n+m)*c-i*c:=jv _ _ _;rw[u];simp only[Array.size_append,jA,qA,ZR,Builtin.zeroCells,Array.size_map,Array.size_range,Y,f1];omega
 obtain⟨y,q⟩:∃y,y=w.drew.alloc (.cells ROW (ρ.t 9)):=⟨_,rfl⟩;rw[←q]at C;have hN:∀j,j<(n+m)*c->(y.cell? ⟨w.heap.size,j,none⟩).isSome=true:=λj p=>by
  rw[q,World.cell?_alloc_at (w:=w.drew) ROW _ w.heap.size j rfl,Array.getElem?_eq_getElem (by omega)];rfl
 have ZN:∀j,y.frozen? ⟨w.heap.size,j,none⟩=false:=λj=>by rw[q];exact World.frozen?_alloc_at (w:=w.drew) ROW _ w.heap.size j rfl
 have ZF:∀j v,w.cell? ⟨b,j,none⟩=some v->y.cell? ⟨b,j,none⟩=some v:=λj v h=>by rw[q,World.cell?_alloc_past (w:=w.drew) _ b j ZJ];exact h
 have ZG:∀j v,w.cell? ⟨vb,j,none⟩=some v->y.cell? ⟨vb,j,none⟩=some v:=λj v h=>by rw[q,World.cell?_alloc_past (w:=w.drew) _ vb j ZK];exact h
 have M:Nat.min m (n+m-i)=m:=by simp only[Nat.min_def];split<;>omega
 have J:Nat.min (n-i) (n+m-(i+m))=n-i:=by simp only[Nat.min_def];split<;>omega
 have ZS:∀(W:tS),(∀x,W.cell? x=y.cell? x)->(∀x,W.frozen? x=y.frozen? x)->∀ty dc,(Builtin.copy_ #[(ρ.t 24),(ρ.t 24)] ty #[.slice (some ⟨w.heap.size,i*c,none⟩) (n+m-i) dc,.slice (some ⟨vb,voff,none⟩) m vc]).run P W = .ok (goInt ((Nat.min m (n+m-i):Nat):Int)) (W.setCells w.heap.size (i*c) vs):=λW s V ty dc =>
  gk_ W _ _ ty (ρ.t 9) w.heap.size (i*c) (n+m-i) dc ⟨vb,voff,none⟩ m vc c vs L.t24 ZW (by rw[ZX,M])
   (λj v p=>by rw[Addr.add_lit,s];exact ZG _ v (ZY j v p))
   (λj p=>by rw[ZX]at p;rw[s];exact hN _ (by omega)) (λj p=>by rw[V];exact ZN _) ZA
 have Zl:n+m<=G:=by rw[hG];exact grownCap_ge w _ _ _
 have Zx:G<=9223372036854775807:=by
  have:=grownCap_le_maxLen w (n+m) cap (ρ.t 9) ZM;rw[←hG]at this;unfold maxLen at this;omega
 have Zj:¬(G=i):=by omega
 have Zy:¬(G=i+m):=by omega
 have Zo:¬(cap=i):=by omega
 have ZI:b≠w.heap.size:=by omega
 have ZT:(cs.drop (i*c)).length=(n-i)*c:=by rw[qC,ZR,e3]
 have D:∀(W:tS),(∀x,W.cell? x=(y.setCells w.heap.size (i*c) vs).cell? x)->(∀x,W.frozen? x=(y.setCells w.heap.size (i*c) vs).frozen? x)->∀ty dc sc,(Builtin.copy_ #[(ρ.t 24),(ρ.t 24)] ty #[.slice (some ⟨w.heap.size,(i+m)*c,none⟩) (n+m-(i+m)) dc,.slice (some ⟨b,off+i*c,none⟩) (n-i) sc]).run P W = .ok (goInt ((Nat.min (n-i) (n+m-(i+m)):Nat):Int)) (W.setCells w.heap.size ((i+m)*c) (cs.drop (i*c))):=λW s V ty dc sc =>
  gk_ W _ _ ty (ρ.t 9) w.heap.size ((i+m)*c) (n+m-(i+m)) dc ⟨b,off+i*c,none⟩ (n-i) sc c (cs.drop (i*c)) L.t24 ZW (by rw[ZT,J])
   (λj v p=>by
    rw[Addr.add_lit,s,World.cell?_setCells_out _ _ _ _ _ (λh _=>absurd h ZI),zG];exact ZF _ v (U (i*c+j) v (by rwa [zW]at p)))
   (λj p=>by rw[ZT]at p;rw[s];exact isSome_setCells _ _ _ _ (λt ht=>hN _ (by omega)) _ (hN _ (by omega)))
   (λj p=>by rw[V,World.frozen?_setCells];exact ZN _) (λv hv=>Zz v (jk hv))
 subst q;have ZB:∀x,((w.alloc (.cells ROW (ρ.t 9))).drew).cell? x=(w.drew.alloc (.cells ROW (ρ.t 9))).cell? x:=λx=>rfl
 have ZC:∀x,((w.alloc (.cells ROW (ρ.t 9))).drew).frozen? x=(w.drew.alloc (.cells ROW (ρ.t 9))).frozen? x:=λx=>rfl
 have ZD:∀x,(((w.alloc (.cells ROW (ρ.t 9))).drew.setCells w.heap.size (i*c) vs).drew).cell? x=((w.drew.alloc (.cells ROW (ρ.t 9))).setCells w.heap.size (i*c) vs).cell? x:=λx=>rfl
 have ZE:∀x,(((w.alloc (.cells ROW (ρ.t 9))).drew.setCells w.heap.size (i*c) vs).drew).frozen? x=((w.drew.alloc (.cells ROW (ρ.t 9))).setCells w.heap.size (i*c) vs).frozen? x:=λx=>rfl
 have Zs:IntKind.i64.wrap ((i:Int)+(m:Int))=(i:Int)+(m:Int):=by rw[IntKind.wrap_i64];omega
 have Zm:(0:Int)<=(i:Int)+(m:Int):=by omega
 have Zp:i<=n:=by omega
 have Zr:((i:Int)+(m:Int)).toNat=i+m:=by omega
 have Zn:(i:Int)<=(n:Int):=by omega
 clear ZV O hold u hG ZH e1 e2 e3 e4 e5 e6 ZO;obtain⟨_,_,FG⟩:=L.f22
 go_enter FG,Body2.n22_ntmps ρ
 go_wp2_with (first
  | (at_builtin;refine Lib.wpList_append_run _ rfl _ _ _ _ rfl _ _ rfl rfl _ _ (C _) ?_)
  | (at_builtin;refine wpList_copy_runI _ rfl _ _ (ρ.t 24) (ρ.t 24) rfl _ _ rfl rfl (ZS _ ZB ZC _ _) ?_)
  | (at_builtin;refine wpList_copy_runI _ rfl _ _ (ρ.t 24) (ρ.t 24) rfl _ _ rfl rfl (D _ (λ_=>rfl) (λ_=>rfl) _ _ _) ?_))
 go_region_law_o (refine step_copy_runI rfl _ _ (ρ.t 24) (ρ.t 24) rfl (.slice (some ⟨w.heap.size,(i+m)*c,none⟩) (n+m-(i+m)) (G-(i+m))) (.slice (some ⟨b,off+i*c,none⟩) (n-i) (cap-i)) (by simp[Act.eval,Act.put]) (by simp[Act.eval,Act.put]) (D _ ZD ZE (ρ.t 3) (G-(i+m)) (cap-i)) ?_)
 go_wp2
 go_ret
 exact⟨rfl,rfl⟩
end
section
variable{P:tT}{E:TE}{z:Fz}{g:Ga}{w w' w0:tS}{Bs:tL Nat}{F0:Nat->Prop}
def RowC(w:tS)(e:tN)(c n:Nat)(X:tL tW)(A:tO Addr)(cap:Nat):Prop:=(A=none/\cap=0/\n=0/\X=[])\/∃(b:Nat) (cs:tL tW),A=some ⟨b,0,none⟩/\w.heap[b]? = some (.cells cs.toArray e (0,0))/\n<=cap/\cap<=maxLen/\cs.length=cap*c/\cs.take (n*c)=X
theorem RowC.len{e:tN}{c n cap:Nat}{X:tL tW}{A:tO Addr}(h:RowC w e c n X A cap):X.length=n*c:=by
 rcases h with⟨_,_,rfl,rfl⟩|⟨b,cs,_,_,j,_,f,rfl⟩
 .simp
 .rw[qA,f,ji];exact qu _ j
theorem RowC.cell{e:tN}{c n b cap:Nat}{X:tL tW}(h:RowC w e c n X (some ⟨b,0,none⟩) cap){j:Nat}{v:tW}(p:X[j]? = some v):w.cell? ⟨b,0+j,none⟩=some v:=by
 rcases h with⟨h,_⟩|⟨C,cs,f,q,y,x,u,s⟩
 .cases h
 .injection f with f;injection f with f;subst f;rw[qh,cell_of_row w b j _ e (0,0) q];rw[←s,zp]at p;split at p
  .simpa using p
  .cases p
theorem d0_{cs vs:tL tW}{o:Nat}(h:o+vs.length<=cs.length):(splice cs o vs).length=cs.length:=by
 unfold splice;simp only[qLa,qA,qC];omega
theorem rD_{cs vs f X:tL tW}{o p q:Nat}(x:o+vs.length=p)(u:p+f.length=q)(C:q<=cs.length)(h:cs.take o=X) :
  (splice (splice cs o vs) p f).take q=X++(vs++f)/\(splice (splice cs p f) o vs).take q=X++(vs++f):=by
 subst x;subst u;have s:X.length=o:=by rw[←h,qA];omega
 constructor
 .unfold splice;have j:(cs.take o++vs++cs.drop (o+vs.length)).take (o+vs.length)=X++vs:=by
   rw[h,zU (by simp only[qLa];omega),qr (by simp only[qLa];omega)]
  rw[j,zU (by simp only[qLa];omega),qr (by simp only[qLa];omega),qS]
 .unfold splice;have j:(cs.take (o+vs.length)++f++cs.drop (o+vs.length+f.length)).take o=X:=by
   rw[qS,zU (by simp only[qA];omega),List.take_take,ji (by omega),h]
  have y:(cs.take (o+vs.length)++f++cs.drop (o+vs.length+f.length)).drop (o+vs.length)=f++cs.drop (o+vs.length+f.length):=by
   rw[qS];exact List.drop_left' (by simp only[qA];omega)
  rw[j,y,←qS,zU (by simp only[qLa];omega),qr (by simp only[qLa];omega),qS]
set_option maxHeartbeats 1000000 in
theorem insertM_run{ρ:Ren}{c bytes:Nat}{zc:Array tW}(L:InsL P ρ c bytes zc){n m:Nat}{X Y:tL tW}{A:tO Addr}{cap vb vc:Nat}{i:Nat}(hx:RowC w (ρ.t 9) c n X A cap)(hy:RowC w (ρ.t 9) c m Y (some ⟨vb,0,none⟩) vc)(ZO:∀v∈X,v.oneCell'=true)(Z:∀v∈Y,v.oneCell'=true)(hm:0<m)(hi:i<=n)(V:(n+m)*bytes<=140737488355328)(U:n+m<=maxLen)(hap:¬bX_ A vb) :
  Ret P (ρ.f 22) #[.slice A n cap,.int .i64 (i:Int),.slice (some ⟨vb,0,none⟩) m vc] w λv w'=>∃A' cap',v = .slice A' (n+m) cap'/\RowC w' (ρ.t 9) c (n+m) (X.take (i*c)++(Y++X.drop (i*c))) A' cap'/\Grow w w'/\(∀k,k<w.heap.size->¬bX_ A k->w'.heap[k]? = w.heap[k]?)/\∀k,bX_ A' k->bX_ A k\/w.heap.size<=k:=by
 have u:=hx.len;have s:=hy.len;have J:=λj v (h:Y[j]? = some v)=>hy.cell h
 have e1:(n+m)*c=n*c+m*c:=jx _ _ _;have e2:(i+m)*c=i*c+m*c:=jx _ _ _;have e4:i*c<=n*c:=qu _ hi;have ZN:n+m<=9223372036854775807:=by unfold maxLen at U;omega
 have ZV:∀k,(Builtin.zeroCells zc k).size=k*c:=λk=>by simp[Builtin.zeroCells,L.zs]
 have ZY:∀k,(Builtin.zeroCells zc k).toList.length=k*c:=λk=>by rw[qq,ZV]
 rcases hx with⟨rfl,rfl,rfl,rfl⟩|⟨b,cs,rfl,hh,h1,h2,h3,h4⟩
 .obtain rfl:i=0:=by omega
  have:=oY_ L none 0 0 vb 0 m vc [] Y w hm (qE _) (by omega) V ZN (by simp) s (λ_=>rfl) (λ_ h=>nomatch h) J Z;obtain⟨G,hG⟩:∃G,G=grownCap w (0+m) 0 (ρ.t 9):=⟨_,rfl⟩;have C:0+m<=G:=by rw[hG];exact grownCap_ge w _ _ _
  have ZZ:G<=maxLen:=by rw[hG];exact grownCap_le_maxLen _ _ _ _ U
  rw[←hG]at this;have f1:(G-(0+m))*c=G*c-(0+m)*c:=jv _ _ _;have f2:(0+m)*c<=G*c:=qu _ C;refine Calls.mono this λe w' ⟨he,F⟩=>⟨_,he,some ⟨w.heap.size,0,none⟩,G,rfl,?_,?_,λk x _ => ?_,λk ⟨a,ha,x⟩ => ?_⟩
  .subst F;refine .inr ⟨w.heap.size,Y++(Builtin.zeroCells zc (G-(0+m))).toList,rfl,?_,C,ZZ,?_,?_⟩
   .refine(MapKept.heap_alloc w.drew _).1.trans ?_
    congr 3;apply Array.ext';simp
   .rw[qLa,ZY,s,f1];omega
   .rw[zU (by rw[s];omega),qr (by rw[s];omega)];simp
  .subst F;exact rC_ _
  .subst F;exact(MapKept.heap_alloc w.drew _).2 k x
  .obtain rfl:=qSj ha;exact .inr (by subst x;exact qE _)
 .have ZC:b<w.heap.size:=by
   rcases qR b w.heap.size with h'|h'
   .exact h'
   .rw[zJ h']at hh;cases hh
  have ZW:∀j v,X[j]? = some v->w.cell? ⟨b,0+j,none⟩=some v:=λj v h=>RowC.cell (.inr ⟨b,cs,rfl,hh,h1,h2,h3,h4⟩) h
  have ZL:vb≠b:=λh=>hap ⟨_,rfl,h⟩
  have M:∀j,j<cap*c->(w.cell? ⟨b,0+j,none⟩).isSome=true:=λj hj=>by
   rw[qh,row_cell hh,qY (by omega)];rfl
  have ZP:∀j,w.frozen? ⟨b,j,none⟩=false:=λj=>row_free hh j
  have ZQ:∀{w':tS},(∀k,k≠b->w'.heap[k]? = w.heap[k]?)->∀k,k<w.heap.size->¬bX_ (some ⟨b,0,none⟩) k->w'.heap[k]? = w.heap[k]? := λh k _ x=>h k λe=>x ⟨_,rfl,e⟩
  have D:cap<=9223372036854775807:=by unfold maxLen at h2;omega
  have ZK:cs.take (i*c)=X.take (i*c):=by rw[←h4,List.take_take,ji e4]
  have y:(X.drop (i*c)).length=n*c-i*c:=by rw[qC,u]
  rcases qR i n with ZR|ZD
  .rcases qR cap (n+m)with p|p
   .have:=ins_grow L b 0 n cap i vb 0 m vc X Y w ZR hm h1 p V U u s ZW J ZO Z;obtain⟨G,hG⟩:∃G,G=grownCap w (n+m) cap (ρ.t 9):=⟨_,rfl⟩;have C:n+m<=G:=by rw[hG];exact grownCap_ge w _ _ _
    have ZZ:G<=maxLen:=by rw[hG];exact grownCap_le_maxLen _ _ _ _ U
    rw[←hG]at this;have f1:(G-(n+m))*c=G*c-(n+m)*c:=jv _ _ _;have f2:(n+m)*c<=G*c:=qu _ C;have f3:(n+m-i)*c=(n+m)*c-i*c:=jv _ _ _;obtain⟨row,O⟩:∃row:tL tW,row.toArray=(X.take (i*c)).toArray++Builtin.zeroCells zc (n+m-i)++Builtin.zeroCells zc (G-(n+m)):=⟨_,zN⟩;have ZI:row.length=G*c:=by
     have:=qa Array.size O;simp only[jA,Array.size_append,qA,u,ZV,f1,f3]at this;omega
    have ZJ:row.take (i*c)=X.take (i*c):=by
     have:=qa Array.toList O;simp only[Array.toList_append,qS]at this;rw[this,zU (by simp only[qA,u];omega),qr (by simp only[qA,u];omega)]
    rw[←O]at this;refine Calls.mono this λe w' ⟨he,F⟩ => ?_
    have a1:=MapKept.heap_alloc w (.cells row.toArray (ρ.t 9));obtain⟨a2,a3,a4⟩:=fq_ (b:=w.heap.size) (e:=ρ.t 9) Y (i*c) row ((w.alloc (.cells row.toArray (ρ.t 9))).drew) a1.1 (by omega);obtain⟨a5,a6,a7⟩:=fq_ (b:=w.heap.size) (e:=ρ.t 9) (X.drop (i*c)) ((i+m)*c) _ (((w.alloc (.cells row.toArray (ρ.t 9))).drew.setCells w.heap.size (i*c) Y).drew) a2 (by rw[d0_ (by omega),y];omega);rw[←F]at a5 a6 a7;refine⟨_,he,some ⟨w.heap.size,0,none⟩,G,rfl,.inr ⟨w.heap.size,_,rfl,a5,C,ZZ,?_,?_⟩,?_,λk x _ => ?_,λk ⟨a,ha,x⟩ => ?_⟩
    .rw[d0_ (by rw[d0_ (by omega),y];omega),d0_ (by omega),ZI]
    .exact(rD_ (by omega) (by rw[y];omega) (by omega) ZJ).1
    .exact(Grow.of_below (Ext.one w _).below).trans ((show Grow (w.alloc _) (w.alloc _).drew from⟨rfl,rfl,rfl,qE _⟩).trans (a3.trans ((show Grow (World.setCells _ _ _ _) (World.setCells _ _ _ _).drew from⟨rfl,rfl,rfl,qE _⟩).trans a6)))
    .have ZS:k≠w.heap.size:=by omega
     exact(a7 k ZS).trans ((a4 k ZS).trans (a1.2 k x))
    .obtain rfl:=qSj ha;exact .inr (by subst x;exact qE _)
   .have ZH:(n+m)*c<=cap*c:=qu _ p;have ZM:=hy;rcases ZM with⟨h,_⟩|⟨vb',vs,e0,ZU,v1,v2,v3,v4⟩
    .cases h
    .injection e0 with e0;injection e0 with e0;subst e0;have ZT:∀{q:Nat} {l:tL tW},w.heap[q]? = some (.cells l.toArray (ρ.t 9) (0,0))->w.shape? q=some (ρ.t 9,l.length):=λh=>by unfold World.shape?;simp[h]
     have ZX:∀j,w.frozen? ⟨vb,j,none⟩=false:=λj=>row_free ZU j
     have ZG:=L.c0;have e5:0<m*c:=Nat.mul_pos hm ZG;have:=ins_shift L b 0 n cap i vb 0 m vc X Y w ZR hm p D ZL u s ZW (λj hj=>M j (by omega)) (λj _=>ZP _) J ZO Z _ _ _ _ (ZT ZU) (ZT hh) (by omega) (ZX _) (ZX _);refine Calls.mono this λe w' ⟨he,F⟩ => ?_
     obtain⟨a2,a3,a4⟩:=fq_ (b:=b) (e:=ρ.t 9) (X.drop (i*c)) (0+(i+m)*c) cs w.drew hh (by rw[y];omega);obtain⟨a5,a6,a7⟩:=fq_ (b:=b) (e:=ρ.t 9) Y (0+i*c) _ _ a2 (by rw[d0_ (by rw[y];omega)];omega);rw[←F]at a5 a6 a7;rw[qh,qh]at a5;refine⟨_,he,some ⟨b,0,none⟩,cap,rfl,.inr ⟨b,_,rfl,a5,p,h2,?_,?_⟩,?_,ZQ λk x => ?_,λk x => .inl x⟩
     .rw[d0_ (by rw[d0_ (by rw[y];omega)];omega),d0_ (by rw[y];omega),h3]
     .exact(rD_ (by omega) (by rw[y];omega) (by omega) ZK).2
     .exact(show Grow w w.drew from⟨rfl,rfl,rfl,qE _⟩).trans (a3.trans a6)
     .exact(a7 k x).trans (a4 k x)
  .obtain rfl:i=n:=by omega
   have ZE:X.take (i*c)=X:=qr (by omega);have ZF:X.drop (i*c)=[]:=zi (by omega);rw[ZE,ZF,zP];rcases qR cap (i+m)with p|p
   .have:=oY_ L (some ⟨b,0,none⟩) i cap vb 0 m vc X Y w hm h1 p V ZN u s (λh=>nomatch h) (λa ha j v hj=>by obtain rfl:=qSj ha;rw[Addr.add_lit];exact ZW j v hj) J Z;obtain⟨G,hG⟩:∃G,G=grownCap w (i+m) cap (ρ.t 9):=⟨_,rfl⟩;have C:i+m<=G:=by rw[hG];exact grownCap_ge w _ _ _
    have ZZ:G<=maxLen:=by rw[hG];exact grownCap_le_maxLen _ _ _ _ U
    rw[←hG]at this;have f1:(G-(i+m))*c=G*c-(i+m)*c:=jv _ _ _;have f2:(i+m)*c<=G*c:=qu _ C;refine Calls.mono this λe w' ⟨he,F⟩=>⟨_,he,some ⟨w.heap.size,0,none⟩,G,rfl,?_,?_,λk x _ => ?_,λk ⟨a,ha,x⟩ => ?_⟩
    .subst F;refine .inr ⟨w.heap.size,X++Y++(Builtin.zeroCells zc (G-(i+m))).toList,rfl,?_,C,ZZ,?_,?_⟩
     .refine(MapKept.heap_alloc w.drew _).1.trans ?_
      congr 3;apply Array.ext';simp
     .rw[qLa,qLa,ZY,s,u,f1];omega
     .rw[zU (by rw[qLa,s,u];omega),qr (by rw[qLa,s,u];omega)]
    .subst F;exact rC_ _
    .subst F;exact(MapKept.heap_alloc w.drew _).2 k x
    .obtain rfl:=qSj ha;exact .inr (by subst x;exact qE _)
   .have ZH:(i+m)*c<=cap*c:=qu _ p;have:=ins_end_room L b 0 i cap vb 0 m vc Y w hm p D s (λj hj=>by rw[zG];exact M _ (by omega)) (λj _=>ZP _) J Z;refine Calls.mono this λe w' ⟨he,F⟩ => ?_
    obtain⟨a2,a3,a4⟩:=fq_ (b:=b) (e:=ρ.t 9) Y (0+i*c) cs w hh (by omega);rw[←F]at a2 a3 a4;rw[qh]at a2;refine⟨_,he,some ⟨b,0,none⟩,cap,rfl,.inr ⟨b,_,rfl,a2,p,h2,?_,?_⟩,a3,ZQ a4,λk x => .inl x⟩
    .rw[d0_ (by omega),h3]
    .unfold splice;rw[zU (by simp only[qLa,qA];omega),qr (by simp only[qLa,qA];omega),h4]
theorem rowC_of{id:Nat}{e:tN}{t:Ty}{xs:tL (Den E.S t)}{c:Nat}(h:ObjR P E z g w id (.row e t xs []))(U:E.size t=c) :
  ∃l rows,g id=some l/\l.n=xs.length/\RowC w e c xs.length rows.flatten l.A l.cap/\rows.length=xs.length/\(∀r∈rows,r.length=c)/\Rows E z t xs rows:=by
 obtain⟨l,rows,V,x,C,f,q,p,j,_⟩:=h;rw[C]at f p;rw[U]at f p;refine⟨l,rows,V,x,?_,q.trans x,p,j⟩;rcases f.2 with⟨s,J⟩|⟨b,cap,cur,s,_,M,G,O,y,u⟩
 .injection s with F Y D;have:rows=[]:=zI.1 (by omega);exact .inl ⟨F,D,by omega,by rw[this];rfl⟩
 .injection s with F _ D;exact .inr ⟨b,cur.toList,F,by simpa using M,by omega,by omega,by simpa[D]using y,by rw[←x];exact u⟩
theorem rowC_mk{id:Nat}{e:tN}{t:Ty}{xs:tL (Den E.S t)}{c cap:Nat}{A:tO Addr}{rows:tL (tL tW)}(h:RowC w e c xs.length rows.flatten A cap)(x:g id=some ⟨A,xs.length,cap,c,0,0⟩)(y:E.size t=c)(s:rows.length=xs.length)(hr:∀r∈rows,r.length=c)(f:Rows E z t xs rows) :
  ObjR P E z g w id (.row e t xs []):=by
 refine⟨_,rows,x,rfl,y.symm,⟨h.len ▸ ?_,?_⟩,s,hr,f,λp q=>nomatch q⟩
 .rfl
 .rcases h with⟨rfl,rfl,j,_⟩|⟨b,cs,rfl,u,G,F,D,C⟩
  .exact .inl ⟨by rw[j],j⟩
  .exact .inr ⟨b,cap,cs.toArray,rfl,qO _,u,G,F,by simpa using D,C⟩
def conInsM(E:TE)(t:Ty)(e:tN)(bytes:Nat):Con E:=ag_ E [.g (.sl t) [some e],.d (.int .i64),.g (.sl t) [some e]] [(.sl t,[some e])] true λa=>insN (α:=Den E.S t) bytes a.1 a.2.1 a.2.2.1
theorem conInsM_ok{ρ:Ren}{c bytes:Nat}{zc:Array tW}{t:Ty}(L:InsL P ρ c bytes zc)(ZK:0<bytes)(M:E.size t=c):Con.OK P E (ρ.f 22) (conInsM E t (ρ.t 9) bytes):=by
 intro R a k r hr;obtain⟨y,h1,h2⟩:=bind_some hr;refine⟨_,_,h2,?_⟩;obtain⟨xs,i,F,u⟩:=a;obtain⟨hm,ZO,ZD,ZX,rfl⟩:=insN_some (show insN (α:=Den E.S t) bytes xs i F=some y from h1);intro w z g Bs svs vs ZI hH ZY J;obtain rfl:=qSj (show some [V1.one (.own 0),.one (.dt (.int .i64) i),.one (.own 1)]=some svs from ZI);cases J with
 | cons v1 J=>cases J with
  | cons v2 J=>cases J with
   | cons v3 J =>
    cases J
    have hx:=hH.hold 0 (.row (ρ.t 9) t xs []) rfl;have hy:=hH.hold 1 (.row (ρ.t 9) t F []) rfl;obtain⟨l0,rows,g0,n0,r0,ZR,D,s⟩:=rowC_of hx M;obtain⟨l1,news,g1,n1,r1,ZZ,Y,x⟩:=rowC_of hy M;obtain⟨ZE,e0,rfl⟩:=v1;rw[g0]at e0;obtain rfl:=qSj e0;obtain⟨ZF,e1,rfl⟩:=v3;rw[g1]at e1;obtain rfl:=qSj e1;obtain⟨ZG,e2,_⟩:=RD.int_inv (show RD E z [.int .i64] (i,()) _ from v2);obtain⟨rfl,_⟩:=List.cons.inj e2;obtain⟨i,rfl⟩:∃q:Nat,i=(q:Int):=⟨Int.toNat i,(Int.toNat_of_nonneg ZO).symm⟩;simp only[qTn];have ZP:i<=xs.length:=by omega
    have ZS:xs.length+F.length<=maxLen:=by
     have:xs.length+F.length<=(xs.length+F.length)*bytes:=Nat.le_mul_of_pos_right _ ZK;unfold maxLen;omega
    rcases r1 with⟨_,_,h0,_⟩|U
    .omega
    .have r1'':=U;obtain⟨vb,cs,O,_⟩:=r1'';have hap:¬bX_ l0.A vb:=λ⟨a0,ZH,ZJ⟩=>hH.apart 0 1 _ _ vb (by decide) rfl rfl ⟨l0,a0,g0,ZH,ZJ⟩ ⟨l1,_,g1,O,rfl⟩
     have V:=insertM_run L r0 (by rw[←O];exact .inr U) (lo_ (s.cells ZR).1) (lo_ (x.cells ZZ).1) hm ZP ZX ZS hap;rw[n0,n1,O];refine V.mono λv w' ⟨A',cap',ZU,Z,ZN,ZQ,ZL⟩ => ?_
     subst ZU;obtain⟨ZV,ZW⟩:=take_flatten D (i:=i) (by omega);have G:(xs.take i++(F++xs.drop i)).length=xs.length+F.length:=by simp only[qLa,qA,qC];omega
     have ZM:(rows.take i++(news++rows.drop i)).flatten=rows.flatten.take (i*c)++(news.flatten++rows.flatten.drop (i*c)):=by rw[zg,zg,ZV,ZW]
     rw[←ZM,←G]at Z;rw[←G];have ZT:Rows E z t (xs.take i++(F++xs.drop i)) (rows.take i++(news++rows.drop i)):=by
      have q1:=eT_ s 0 i;have q2:=eT_ s i xs.length;rw[zO,zO]at q1;rw[qb,qr (by omega)]at q2;exact q1.append (x.append q2 ZZ) (by simp only[qA];omega)
     refine⟨z,g.put 2 ⟨A',_,cap',c,0,0⟩,[.one (.own 2)],Fz.Le.refl z,λ_=>rfl,Ga.le_put (ZY 2 (qE _)),rfl,⟨_,Ga.put_self _ _ _,rfl⟩,?_⟩;refine hH.turn (Ga.le_put (ZY 2 (qE _))) (i:=0) (i':=2) (C:=bX_ l0.A) (λq ⟨a,ha,hq⟩=>⟨_,rfl,l0,a,g0,ha,hq⟩) ZN ZQ (o' := .row (ρ.t 9) t (xs.take i++(F++xs.drop i)) []) (rowC_mk Z (Ga.put_self _ _ _) M (by simp only[qLa,qA,qC];omega) (λr hr => ?_) ZT) (λq hq => ?_) λj o hj => ?_
     .rcases qF.1 hr with hr|hr
      .exact D r (zK hr)
      .rcases qF.1 hr with hr|hr
       .exact Y r hr
       .exact D r (jk hr)
     .obtain⟨l2,a2,h5,h6,rfl⟩:=hq;rw[Ga.put_self]at h5;obtain rfl:=qSj h5;exact ZL _ ⟨a2,h6,rfl⟩
     .rcases bi_ (H:=λ_=>none) (i:=2) (p := .row (ρ.t 9) t (xs.take i++(F++xs.drop i)) []) hj with h|⟨_,h⟩
      .exact .inl h
      .cases h
end
end Rt
end Go
namespace Go.Proofs.YtfbcbakhdkppoaaGreatDoor
open Go.Rt Go.RowKit Go.Shelf
noncomputable section
def renIm:Go.Shelf.Ren:=⟨λ | 22=>243 | 29=>254 | 30=>255|n=>n,λ | 24=>163 | 9=>202 | 3=>3 | 4=>4 | 0=>0|n=>n,λ|n=>n⟩
def zeroIm:Array tW := #[.int .i64 0,.int .u8 0,.string ⟨#[]⟩,.bool false,.int .i64 0,.int .i64 0]
theorem oneIm:(zeroIm.toList.all λv=>v.oneCell')=true:=by kernel_rfl
theorem insIm:InsL Tryz.prog renIm 6 56 zeroIm:={
 mixed:=by kernel_rfl
 f22:=⟨Tryz.f243.name,by kernel_rfl,Tryz.func243.trans (qa some (by kernel_rfl))⟩
 ov:=λargs w=>run_callFunc_extern Tryz.func254 (by kernel_rfl) (by kernel_rfl) (by kernel_rfl) (e:=Extern.SlicesOverlaps.overlaps #[163,163] #[4]) (by kernel_rfl) args w
 t0:=Tryz.underlying0
 a0:=Tryz.isAgg0
 z0:=Tryz.sizeOf0
 v0:=Tryz.zeroValue0
 t3:=Tryz.underlying3
 a3:=Tryz.isAgg3
 z3:=Tryz.sizeOf3
 v3:=Tryz.zeroValue3
 t4:=Tryz.underlying4
 a4:=Tryz.isAgg4
 z4:=Tryz.sizeOf4
 v4:=Tryz.zeroValue4
 t24:=Tryz.underlying163
 a24:=Tryz.isAgg163
 z24:=Tryz.sizeOf163
 v24:=Tryz.zeroValue163
 z9:=Tryz.sizeOf202
 v9:=Tryz.zeroValue202
 i9:=by kernel_rfl
 zs:=by kernel_rfl
 c0:=by decide
 zo:=λv f=>qx.1 oneIm v f }
def oZ_:Con te:=conInsM te (.st 6) 202 56
theorem m6_:Con.OK Tryz.prog te 243 oZ_/\c3_ Tryz.prog 243=true:=by
 refine⟨?_,by kernel_rfl⟩;exact conInsM_ok (E:=te) (t := .st 6) insIm (by decide) (by kernel_rfl)
end
end Go.Proofs.YtfbcbakhdkppoaaGreatDoor
namespace Go.Proofs
open Go.Shelf
def Tryz.laysIndex_ren:Go.Shelf.Ren:=⟨λ | 219=>185 | 217=>220 | 225=>221 | 224=>222 | 267=>223 | 266=>247 | 314=>248|n=>n,λ | 9=>9 | 3=>3 | 4=>4 | 5=>5 | 46=>105 | 146=>272 | 51=>145|n=>n,λ | 1=>0|n=>n⟩
theorem Tryz.laysIndex:Go.Proofs.Lays.n219 Tryz.prog Tryz.laysIndex_ren:={
 mixed:=by kernel_rfl
 f217:=Tryz.func220.trans (qa some (by kernel_rfl))
 f219:=Tryz.func185.trans (qa some (by kernel_rfl))
 f224:=Tryz.func222.trans (qa some (by kernel_rfl))
 f225:=Tryz.func221.trans (qa some (by kernel_rfl))
 f266:=Tryz.func247.trans (qa some (by kernel_rfl))
 f267:=Tryz.func223.trans (qa some (by kernel_rfl))
 f314:=Tryz.func248.trans (qa some (by kernel_rfl))
 t3:=Tryz.underlying3
 a3:=Tryz.isAgg3
 z3:=Tryz.sizeOf3
 v3:=Tryz.zeroValue3
 t4:=Tryz.underlying4
 a4:=Tryz.isAgg4
 z4:=Tryz.sizeOf4
 v4:=Tryz.zeroValue4
 t5:=Tryz.underlying5
 a5:=Tryz.isAgg5
 z5:=Tryz.sizeOf5
 v5:=Tryz.zeroValue5
 t9:=Tryz.underlying9
 a9:=Tryz.isAgg9
 z9:=Tryz.sizeOf9
 v9:=Tryz.zeroValue9
 t46:=Tryz.underlying105
 a46:=Tryz.isAgg105
 z46:=Tryz.sizeOf105
 v46:=Tryz.zeroValue105
 t51:=Tryz.underlying145
 a51:=Tryz.isAgg145
 z51:=Tryz.sizeOf145
 v51:=Tryz.zeroValue145
 t146:=Tryz.underlying272
 a146:=Tryz.isAgg272
 z146:=Tryz.sizeOf272
 v146:=Tryz.zeroValue272
 g1:=by kernel_rfl }
end Go.Proofs
namespace Go.Proofs.YtfbcbakhdkppoaaGreatDoor
open Go.Shelf Go.RowKit Go.Rt
theorem fIndex:Tryz.laysIndex_ren.f 219=185:=by kernel_rfl
theorem rE_:∀(s:tX) (c:UInt8),dI_ s c=Lib.indexByte s c
 | [],_=>rfl
 | b::l,c=>by simp only[dI_,Lib.indexByte,rE_ l c]
theorem W_Index(x0 x1:tX)(r:Int)(f:stringslite_Index x0 x1=some r)(w0:tS):Ret Tryz.prog 185 #[S x0,S x1] w0 λv w=>v = .int .i64 r/\Ext w0 w:=by
 unfold stringslite_Index at f;split at f
 .rename_i c;simp only[qOi]at f;subst f;have h:=Any.stringslite_Index_one Tryz.laysIndex ⟨x0.toArray⟩ c w0;rw[fIndex]at h;refine Calls.mono h λe w ⟨j,p⟩=>⟨_,j,?_,?_⟩
  .simp[rE_]
  .subst p;exact Ext.refl _
 .cases f
def m7_:Con te:=ag_ te [.d .str,.d .str] [(.int .i64,[])] false λa=>stringslite_Index a.1 a.2.1
theorem gx_:Con.OK Tryz.prog te 185 m7_/\c3_ Tryz.prog 185=true:=by
 refine⟨λR a k r hr => ?_,by kernel_rfl⟩;obtain⟨y,h,f⟩:=bind_some hr;exact⟨_,_,f,mx_ (y:=y) rfl rfl rfl rfl rfl λw=>W_Index a.1 a.2.1 y h w⟩
end Go.Proofs.YtfbcbakhdkppoaaGreatDoor
namespace Go.Proofs
open Go.Shelf
def Tryz.laysBString_ren:Go.Shelf.Ren:=⟨λ | 169=>72|n=>n,λ | 70=>107 | 9=>9 | 0=>0 | 72=>110 | 37=>108 | 127=>148 | 3=>3 | 5=>5|n=>n,λ|n=>n⟩
theorem Tryz.laysBString:Go.Proofs.Lays.n169 Tryz.prog Tryz.laysBString_ren:={
 mixed:=by kernel_rfl
 f169:=Tryz.func72.trans (qa some (by kernel_rfl))
 t0:=Tryz.underlying0
 a0:=Tryz.isAgg0
 z0:=Tryz.sizeOf0
 v0:=Tryz.zeroValue0
 t3:=Tryz.underlying3
 a3:=Tryz.isAgg3
 z3:=Tryz.sizeOf3
 v3:=Tryz.zeroValue3
 t9:=Tryz.underlying9
 a9:=Tryz.isAgg9
 z9:=Tryz.sizeOf9
 v9:=Tryz.zeroValue9
 t37:=Tryz.underlying108
 a37:=Tryz.isAgg108
 z37:=Tryz.sizeOf108
 v37:=Tryz.zeroValue108
 t70:=Tryz.underlying107
 a70:=Tryz.isAgg107
 z70:=Tryz.sizeOf107
 v70:=Tryz.zeroValue107
 t72:=Tryz.underlying110
 a72:=Tryz.isAgg110
 z72:=Tryz.sizeOf110
 v72:=Tryz.zeroValue110
 t127:=Tryz.underlying148
 a127:=Tryz.isAgg148
 z127:=Tryz.sizeOf148
 v127:=Tryz.zeroValue148 }
end Go.Proofs
namespace Go
namespace Rt
open Go.RowKit Go.Proofs
section
variable{P:tT}{E:TE}{z:Fz}{g:Ga}{w w' w0:tS}{Bs:tL Nat}{F0:Nat->Prop}{H H':Nat->tO (Obj E)}
theorem HR.gone(h:HR P E Bs F0 w0 w z g H){C:Nat->Prop}(M:∀k,C k->∃i o,H i=some o/\fpO g i o k/\H' i=none)
  (U:Grow w w') (J:∀k,k<w.heap.size->¬C k->w'.heap[k]? = w.heap[k]?) (s:∀j o,H' j=some o->H j=some o):HR P E Bs F0 w0 w' z g H':=by
 have bM_:∀k,C k->w0.heap.size<=k\/k∈Bs:=λk q=>by obtain⟨i,o,f,y,_⟩:=M k q;exact h.own i o k f y
 have far:∀j o k,H' j=some o->fpO g j o k->¬C k:=λj o k e V q=>by
  obtain⟨i,p,f,y,Y⟩:=M k q;exact h.apart j i o p k (λej=>by rw[ej,Y]at e;cases e) (s j o e) f V y
 have fzC:∀k,z.F k->¬C k:=λk D q=>by obtain⟨i,o,f,y,_⟩:=M k q;exact h.fza i o k f y D
 refine⟨⟨h.chg.grow.trans U,λk u G=>(J k (zf u h.size) λq => ?_).trans (h.chg.block k u G)⟩,λj o e => ?_,λj o k e=>h.own j o k (s j o e),λj O o p k G e Z=>h.apart j O o p k G (s j o e) (s O p Z),λk D => ?_,h.fz0,λj o k e=>h.fza j o k (s j o e),h.gl⟩
 .rcases bM_ k q with f|f
  .omega
  .exact G f
 .exact(h.hold j o (s j o e)).keep (Fz.Le.refl z) (Ga.Le.refl g) λk x=>J k ((h.hold j o (s j o e)).lt x) (far j o k e x)
 .have:=h.fz k D;exact⟨zf this.1 U.size,(J k this.1 (fzC k D)).trans this.2⟩
end
end Rt
end Go
namespace Go.Proofs
open Go.Shelf
def Tryz.laysCC_ren:Go.Shelf.Ren:=⟨λ | 240=>114 | 276=>148|n=>n,λ | 0=>0 | 4=>4 | 9=>9 | 20=>20 | 37=>108 | 70=>107 | 72=>110 | 164=>179|n=>n,λ|n=>n⟩
theorem Tryz.laysCC:Go.Proofs.Lays.n240 Tryz.prog Tryz.laysCC_ren:={
 mixed:=by kernel_rfl
 f240:=Tryz.func114.trans (qa some (by kernel_rfl))
 f276:=Tryz.func148.trans (qa some (by kernel_rfl))
 t0:=Tryz.underlying0
 a0:=Tryz.isAgg0
 z0:=Tryz.sizeOf0
 v0:=Tryz.zeroValue0
 t4:=Tryz.underlying4
 a4:=Tryz.isAgg4
 z4:=Tryz.sizeOf4
 v4:=Tryz.zeroValue4
 t9:=Tryz.underlying9
 a9:=Tryz.isAgg9
 z9:=Tryz.sizeOf9
 v9:=Tryz.zeroValue9
 t20:=Tryz.underlying20
 a20:=Tryz.isAgg20
 z20:=Tryz.sizeOf20
 v20:=Tryz.zeroValue20
 t70:=Tryz.underlying107
 a70:=Tryz.isAgg107
 z70:=Tryz.sizeOf107
 v70:=Tryz.zeroValue107
 t72:=Tryz.underlying110
 a72:=Tryz.isAgg110
 z72:=Tryz.sizeOf110
 v72:=Tryz.zeroValue110
 t164:=Tryz.underlying179
 a164:=Tryz.isAgg179
 z164:=Tryz.sizeOf179
 v164:=Tryz.zeroValue179 }
theorem Tryz.x72CC:Builder.X72 Tryz.prog Tryz.laysCC_ren where
 sizeBuilder:=by kernel_rfl
 liesBuilder:=by kernel_rfl
theorem Tryz.extraBS:Builder.Extra Tryz.prog Tryz.laysBString_ren where
 sizeBuilder:=by kernel_rfl
 liesBuilder:=by kernel_rfl
 t5:=Tryz.underlying5
 a5:=Tryz.isAgg5
 z5:=Tryz.sizeOf5
 v5:=Tryz.zeroValue5
 infoByte:=by kernel_rfl
 cellsByte:=by kernel_rfl
 sizeByte:=by kernel_rfl
 neB5:=by decide
open Go.RowKit
theorem m8_{P:tT}{w:tS}:∀(l:tL Int) (a:Addr) (acc:tQ),(∀j x,l[j]? = some x->w.cell? (a.add j)=some (.int .u8 x)) ->
  (loadBytes a acc l.length).run P w = .ok ⟨acc.data++(Rt.bytesS l).toArray⟩ w
 | [],a,acc,_=>by simp[loadBytes,Rt.bytesS]
 | x::l,a,acc,h=>by
  have s:w.cell? a=some (.int .u8 x):=by
   have:=h 0 x rfl;simpa[Addr.add]using this
  have p:=m8_ (P:=P) l (a.add 1) (acc.push x.toNat.toUInt8) (λj y q=>by
   have:=h (j+1) y (by simpa using q);have e:(a.add 1).add j=a.add (j+1):=by
    unfold Addr.add;by_cases f:j=0
    .subst f;simp
    .simp[f];omega
   rw[e];exact this)
  simp only[qLc,loadBytes,Sem.run_bind,run_load,s,Result.andThen];rw[p]
  congr 1
  apply ByteArray.ext;simp[ByteArray.push,Rt.bytesS]
theorem m9_{P:tT}{w:tS}(pt it ty e:tN)(G:P.underlying pt=some (.pointer e))(F:P.cellsOf e=1)(g cells:Nat)(C:w.shape? g=some (e,cells))(l:tL Int)(U:l≠[])(J:l.length<=cells)(O:l.length<=9223372036854775807)
  (h:∀j x,l[j]? = some x->w.cell? ((⟨g,0,none⟩:Addr).add j)=some (.int .u8 x)) :
  (Builtin.unsafeString_ #[pt,it] ty #[.pointer (some ⟨g,0,none⟩),.int .i64 l.length]).run P w = .ok (.string ⟨(Rt.bytesS l).toArray⟩) (w.freeze ⟨g,0,none⟩ l.length):=by
 have M:l.length≠0:=by simpa using U
 have D:=m8_ (P:=P) l ⟨g,0,none⟩ .empty h;have f:=Lib.liesAt_bytes (P:=P) F (cells/P.cellsOf e) l.length (by rw[F];simpa using J);have y:¬(9223372036854775807:Int)<(l.length:Int):=by omega
 have u:Builtin.unsafeString_ #[pt,it] ty #[.pointer (some ⟨g,0,none⟩),.int .i64 l.length] =
   (do
    let n ←asInt (.int .i64 l.length)
    if n < 0 then runtimePanic (.error "unsafe.String: len out of range")
    if n > IntKind.i64.max then unsupported (.unsafePointer "String: a length above the largest int")
    if n=0 then pure (.string .empty)
    else if ←variablesAt ⟨g,0,none⟩ (←elemOf pt) n.toNat then do
     let s ←loadBytes ⟨g,0,none⟩ .empty n.toNat
     freeze ⟨g,0,none⟩ n.toNat
     pure (.string s)
    else unsupported (.unsafePointer "String: not so many bytes at ptr")) := rfl
 rw[u];have q:IntKind.i64.max=9223372036854775807:=rfl;have p:¬(l.length:Int)<0:=by omega
 simp[asInt,asIntOf,q,y,p,M,variablesAt,C,elemOf,run_underlying G,f,D]
set_option maxHeartbeats 1000000 in
set_option maxRecDepth 100000 in
theorem Any.Builder_String_w{P:tT}{ρ:Ren}(L:Lays.n169 P ρ)(X:Builder.Extra P ρ)(b g cap:Nat)(p:tW)(cur:Array tW)(l:tL Int)(w:tS)(u:w.heap[b]? = some (.cells #[p,.slice (some ⟨g,0,none⟩) l.length cap] (ρ.t 72) (0,0)))(C:l≠[])
  (U:w.heap[g]? = some (.cells cur (ρ.t 5) (0,0))) (M:l.length<=cap) (s:cap<=maxLen) (V:cur.size=cap) (h:∀j x,l[j]? = some x->w.cell? ((⟨g,0,none⟩:Addr).add j)=some (.int .u8 x)) :
  Calls P (ρ.f 169) #[.pointer (some ⟨b,0,none⟩)] w λe w'=>e = .returned (.string ⟨(Rt.bytesS l).toArray⟩)/\w'=w.drew.freeze ⟨g,0,none⟩ l.length:=by
 have O:l.length≠0:=by simpa using C
 have c1:w.drew.cell? ⟨b,1,none⟩=some (.slice (some ⟨g,0,none⟩) l.length cap):=by
  have:w.drew.heap[b]? = some (.cells #[p,.slice (some ⟨g,0,none⟩) l.length cap] (ρ.t 72) (0,0)):=u;rw[Lib.cell_of_heap this];rfl
 have Z:(Builtin.unsafeSliceData_ #[(ρ.t 37)] (ρ.t 127) #[.slice (some ⟨g,0,none⟩) l.length cap]).run P w.drew = .ok (.pointer (some ⟨g,0,none⟩)) w.drew :=
  Lib.run_unsafeSliceData_row _ _ _ _ _ _ (by omega)
 have Y:(Builtin.unsafeString_ #[(ρ.t 127),(ρ.t 3)] (ρ.t 9) #[.pointer (some ⟨g,0,none⟩),.int .i64 l.length]).run P w.drew = .ok (.string ⟨(Rt.bytesS l).toArray⟩) (w.drew.freeze ⟨g,0,none⟩ l.length):=by
  refine m9_ (w:=w.drew) (ρ.t 127) (ρ.t 3) (ρ.t 9) (ρ.t 5) L.t127 X.cellsByte g cur.size (by have q:w.drew.heap[g]? = some (.cells cur (ρ.t 5) (0,0)):=U;simp[World.shape?,q]) l C (by omega) (by unfold maxLen at s;omega) ?_;intro j x J;exact h j x J
 have mixed:=L.mixed;have t72:=L.t72;have a72:=L.a72;have z72:=L.z72;have v72:=L.v72;have D:=run_underlying L.t72;have t70:=L.t70;have a70:=L.a70;have z70:=L.z70;have v70:=L.v70;have F:=run_underlying L.t70;have t37:=L.t37;have a37:=L.a37;have z37:=L.z37;have v37:=L.v37;have G:=run_underlying L.t37;have t127:=L.t127;have a127:=L.a127;have z127:=L.z127;have v127:=L.v127;have y:=run_underlying L.t127;have t3:=L.t3;have a3:=L.a3;have z3:=L.z3;have v3:=L.v3;have u3:=run_underlying L.t3;have t9:=L.t9;have a9:=L.a9;have z9:=L.z9;have v9:=L.v9;have u9:=run_underlying L.t9;have t5:=X.t5;have a5:=X.a5;have z5:=X.z5;have v5:=X.v5;have u5:=run_underlying X.t5
 go_enter L.f169,Body.n169_ntmps ρ
 go_wp2
 go_region_o
 all_goals (go_wp2;go_ret;exact⟨rfl,rfl⟩)
end Go.Proofs
namespace Go.Proofs.YtfbcbakhdkppoaaGreatDoor
open Go.RowKit Go.Rt
def dN_:InlF te:=λH _ xs _ k=>match xs with
 | [.one (.ptr id 0)]=>match H id with
  | some (.box T [.sbp id',_])=>match Nat.beq id id'&&te.sb T with
   | true=>k (some (.tup [])) []
   | false=>none
  | _=>none
 | _=>none
def fE_:InlF te:=λH _ xs _ k=>match xs with
 | [.one (.ptr id 0)]=>match H id with
  | some (.box T [.sbp id',c])=>match Nat.beq id id'&&te.sb T,c with
   | true,.nils=>k (some (.v (.one (.dt .str (bytesS []))))) [(id,none)]
   | true,.own r=>match H r with
    | some (.row e (.int .u8) xs _)=>match Nat.beq e 5 with
     | true=>k (some (.v (.one (.dt .str (bytesS xs))))) [(id,none),(r,none)]
     | false=>none
    | _=>none
   | _,_=>none
  | _=>none
 | _=>none
theorem eq_:kF_ Tryz.prog te 114 dN_/\c3_ Tryz.prog 114=true:=by
 refine⟨?_,by kernel_rfl⟩;intro z g nx H xs vs R k r Bs F0 w0 w s Y M h;unfold dN_ at h;split at h
 .rename_i id;split at h
  .rename_i T id' c hi;split at h
   .rename_i U;simp only[qAn]at U;obtain rfl:=qNb U.1;have hT:T=110:=qNb U.2;subst hT;cases M with
    | cons v1 M =>
     cases M
     obtain⟨l,q,rfl⟩:=v1;obtain⟨l',us,h2,G,F⟩:=Y.hold _ _ hi;rw[q]at h2;obtain rfl:=qSj h2;cases F with
     | cons c1 F=>cases F with
      | cons c2 F =>
       cases F
       obtain⟨l2,D,h6⟩:=c1;rw[q]at D;obtain rfl:=qSj D;rename_i u1 u2;have y:w.cell? ⟨l.b,0,none⟩=some u1:=by rw[cell_of_row w l.b 0 _ _ _ G];rfl
       rcases h6 with rfl|rfl
       .refine Calls.mono (Any.Builder_copyCheck_fresh Tryz.laysCC Tryz.x72CC l.b w y (by simp[World.shape?,G];rfl) (by unfold World.frozen?;simp only[G];simp)) λe w' ⟨O,J⟩=>⟨_,O,.tup [],[],z,g,h,Fz.Le.refl z,Ga.Le.refl g,s.succ,⟨[],rfl,.nil⟩,?_⟩
        subst J;have V:(w.setCell ⟨l.b,0,none⟩ (.pointer (some ⟨l.b,0,none⟩))).heap[l.b]? = some (.cells [.pointer (some ⟨l.b,0,none⟩),u2].toArray 110 (0,0)):=by
         unfold World.setCell;simp[zm,G]
        refine Y.turn (Ga.Le.refl g) (i:=id) (i':=id) (C:=λk=>k=l.b) (λk u=>⟨_,hi,l,q,u⟩) ⟨rfl,rfl,rfl,by simp[World.setCell]⟩ (λk _ u => ?_) (o' := .box 110 [.sbp id,c]) ?_ (λk u => ?_) λj p Z => ?_
        .unfold World.setCell;simp only[zm];rw[qP λe=>u e.symm]
        .exact⟨l,_,q,V,.cons ⟨l,q,.inr rfl⟩ (.cons c2 .nil)⟩
        .obtain⟨l2,D,rfl⟩:=u;rw[q]at D;obtain rfl:=qSj D;exact .inl rfl
        .by_cases f:j=id
         .subst f;have x:H j=some p:=Z;rw[hi]at x;exact .inl ⟨rfl,(qSj x).symm⟩
         .exact .inr ⟨f,.inl f,Z⟩
       .refine Calls.mono (Any.Builder_copyCheck_used Tryz.laysCC Tryz.x72CC l.b w y) λe w' ⟨O,J⟩=>⟨_,O,.tup [],[],z,g,h,Fz.Le.refl z,Ga.Le.refl g,s.succ,⟨[],rfl,.nil⟩,?_⟩
        subst J;exact Y
   .cases h
  .cases h
 .cases h
theorem up1{H:Nat->tO (Rt.Obj te)}{id:Nat}{j:Nat}{o:Rt.Obj te}(h:upH H [(id,none)] j=some o):j≠id/\H j=some o:=by
 simp only[upH]at h;split at h
 .cases h
 .rename_i f;refine⟨λe => ?_,h⟩;rw[e,Nat.beq_refl]at f;cases f
theorem up2{H:Nat->tO (Rt.Obj te)}{id r:Nat}{j:Nat}{o:Rt.Obj te}(h:upH H [(id,none),(r,none)] j=some o):j≠id/\j≠r/\H j=some o:=by
 simp only[upH]at h;split at h
 .cases h
 .rename_i p;split at h
  .cases h
  .rename_i f;refine⟨λe => ?_,λe => ?_,h⟩
   .rw[e,Nat.beq_refl]at p;cases p
   .rw[e,Nat.beq_refl]at f;cases f
theorem fV_ : kF_ Tryz.prog te 72 fE_/\c3_ Tryz.prog 72=true:=by
 refine⟨?_,by kernel_rfl⟩;intro z g nx H xs vs R k r Bs F0 w0 w p M hv h;unfold fE_ at h;split at h
 .rename_i id;split at h
  .rename_i T id' c hi;have ZV:∃l,g id=some l/\vs=[.pointer (some ⟨l.b,0,none⟩)]:=by
    cases hv with
    | cons v1 hv =>
     cases hv
     obtain⟨l,h1,rfl⟩:=v1;exact⟨l,h1,rfl⟩
   obtain⟨l,h1,rfl⟩:=ZV;obtain⟨l',us,h2,D,u⟩:=M.hold _ _ hi;rw[h1]at h2;obtain rfl:=qSj h2;split at h
   .rename_i hb;simp only[qAn]at hb;have hT:T=110:=qNb hb.2;subst hT;cases u with
    | cons c1 u=>cases u with
     | cons c2 u =>
      cases u
      rename_i U u2;obtain rfl:u2 = .slice none 0 0:=c2;refine Calls.mono (Any.Builder_String_nil Tryz.laysBString Tryz.extraBS w.heap.size l.b U w D) λe w' ⟨F,f⟩=>⟨_,F,_,_,z,g,h,Fz.Le.refl z,Ga.Le.refl g,(λi hi=>p i (zQ (by omega) (zQ (lu_ nx _) hi))),.str .nil,?_⟩
      exact M.gone (C:=λ_=>False) (λ_ h=>h.elim) (Grow.of_below f) (λk q _=>f.block k q) λj o s=>(up1 s).2
   .rename_i r' hb;simp only[qAn]at hb;have hT:T=110:=qNb hb.2;subst hT;split at h
    .rename_i e xs foc hr;split at h
     .rename_i ZR;obtain rfl:=qNb ZR;cases u with
      | cons c1 u=>cases u with
       | cons c2 u =>
        cases u
        rename_i U u2;obtain⟨lr,h5,rfl⟩:=c2;obtain⟨lr',rows,h6,hn,hc,V,ZN,ZM,J,_⟩:=M.hold _ _ hr;rw[h5]at h6;obtain rfl:=qSj h6;have ZU:=nk_ J (by omega);obtain⟨_,ho⟩:=V;rcases ho with⟨ho,h0⟩|⟨b,cap,cur,ZW,_,Z,Y,ZP,ZQ,G⟩
        .injection ho with e1 e2 e3;rw[e1,e2,e3]at D;have ZX:xs=[]:=zI.1 (by omega);subst ZX;refine Calls.mono (Any.Builder_String_nil Tryz.laysBString Tryz.extraBS w.heap.size l.b U w D) λe w' ⟨F,f⟩=>⟨_,F,_,_,z,g,h,Fz.Le.refl z,Ga.Le.refl g,(λi hi=>p i (zQ (by omega) (zQ (lu_ nx _) hi))),.str .nil,?_⟩
         exact M.gone (C:=λ_=>False) (λ_ h=>h.elim) (Grow.of_below f) (λk q _=>f.block k q) λj o s=>(up2 s).2.2
        .injection ZW with e1 _ e3;subst e3;rw[e1]at D;have ZL:b<w.heap.size:=by
          rcases qR b w.heap.size with O|O
          .exact O
          .rw[zJ O]at Z;cases Z
         cases xs with
         | nil =>
          have ZS:lr.n=0:=hn;rw[ZS]at D;by_cases ZY:lr.cap=0
          .rw[ZY]at D;exact Calls.mono (Any.Builder_String_noroom Tryz.laysBString Tryz.extraBS w.heap.size l.b b U cur w (qE _) D Z) λe w' ⟨F,f⟩=>⟨_,F,_,_,z,g,h,Fz.Le.refl z,Ga.Le.refl g,(λi hi=>p i (zQ (by omega) (zQ (lu_ nx _) hi))),.str .nil,M.gone (C:=λ_=>False) (λ_ h=>h.elim) (Grow.of_below f) (λk q _=>f.block k q) λj o s=>(up2 s).2.2⟩
          .exact Calls.mono (Any.Builder_String_room Tryz.laysBString Tryz.extraBS w.heap.size l.b b lr.cap U w ZY D) λe w' ⟨F,f⟩=>⟨_,F,_,_,z,g,h,Fz.Le.refl z,Ga.Le.refl g,(λi hi=>p i (zQ (by omega) (zQ (lu_ nx _) hi))),.str .nil,M.gone (C:=λ_=>False) (λ_ h=>h.elim) (Grow.of_below f) (λk q _=>f.block k q) λj o s=>(up2 s).2.2⟩
         | cons x xs =>
          have ZO:lr.c=1:=hc;rw[hn]at D G Y;rw[ZO]at G ZQ;have ZZ:∀j y,(x::xs)[j]? = some y->w.cell? ((⟨b,0,none⟩:Addr).add j)=some (.int .u8 y):=λj y hy=>by
           have s:j<(x::xs).length:=by
            rcases qR j (x::xs).length with O|O
            .exact O
            .rw[qe O]at hy;cases hy
           have e2:(⟨b,0,none⟩:Addr).add j=⟨b,j,none⟩:=by
            unfold Addr.add;by_cases h0:j=0
            .subst h0;simp
            .simp[h0]
           rw[e2,cell_of_row w b j _ _ _ Z];have e3:(cur.toList.take ((x::xs).length*1))[j]? = cur.toList[j]? := by rw[zp,qL (by omega)]
           rw[←Array.getElem?_toList,←e3,G,ZU];have e4:∀(l:tL Int),(l.map λb=>[Value.int .u8 b]).flatten=l.map λb=>Value.int .u8 b:=λl=>by
            induction l with
            | nil=>rfl
            | cons a l ih=>rw[zH,zw,ih];rfl
           rw[e4,zF,hy];rfl
          refine Calls.mono (Any.Builder_String_w Tryz.laysBString Tryz.extraBS l.b b lr.cap U cur (x::xs) w D (by simp) Z Y ZP (by omega) ZZ) λe w' ⟨F,f⟩=>⟨_,F,_,_,z,g,h,Fz.Le.refl z,Ga.Le.refl g,(λi hi=>p i (zQ (by omega) (zQ (lu_ nx _) hi))),.str .nil,?_⟩
          subst f;refine M.gone (C:=λk=>k=b) (λk q=>⟨r',_,hr,⟨lr,_,h5,e1,q⟩,?_⟩) ⟨?_,?_,?_,?_⟩ (λk q ZT => ?_) λj o s=>(up2 s).2.2
          .cases hq:upH H [(id,none),(r',none)] r' with
           | none=>rfl
           | some o=>exact absurd rfl (up2 hq).2.1
          .unfold World.freeze;split<;>rfl
          .unfold World.freeze;split<;>rfl
          .unfold World.freeze;split<;>rfl
          .unfold World.freeze;split
           .exact qE _
           .simp only[Array.size_modify];exact qE _
          .unfold World.freeze;split
           .rfl
           .simp only[zm];rw[qP λe=>ZT e.symm];rfl
     .cases h
    .cases h
   .cases h
  .cases h
 .cases h
end Go.Proofs.YtfbcbakhdkppoaaGreatDoor
namespace Go
namespace Rt
open Go.RowKit Go.Sort Go.Proofs
end Rt
end Go
namespace Go.Proofs
open Go.Shelf
def Tryz.laysSortP_ren:Go.Shelf.Ren:=⟨λ | 6=>32 | 15=>66 | 14=>65 | 28=>111 | 29=>112 | 20=>103 | 21=>104 | 22=>105 | 23=>106 | 24=>107 | 25=>108 | 26=>109 | 27=>110 | 46=>143 | 47=>144 | 48=>145 | 49=>146 | 50=>147 | 57=>181|n=>n,λ | 22=>25 | 24=>66 | 25=>73 | 3=>3 | 39=>105 | 0=>0 | 53=>145 | 55=>147 | 4=>4 | 46=>139 | 45=>138 | 50=>126 | 5=>5 | 9=>9 | 66=>173 | 70=>177 | 76=>206 | 77=>207|n=>n,λ|n=>n⟩
theorem Tryz.laysSortP:Go.Proofs.SlLaysF0.n6 Tryz.prog Tryz.laysSortP_ren:={
 mixed:=by kernel_rfl
 f6:=⟨Tryz.f32.name,by decide,Tryz.func32.trans (qa some (by kernel_rfl))⟩
 f14:=⟨Tryz.f65.name,by decide,Tryz.func65.trans (qa some (by kernel_rfl))⟩
 f15:=Tryz.func66.trans (qa some (by kernel_rfl))
 f20:=⟨Tryz.f103.name,by decide,Tryz.func103.trans (qa some (by kernel_rfl))⟩
 f21:=⟨Tryz.f104.name,by decide,Tryz.func104.trans (qa some (by kernel_rfl))⟩
 f22:=⟨Tryz.f105.name,by decide,Tryz.func105.trans (qa some (by kernel_rfl))⟩
 f23:=⟨Tryz.f106.name,by decide,Tryz.func106.trans (qa some (by kernel_rfl))⟩
 f24:=⟨Tryz.f107.name,by decide,Tryz.func107.trans (qa some (by kernel_rfl))⟩
 f25:=⟨Tryz.f108.name,by decide,Tryz.func108.trans (qa some (by kernel_rfl))⟩
 f26:=⟨Tryz.f109.name,by decide,Tryz.func109.trans (qa some (by kernel_rfl))⟩
 f27:=⟨Tryz.f110.name,by decide,Tryz.func110.trans (qa some (by kernel_rfl))⟩
 f28:=Tryz.func111.trans (qa some (by kernel_rfl))
 f29:=Tryz.func112.trans (qa some (by kernel_rfl))
 f46:=⟨Tryz.f143.name,by decide,Tryz.func143.trans (qa some (by kernel_rfl))⟩
 f47:=Tryz.func144.trans (qa some (by kernel_rfl))
 f48:=Tryz.func145.trans (qa some (by kernel_rfl))
 f49:=⟨Tryz.f146.name,by decide,Tryz.func146.trans (qa some (by kernel_rfl))⟩
 f50:=⟨Tryz.f147.name,by decide,Tryz.func147.trans (qa some (by kernel_rfl))⟩
 f57:=⟨Tryz.f181.name,by decide,Tryz.func181.trans (qa some (by kernel_rfl))⟩
 t0:=Tryz.underlying0
 a0:=Tryz.isAgg0
 z0:=Tryz.sizeOf0
 v0:=Tryz.zeroValue0
 t3:=Tryz.underlying3
 a3:=Tryz.isAgg3
 z3:=Tryz.sizeOf3
 v3:=Tryz.zeroValue3
 t4:=Tryz.underlying4
 a4:=Tryz.isAgg4
 z4:=Tryz.sizeOf4
 v4:=Tryz.zeroValue4
 t5:=Tryz.underlying5
 a5:=Tryz.isAgg5
 z5:=Tryz.sizeOf5
 v5:=Tryz.zeroValue5
 t9:=Tryz.underlying9
 a9:=Tryz.isAgg9
 z9:=Tryz.sizeOf9
 v9:=Tryz.zeroValue9
 t22:=Tryz.underlying25
 a22:=Tryz.isAgg25
 z22:=Tryz.sizeOf25
 v22:=Tryz.zeroValue25
 t25:=Tryz.underlying73
 a25:=Tryz.isAgg73
 z25:=Tryz.sizeOf73
 v25:=Tryz.zeroValue73
 t39:=Tryz.underlying105
 a39:=Tryz.isAgg105
 z39:=Tryz.sizeOf105
 v39:=Tryz.zeroValue105
 t45:=Tryz.underlying138
 a45:=Tryz.isAgg138
 z45:=Tryz.sizeOf138
 v45:=Tryz.zeroValue138
 t46:=Tryz.underlying139
 a46:=Tryz.isAgg139
 z46:=Tryz.sizeOf139
 v46:=Tryz.zeroValue139
 t50:=Tryz.underlying126
 a50:=Tryz.isAgg126
 z50:=Tryz.sizeOf126
 v50:=Tryz.zeroValue126
 t53:=Tryz.underlying145
 a53:=Tryz.isAgg145
 z53:=Tryz.sizeOf145
 v53:=Tryz.zeroValue145
 t55:=Tryz.underlying147
 a55:=Tryz.isAgg147
 z55:=Tryz.sizeOf147
 v55:=Tryz.zeroValue147
 t66:=Tryz.underlying173
 a66:=Tryz.isAgg173
 z66:=Tryz.sizeOf173
 v66:=Tryz.zeroValue173
 t70:=Tryz.underlying177
 a70:=Tryz.isAgg177
 z70:=Tryz.sizeOf177
 v70:=Tryz.zeroValue177
 t76:=Tryz.underlying206
 a76:=Tryz.isAgg206
 z76:=Tryz.sizeOf206
 v76:=Tryz.zeroValue206
 t77:=Tryz.underlying207
 a77:=Tryz.isAgg207
 z77:=Tryz.sizeOf207
 v77:=Tryz.zeroValue207 }
def Tryz.laysCmpS_ren:Go.Shelf.Ren:=⟨λ | 106=>34 | 213=>67 | 265=>113|n=>n,λ | 9=>9 | 3=>3|n=>n,λ|n=>n⟩
theorem Tryz.laysCmpS:Go.Proofs.Lays.n106 Tryz.prog Tryz.laysCmpS_ren:={
 mixed:=by kernel_rfl
 f106:=Tryz.func34.trans (qa some (by kernel_rfl))
 f213:=Tryz.func67.trans (qa some (by kernel_rfl))
 f265:=Tryz.func113.trans (qa some (by kernel_rfl))
 t3:=Tryz.underlying3
 a3:=Tryz.isAgg3
 z3:=Tryz.sizeOf3
 v3:=Tryz.zeroValue3
 t9:=Tryz.underlying9
 a9:=Tryz.isAgg9
 z9:=Tryz.sizeOf9
 v9:=Tryz.zeroValue9 }
end Go.Proofs
namespace Go
namespace Rt
open Go.RowKit Go.Sort Go.Shelf Go.Proofs
section
variable{α:Type}{enc:α->tL tW}{c:Nat}{w w':tS}
theorem ij_(f:∀x,(enc x).length=c):∀(xs:tL α),(xs.map enc).flatten.length=xs.length*c
 | []=>by simp
 | x::xs=>by rw[zH,zw,qLa,f,ij_ f xs,qLc,jc,Nat.add_comm]
theorem flatA_get[Inhabited α](j:∀x,(enc x).length=c):∀(L:tL α) (t:Nat),t<L.length*c->(L.map enc).flatten[t]? = (enc (L[t/c]?.getD default))[t%c]?
 | [],t,h=>by simp at h
 | x::L,t,h=>by
  have q:0<c:=by
   rcases zA c with p|p
   .subst p;simp at h
   .exact p
  rw[zH,zw];rcases qR t c with f|f
  .rw[zR (by rw[j];exact f),Nat.div_eq_of_lt f,Nat.mod_eq_of_lt f];rfl
  .obtain⟨u,rfl⟩:∃u,t=u+c:=⟨t-c,by omega⟩;rw[zZ (by rw[j];omega),j,Nat.add_sub_cancel,Nat.add_div_right _ q,Nat.add_mod_right,flatA_get j L u (by
    rw[qLc,jc]at h;omega)]
   rfl
theorem ol_[Inhabited α](j:∀x,(enc x).length=c)(d:Array α):flatK enc c d=(d.toList.map enc).flatten.toArray:=by
 refine Sort.ext_get! (by rw[size_flatK,←qq,←qq,List.toList_toArray,ij_ j]) λt f => ?_
 rw[size_flatK]at f;rw[get_flatK _ _ _ t f];have y:0<c:=by
  rcases zA c with q|q
  .subst q;simp at f
  .exact q
 have p:=flatA_get j d.toList t (by simpa using f);have u:t/c<d.size:=jw (by rwa [jn]at f);have C:d.toList[t/c]?.getD default=d[t/c]! := by
  rw[getElem!_pos d _ u,Array.getElem?_toList,Array.getElem?_eq_getElem u];rfl
 rw[C]at p;have s:t%c<(enc d[t/c]!).length:=by rw[j];exact Nat.mod_lt _ y
 have h:t<(d.toList.map enc).flatten.length:=by rw[ij_ j];simpa using f
 rw[getElem!_pos (enc d[t/c]!) _ s,getElem!_pos (d.toList.map enc).flatten.toArray t (by simpa using h)];rw[qY s,qY h]at p;simpa using(qSj p).symm
def RowA(enc:α->tL tW)(c:Nat)(w:tS)(e:tN)(xs:tL α)(A:tO Addr)(cap:Nat):Prop:=(A=none/\cap=0/\xs=[])\/∃b cs,A=some ⟨b,0,none⟩/\w.heap[b]? = some (.cells (cs:tL tW).toArray e (0,0))/\xs.length<=cap/\cap<=maxLen/\cs.length=cap*c/\cs.take (xs.length*c)=(xs.map enc).flatten
theorem putCellsA{β:Type}[Inhabited β](f:β->tW)(D:Array β)(cs:tL tW)(h:D.size<=cs.length):(putCells f 0 D cs.toArray).toList=D.toList.map f++cs.drop D.size:=by
 apply je;intro i;simp only[putCells,Array.toList_mapIdx,List.getElem?_mapIdx];by_cases hi:i<D.size
 .have j:i<cs.length:=by omega
  rw[zR (by simpa using hi),zF,qY j,zn,qL ⟨qO _,by omega⟩,Nat.sub_zero,getElem!_pos D i hi];simp[hi]
 .rw[zZ (by simpa using Nat.le_of_not_lt hi),zW];have p:D.size+(i-(D.toList.map f).length)=i:=by simp;omega
  rw[p];cases q:cs[i]? with
  | none=>rfl
  | some v=>rw[zn,qP (by omega)]
theorem RowA.put{e:tN}{xs zs:tL α}{b cap:Nat}(u:∀x,(enc x).length=c)(h:RowA enc c w e xs (some ⟨b,0,none⟩) cap)(U:zs.length=xs.length)(q:Nat)(os:Array Go.Obj)
  (O:w'=grow (putRow id (Go.Sort.ahead w q) b 0 (zs.map enc).flatten.toArray) os):RowA enc c w' e zs (some ⟨b,0,none⟩) cap/\Grow w w'/\(∀k,k<w.heap.size->k≠b->w'.heap[k]? = w.heap[k]?):=by
 rcases h with⟨h,_⟩|⟨b',cs,s,G,h1,h2,Z,h4⟩
 .cases h
 .injection s with s;injection s with s;subst s;have hb:b<w.heap.size:=by
   rcases qR b w.heap.size with M|M
   .exact M
   .rw[zJ M]at G;cases G
  generalize p:(zs.map enc).flatten.toArray=D at O;have V:D.size=xs.length*c:=by rw[←p,jA,ij_ u,U]
  have J:D.size<=cs.length:=by rw[V,Z];exact qu _ h1
  have j:∀(W:tS) k,k<W.heap.size->(grow W os).heap[k]? = W.heap[k]? := λW k u=>by
   show(W.heap++os)[k]? = _;rw[Array.getElem?_append_left u]
  have Y:(putRow id (Go.Sort.ahead w q) b 0 D).heap.size=w.heap.size:=by simp[putRow,mapBlock,Go.Sort.ahead]
  have C:(putRow id (Go.Sort.ahead w q) b 0 D).heap[b]? = some (.cells (putCells id 0 D cs.toArray) e (0,0)):=by
   show(mapBlock (Go.Sort.ahead w q) b (putCells id 0 D)).heap[b]? = _;unfold mapBlock;have F:(Go.Sort.ahead w q).heap[b]? = some (.cells cs.toArray e (0,0)):=G;simp only[zm,zT,F,zn,onCells]
  subst O;refine⟨.inr ⟨b,D.toList.map id++cs.drop D.size,rfl,?_,by omega,h2,?_,?_⟩,⟨rfl,rfl,rfl,?_⟩,λk u y => ?_⟩
  .rw[j _ _ (by omega),C,←putCellsA id D cs J,zN]
  .rw[qLa,ql,qC,qq];omega
  .have f:(D.toList.map id).length=zs.length*c:=by
    rw[ql,qq,V,U]
   rw[zU (Nat.le_of_eq f.symm),qr (Nat.le_of_eq f),List.map_id,←p,List.toList_toArray]
  .have h9:(grow (putRow id (Go.Sort.ahead w q) b 0 D) os).heap.size=(putRow id (Go.Sort.ahead w q) b 0 D).heap.size+os.size:=by simp[grow]
   omega
  .rw[j _ _ (by omega)];show(mapBlock (Go.Sort.ahead w q) b (putCells id 0 D)).heap[k]? = _;unfold mapBlock;simp only[zm];rw[qP λe=>y e.symm];rfl
theorem RowA.holds[Inhabited α](u:∀x,(enc x).length=c){e:tN}{xs:tL α}{b cap:Nat}(h:RowA enc c w e xs (some ⟨b,0,none⟩) cap):HoldsK enc c w b 0 xs.toArray/\b<w.heap.size:=by
 rcases h with⟨h,_⟩|⟨M,cs,j,p,J,G,F,D⟩
 .cases h
 .injection j with j;injection j with j;subst j;refine⟨?_,?_⟩
  .unfold HoldsK;rw[ol_ u];intro q C;have f:q<xs.length*c:=by
    rw[←ij_ u xs];simpa using C
   refine⟨?_,by unfold World.frozen?;simp only[p];simp⟩;rw[qh,cell_of_row w b q _ e (0,0) p];have:(cs.take (xs.length*c))[q]? = cs[q]? := by rw[zp,qL f]
   rw[ju,←this,D,getElem!_pos _ q C];have s:q<(xs.map enc).flatten.length:=by rw[ij_ u];exact f
   rw[qY s];simp
  .rcases qR b w.heap.size with y|y
   .exact y
   .rw[zJ y]at p;cases p
theorem sortA_run{P:tT}{ρ:Ren}[Inhabited α](L:SlLaysF0.n6 P ρ)(s:∀x,(enc x).length=c)(aE:∀w,(isAgg (ρ.t 24)).run P w = .ok true w)(zE:∀w,(Go.sizeOf (ρ.t 24)).run P w = .ok c w)(h1:∀x,∀v∈enc x,v.oneCell'=true)(cf:α->α->Int)(V:SWO (ltOf cf))(g:Nat)
  (eg:∀args w,(callFunc g args).run P w = .ok (.enter g args) w) (C:∀x y W,Calls P g #[.agg (enc x).toArray,.agg (enc y).toArray] W λe w'=>e = .returned (.int .i64 (cf x y))/\∃q os,w'=grow (W.drewN q) os)
  {e:tN} {xs:tL α} {A:tO Addr} {cap:Nat} (D:RowA enc c w e xs A cap) (G:xs.length<4611686018427387904) :
  Ret P (ρ.f 6) #[.slice A xs.length cap,.func (.func g) #[] #[]] w λv w'=>v = .tuple #[]/\∃zs:tL α,zs.Perm xs/\zs.Pairwise (λa b=>ltOf cf b a=false)/\RowA enc c w' e zs A cap/\Grow w w'/\∀k,k<w.heap.size->¬bX_ A k->w'.heap[k]? = w.heap[k]? := by
 cases xs with
 | nil =>
  refine Calls.mono (AnyF.slices_SortFunc_none L A cap _ w) λe w' ⟨he,p⟩=>⟨_,he,rfl,[],List.Perm.refl _,List.Pairwise.nil,?_,?_,λk _ _ => ?_⟩
  .subst p;exact D
  .subst p;exact Grow.refl _
  .subst p;rfl
 | cons x xs =>
  obtain⟨b,rfl⟩:∃b,A=some ⟨b,0,none⟩:=by
   rcases D with⟨_,_,h⟩|⟨b,_,h,_⟩
   .cases h
   .exact⟨b,h⟩
  obtain⟨hH,hb⟩:=D.holds s;have hc:CmpLays P g #[] enc c cf b 0 (x::xs).toArray.size w:=λm os dk F x y=>C x y _
  refine Calls.mono (AnyQ.slices_SortFunc_eq L c aE zE enc s h1 cf V g #[] b 0 cap (x::xs).toArray w eg hc hH hb (by simpa using G)) λe w' ⟨O,q,os,p⟩=>⟨_,O,rfl,?_⟩
  have F:=pdq_sorts (ltOf cf) V (x::xs).toArray 0 (x::xs).toArray.size (Lib.bitLen (x::xs).toArray.size) true true (qO _) (qE _) (Or.inl rfl);generalize Sort.pdq (ltOf cf) (x::xs).toArray 0 (x::xs).toArray.size (Lib.bitLen (x::xs).toArray.size) true true=d at F p;obtain⟨⟨Z,_,Y⟩,h6⟩:=F;have e1:d.extract 0 (x::xs).toArray.size=d:=by rw[←Z];simp
  have e2:(x::xs).toArray.extract 0 (x::xs).toArray.size=(x::xs).toArray:=Array.extract_size;rw[e1,e2]at Y;have U:d.toList.Perm (x::xs):=by simpa using Y
  have u:w'=grow (putRow id (Go.Sort.ahead w q) b 0 (flatK enc c d)) os:=by
   rw[p];rfl
  rw[ol_ s]at u;obtain⟨r1,r2,r3⟩:=D.put s (zs:=d.toList) U.length_eq q os u;refine⟨d.toList,U,List.pairwise_iff_getElem.2 λi j hi hj M => ?_,r1,r2,λk s hn=>r3 k s λe=>hn ⟨_,rfl,e⟩⟩;have J:j<(x::xs).toArray.size:=by rw[←Z];simpa using hj
  have:=h6 i j (qO _) M J;rw[getElem!_pos d j (by omega),getElem!_pos d i (by omega)]at this;simpa using this
end
section
variable{P:tT}{E:TE}{z:Fz}{g:Ga}{w w' w0:tS}{t:Ty}
abbrev PV(E:TE)(z:Fz)(t:Ty):={ p:Den E.S t×tL tW // RD E z (E.flat t) (E.fl t p.1) p.2 }
theorem pairs_of:∀{xs:tL (Den E.S t)} {rows:tL (tL tW)},Rows E z t xs rows->rows.length=xs.length->∃ps:tL (PV E z t),ps.map (·.1.1)=xs/\ps.map (·.1.2)=rows
 | [],[],_,_=>⟨[],rfl,rfl⟩
 | x::xs,r::rows,h,f=>by
  obtain⟨ps,u,s⟩:=pairs_of (xs:=xs) (rows:=rows) (λi y q j p=>h (i+1) y q (by simpa using j) (by simpa using p)) (by simpa using f);exact⟨⟨(x,r),h 0 x r rfl rfl⟩::ps,by simp[u],by simp[s]⟩
 | [],_::_,_,f=>by simp at f
 | _::_,[],_,f=>by simp at f
theorem rows_pairs(ps:tL (PV E z t)):Rows E z t (ps.map (·.1.1)) (ps.map (·.1.2)):=λi x r f hr=>by
 rw[zF]at f hr;cases h:ps[i]? with
 | none=>rw[h]at f;cases f
 | some p =>
  rw[h]at f hr;obtain rfl:=qSj f;obtain rfl:=qSj hr;exact p.2
end
end Rt
end Go
namespace Go.Proofs.YtfbcbakhdkppoaaGreatDoor
open Go.RowKit Go.Rt Go.Sort
theorem fSortP:Tryz.laysSortP_ren.f 6=32:=by kernel_rfl
theorem fCmpS:Tryz.laysCmpS_ren.f 106=34:=by kernel_rfl
def portN:Nat:=4
theorem p3_:∀(a b:tX),Lib.compareBytes a b<0↔Op.bytesLess a b=true
 | [],[]=>by simp[Lib.compareBytes,Op.bytesLess]
 | [],_::_=>by simp[Lib.compareBytes,Op.bytesLess]
 | _::_,[]=>by simp[Lib.compareBytes,Op.bytesLess]
 | a::x,b::y=>by
  simp only[Lib.compareBytes,Op.bytesLess];by_cases h:a<b
  .simp[h]
  .rw[qP h];by_cases f:b<a
   .have j:a≠b:=λe=>by subst e;exact UInt8.lt_irrefl _ f
    rw[qL f];simp[h,j]
   .have:a=b:=UInt8.le_antisymm (UInt8.not_lt.1 f) (UInt8.not_lt.1 h);rw[qP f,p3_ x y];simp[this]
theorem compare_lt(a b:tX):decide (Lib.compareBytes a b<0)=Op.bytesLess a b:=by
 rw[zL,decide_eq_true_iff];exact p3_ a b
section
variable{z:Fz}
theorem nS_(p:PV te z (.st 4)):∃q,p.1.2=[S (p.1.1:Xy).Xg,q,.int .i64 (p.1.1:Xy).Xc]/\bH_ p.1.2=true:=by
 obtain⟨⟨x,r⟩,h⟩:=p;have f:=RD.cells h;obtain⟨C,y,h⟩:=RD.str_inv h;obtain⟨A,cap,rows,v2,u,_,_,_,h⟩:=RD.sl_inv h;obtain⟨v3,s,h⟩:=RD.int_inv h;refine⟨.slice A (x:Xy).Xn.length cap,?_,f⟩;have j:=h.nil_inv;subst j;subst s;subst u;exact y
def cmpP(x y:PV te z (.st 4)):Int:=Lib.compareBytes (x.1.1:Xy).Xg (y.1.1:Xy).Xg
theorem cmpP_lt:ltOf (cmpP (z:=z))=λx y=>Op.bytesLess (x.1.1:Xy).Xg (y.1.1:Xy).Xg:=by
 funext x y
 exact compare_lt _ _
theorem cmpP_swo:SWO (ltOf (cmpP (z:=z))):=by
 rw[cmpP_lt];refine⟨λx=>iO_ _,λx y z=>hn_ _ _ _,λx y z h f => ?_⟩;have:=leN_trans (λs:tX=>s) _ _ _ (show leN (λs:tX=>s) _ _=true from by unfold leN;rw[f];rfl) (show leN (λs:tX=>s) _ _=true from by unfold leN;rw[h];rfl);unfold leN at this;simpa using this
set_option maxHeartbeats 4000000 in
theorem closureP(x y:PV te z (.st 4))(W:tS):Calls Tryz.prog 33 #[.agg x.1.2.toArray,.agg y.1.2.toArray] W λe w'=>e = .returned (.int .i64 (cmpP x y))/\∃q os,w'=grow (W.drewN q) os:=by
 obtain⟨D,u,_⟩:=nS_ x;obtain⟨C,s,_⟩:=nS_ y;rw[u,s];unfold cmpP;generalize(x.1.1:Xy).Xg=p;generalize(y.1.1:Xy).Xg=j;generalize(x.1.1:Xy).Xc=F;generalize(y.1.1:Xy).Xc=o2;have f:∀W,Calls Tryz.prog 34 #[S p,S j] W λe w'=>e = .returned (.int .i64 (Lib.compareBytes p j))/\w'=W:=λW=>by
  have h:=Any.strings_Compare Tryz.laysCmpS ⟨p.toArray⟩ ⟨j.toArray⟩ W;rw[fCmpS]at h;exact h
 generalize Lib.compareBytes p j=r at f ⊢
 go_enter Tryz.func33,Tryz.ntmps33
 go_wp2_with (go_at_call 34;refine(f _).mono ?_;rintro e w' ⟨rfl,rfl⟩)
 go_ret
 rw[alloc_eq_grow,alloc_eq_grow,grow_grow];exact⟨rfl,0,_,rfl⟩
end
def om_:InlF te:=λH _ xs _ k=>match xs with
 | [.one (.own id),.one (.clo g [])]=>match Nat.beq g 33,H id with
  | true,some (.row e t f _)=>match Nat.beq e 66 with
   | true=>if h:t = .st portN then Option.bind (lh_ (λ(x:Xy)=>x.Xg) (dV_ (E:=te) h f)) λzs=>k (some (.tup [])) [(id,some (.row e (.st portN) zs []))]else none
   | false=>none
  | _,_=>none
 | _=>none
theorem qz_:kF_ Tryz.prog te 32 om_/\c3_ Tryz.prog 32=true:=by
 refine⟨?_,by kernel_rfl⟩;intro z g nx H xs vs R k r Bs F0 w0 w ZR hH F h;unfold om_ at h;split at h
 .rename_i id fn;split at h
  .rename_i e t ys foc hg hi;obtain rfl:=qNb hg;split at h
   .rename_i he;obtain rfl:=qNb he;split at h
    .rename_i ht;subst ht;obtain⟨zs,hs,h⟩:=bind_some h;have G:lh_ (λ(x:Xy)=>x.Xg) ys=some zs:=hs;have ZP:ys.length<4611686018427387904:=by
      unfold lh_ at G;split at G
      .assumption
      .cases G
     obtain⟨l,rows,g0,n0,c0,ZY,O,ZL,U,_⟩:=hH.hold _ _ hi;obtain⟨ps,ZZ,M⟩:∃ps:tL (PV te z (.st 4)),ps.map (·.1.1)=ys/\ps.map (·.1.2)=rows:=pairs_of U (O.trans n0);cases F with
     | cons v1 F=>cases F with
      | cons v2 F =>
       cases F
       obtain⟨l1,e0,rfl⟩:=v1;rw[g0]at e0;obtain rfl:=qSj e0;obtain⟨us,rfl,hu⟩:=v2;cases hu
       have hk:∀x:PV te z (.st 4),x.1.2.length=3:=λx=>by
        obtain⟨q,e,_⟩:=nS_ x;rw[e];rfl
       have u:ps.length=l.n:=by rw[←O,←M,ql]
       have c3:l.c=3:=c0;have r0:RowA (λx:PV te z (.st 4)=>x.1.2) 3 w 66 ps l.A l.cap:=by
        rcases ZY.2 with⟨h2,h3⟩|⟨b,cap,cur,F,_,hh,ZQ,ZM,ZX,Y⟩
        .injection h2 with e1 e2 e3;exact .inl ⟨e1,e3,zI.1 (by omega)⟩
        .injection F with e1 _ e3;subst e3;rw[c3]at Y ZX;exact .inr ⟨b,cur.toList,e1,by simpa using hh,zQ (Nat.le_of_eq u) ZQ,ZM,by simpa using ZX,(qa (λn=>List.take (n*3) cur.toList) u).trans (Y.trans (qa List.flatten M.symm))⟩
       letI:Inhabited (PV te z (.st 4)):=⟨⟨((default:Xy),[S [],.slice none 0 0,.int .i64 0]),.str (.sl (xs:=[]) (cap:=0) (SlF.nil _ _ _ _) (qE _) (rows:=[]) (λi x r h=>by simp at h) (.int .nil))⟩⟩
       have J:=sortA_run (P:=Tryz.prog) Tryz.laysSortP hk Tryz.isAgg66 Tryz.sizeOf66 (λx v F=>by
        obtain⟨q,e,hc⟩:=nS_ x;exact fb_ hc v F) cmpP cmpP_swo 33 (enters_of Tryz.func33 (by kernel_rfl) rfl) (λx y W=>closureP x y W) r0 (by rw[u,n0];exact ZP)
       rw[fSortP,u]at J;refine Ret.mono J λv w' ⟨ZT,qs,D,f,ZS,ZN,ZO⟩ => ?_
       subst ZT;have V:qs.map (·.1.1)=zs:=by
        refine sortByN_eq G (ZZ▸D.map _) (List.pairwise_map.2 (f.imp fun{a b} ZU => ?_));rw[cmpP_lt]at ZU;show(!(Op.bytesLess (b.1.1:Xy).Xg (a.1.1:Xy).Xg))=true;have ZV:Op.bytesLess (b.1.1:Xy).Xg (a.1.1:Xy).Xg=false:=ZU;rw[ZV];rfl
       have s:qs.length=l.n:=D.length_eq.trans u;refine⟨.tup [],_,z,g,h,Fz.Le.refl z,Ga.Le.refl g,(λi hi=>ZR i (zQ (by omega) (zQ (lu_ nx _) hi))),⟨[],rfl,.nil⟩,?_⟩;refine hH.turn (Ga.Le.refl g) (i:=id) (i':=id) (C:=bX_ l.A) (λq ⟨a,ha,Z⟩=>⟨_,hi,l,a,g0,ha,Z⟩) ZN ZO (o' := .row 66 (.st 4) zs []) ⟨l,qs.map (·.1.2),g0,?_,c0,⟨?_,?_⟩,by rw[ql,s],λr hr => ?_,?_,λp hp=>nomatch hp⟩ (λq Z => ?_) λj o hj => ?_
       .rw[←V,ql,s]
       .rw[ij_ (enc:=λx:PV te z (.st 4)=>x.1.2) hk,s,c3]
       .rcases ZS with⟨hA,ZW,Z⟩|⟨b,cs,hA,hh,h1,h2,h3,h4⟩
        .have:l.n=0:=by rw[←s,Z];rfl
         exact .inl ⟨by rw[hA,ZW,this],this⟩
        .exact .inr ⟨b,l.cap,cs.toArray,by rw[hA],qO _,hh,by omega,h2,by rw[c3];simpa using h3,by rw[c3,←s];exact h4⟩
       .obtain⟨x,_,rfl⟩:=jJ.1 hr;rw[hk,c3]
       .rw[←V];exact rows_pairs qs
       .obtain⟨l2,a2,h5,h6,rfl⟩:=Z;rw[g0]at h5;obtain rfl:=qSj h5;exact .inl ⟨a2,h6,rfl⟩
       .rcases bi_ hj with h|⟨h1,h2⟩
        .exact .inl h
        .exact .inr ⟨h1,.inl h1,h2⟩
    .cases h
   .cases h
  .cases h
 .cases h
end Go.Proofs.YtfbcbakhdkppoaaGreatDoor
namespace Go.Proofs.YtfbcbakhdkppoaaGreatDoor
open Go.Rt Go.RowKit
noncomputable section
abbrev qI:Ty := .int .i64
abbrev qU:Ty := .int .u32
abbrev qJ:Ty×tL (tO Nat):=(.int .i64,[])
abbrev qB:Ty×tL (tO Nat):=(.bool,[])
def qp:Nat->Pl->Pl | 0,x=>x|n+1,x => .s .p (qp n x)
def qd(n:Nat):Pl := .dr (List.replicate n 0) [] false []
def qu2{α β ω τ:Type}(f:α->β->τ)(a:α×β×ω):τ:=f a.1 a.2.1
def qu3{α β γ ω τ:Type}(f:α->β->γ->τ)(a:α×β×γ×ω):τ:=f a.1 a.2.1 a.2.2.1
def qu4{α β γ δ ω τ:Type}(f:α->β->γ->δ->τ)(a:α×β×γ×δ×ω):τ:=f a.1 a.2.1 a.2.2.1 a.2.2.2.1
def qu6{α β γ δ ε ζ ω τ:Type}(f:α->β->γ->δ->ε->ζ->τ)(a:α×β×γ×δ×ε×ζ×ω):τ:=f a.1 a.2.1 a.2.2.1 a.2.2.2.1 a.2.2.2.2.1 a.2.2.2.2.2.1
def c_30:Con te:=ag_ te [.d .str] [qB] false λa=>fg_ a.1
theorem ok_30:OKF 30 c_30:=⟨ab_ ad_ ac_ Tryz.func30 (by kernel_rfl) (pl:=qp 2 (.s (.s .p (.lp ⟨[(32,.d qI)],[],[0,31],[],[],18011⟩ ⟨[],[],[],[],[],18011⟩ true .p)) .p)) λ_=>by kernel_rfl,by kernel_rfl⟩
def c_64:Con te:=ag_ te [.d (.sl .str),.d .str] [qJ] false (qu2 dY_)
theorem ok_64:OKF 64 c_64:=⟨ab_ ad_ ac_ Tryz.func64 (by kernel_rfl) (pl := .s .p (.s (.s .p (.lp ⟨[(8,.d qI)],[],[0,1,7],[],[],4⟩ ⟨[],[],[],[],[],4⟩ true .p)) .p)) λ_=>by kernel_rfl,by kernel_rfl⟩
def c_31:Con te:=ag_ te [.d (.sl .str),.d .str] [qB] false (qu2 aZ_)
theorem ok_31:OKF 31 c_31:=⟨ab_ ad_ (aa_ ok_64 ac_) Tryz.func31 (by kernel_rfl) (pl := .p) λ_=>by kernel_rfl,by kernel_rfl⟩
def c_10:Con te:=ag_ te [.d (.sl .str)] [(.st 5,[some 78,some 66]),qJ] true λa=>p1_ a.1
theorem ok_10:OKF 10 c_10:=⟨ab_ ad_ (aa_ ok_31 (aa_ ok_30 (cW_ qz_ ac_))) Tryz.func10 (by kernel_rfl) (pl:=qp 3 (.s (.s .p (.lp ⟨[(13,.d qI)],[(6,true,.cells 27 [.own 11,.own 12]),(11,false,.row 78 (.st 1) []),(12,false,.row 66 (.st 4) [])],[0,2,4,11,12],[0],[],13⟩ ⟨[],[(6,true,.cells 27 [.own 11,.own 12]),(11,false,.row 78 (.st 1) []),(12,false,.row 66 (.st 4) [])],[2,4],[0],[],13⟩ true .p)) .p)) λ_=>by kernel_rfl,by kernel_rfl⟩
def c_76:Con te:=ag_ te [.d (.sl (.st 0))] [(.sl (.st 0),[some 80])] false λa=>bV_ a.1
theorem ok_76:OKF 76 c_76:=⟨ab_ ad_ ac_ Tryz.func76 (by kernel_rfl) (pl := .p) λa=>(congrFun gN_ a.1).symm.trans (by kernel_rfl),by kernel_rfl⟩
def c_87:Con te:=ag_ te [.d (.sl (.st 2))] [(.sl (.st 2),[some 87])] false λa=>aN_ a.1
theorem ok_87:OKF 87 c_87:=⟨ab_ ad_ ac_ Tryz.func87 (by kernel_rfl) (pl := .p) λa=>(congrFun jb_ a.1).symm.trans (by kernel_rfl),by kernel_rfl⟩
def c_52:Con te:=ag_ te [.d (.st 3)] [(.st 3,[none,none,none,none,some 87])] false λa=>dg_ a.1
theorem ok_52:OKF 52 c_52:=⟨ab_ ad_ (aa_ ok_87 ac_) Tryz.func52 (by kernel_rfl) (pl := .p) λ_=>by kernel_rfl,by kernel_rfl⟩
def c_41:Con te:=ag_ te [.d (.st 5)] [(.st 5,[some 78,some 66])] true λa=>co_ a.1
theorem ok_41:OKF 41 c_41:=⟨ab_ ad_ (aa_ ok_52 (aa_ ok_76 ac_)) Tryz.func41 (by kernel_rfl) (pl:=qp 2 (.s (.s .p (.lp ⟨[(15,.d qI)],[(5,true,.cells 27 [.own 13,.own 14]),(13,false,.row 78 (.st 1) []),(14,false,.row 66 (.st 4) [])],[1,2,3,13,14],[0,2],[],15⟩ ⟨[],[(5,true,.cells 27 [.own 13,.own 14]),(13,false,.row 78 (.st 1) []),(14,false,.row 66 (.st 4) [])],[1,2,3],[0,2],[],15⟩ false (qp 2 (.s (.s .p (.dr [0,0,0,0,1,4,1,2,4,2] [] false [])) .p)))) (.s (.s .p (.lp ⟨[(32,.d qI)],[(5,true,.cells 27 [.own 13,.own 19]),(13,true,.row 78 (.st 1) []),(19,false,.row 66 (.st 4) [])],[2,3,30,31],[2],[],20⟩ ⟨[],[(5,true,.cells 27 [.own 13,.own 19]),(13,true,.row 78 (.st 1) []),(19,false,.row 66 (.st 4) [])],[2,3],[2],[],20⟩ false (qp 2 (.s (qp 2 (.s (.s .p (.lp ⟨[(44,.d qI)],[(32,true,.cells 66 [.v .str,.own 40,.v qI]),(40,false,.row 39 (.st 3) [])],[2,3,8,30,31,32,42,43],[2,5,13,19],[],41⟩ ⟨[],[(32,true,.cells 66 [.v .str,.own 40,.v qI]),(40,false,.row 39 (.st 3) [])],[2,3,8,30,31,32],[2,5,13,19],[],41⟩ false (qp 2 (.s (.s .p (.dr [0,0,0,1,1,2,4,2] [] false [])) .p)))) .p)) .p)))) .p))) λ_=>by kernel_rfl,by kernel_rfl⟩
def c_42:Con te:=ag_ te [.d (.st 5),.d qI] [qB] false (qu2 cN_)
theorem ok_42:OKF 42 c_42:=⟨ab_ ad_ ac_ Tryz.func42 (by kernel_rfl) (pl := .p) λ_=>by kernel_rfl,by kernel_rfl⟩
def c_208:Con te:=ag_ te [.d .str,.d .str] [qB] false (qu2 c6_)
theorem ok_208:OKF 208 c_208:=⟨ab_ ad_ ac_ Tryz.func208 (by kernel_rfl) (pl := .p) λ_=>by kernel_rfl,by kernel_rfl⟩
def c_172:Con te:=ag_ te [.d .str,.d .str] [(.str,[])] false (qu2 cZ_)
theorem ok_172:OKF 172 c_172:=⟨ab_ ad_ (aa_ ok_208 ac_) Tryz.func172 (by kernel_rfl) (pl := .p) λ_=>by kernel_rfl,by kernel_rfl⟩
def c_133:Con te:=ag_ te [.d .str,.d .str] [(.str,[])] false (qu2 strings_TrimSuffix)
theorem ok_133:OKF 133 c_133:=⟨ab_ ad_ (aa_ ok_172 ac_) Tryz.func133 (by kernel_rfl) (pl := .p) λ_=>by kernel_rfl,by kernel_rfl⟩
def c_176:Con te:=ag_ te [.d .str,.d qI] [(.sl .str,[])] false (qu2 l3_)
theorem ok_176:OKF 176 c_176:=⟨gL_ λ_=>rfl,by kernel_rfl⟩
def c_153:Con te:=ag_ te [.d .str,.d .str] [qJ] false (qu2 strings_Index)
theorem ok_153:OKF 153 c_153:=⟨ab_ ad_ (aa_ gx_ ac_) Tryz.func153 (by kernel_rfl) (pl := .p) λ_=>by kernel_rfl,by kernel_rfl⟩
def c_138:Con te:=ag_ te [.d .str,.d .str,.d qI,.d qI] [(.sl .str,[])] true (qu4 strings_genSplit)
theorem ok_138:OKF 138 c_138:=⟨ab_ ad_ (aa_ ok_153 (aa_ i4_ (aa_ ok_176 ac_))) Tryz.func138 (by kernel_rfl) (pl:=qp 3 (.j ⟨[(3,.d qI)],[],[0,1,2],[],[],5⟩ false .p (qp 4 (.s (.lp ⟨[(0,.d .str),(10,.d qI)],[(12,true,.row 9 .str [])],[1,2,3,9],[],[],19⟩ ⟨[(0,.d .str),(10,.d qI)],[(12,true,.row 9 .str [])],[9],[],[],19⟩ false .p) .p)))) λ_=>by kernel_rfl,by kernel_rfl⟩
def c_132:Con te:=ag_ te [.d .str,.d .str] [(.sl .str,[])] true (qu2 strings_Split)
theorem ok_132:OKF 132 c_132:=⟨ab_ ad_ (aa_ ok_138 ac_) Tryz.func132 (by kernel_rfl) (pl := .p) λ_=>by kernel_rfl,by kernel_rfl⟩
def c_95:Con te:=ag_ te [.d .str] [(.sl .str,[])] true λa=>ho_ a.1
theorem ok_95:OKF 95 c_95:=⟨ab_ ad_ (aa_ ok_132 (aa_ ok_133 ac_)) Tryz.func95 (by kernel_rfl) (pl := .p) λ_=>by kernel_rfl,by kernel_rfl⟩
def c_134:Con te:=ag_ te [.d .str,.d .str] [qB] false (qu2 bJ_)
theorem ok_134:OKF 134 c_134:=⟨ab_ ad_ ac_ Tryz.func134 (by kernel_rfl) (pl := .p) λ_=>by kernel_rfl,by kernel_rfl⟩
def c_96:Con te:=ag_ te [.d .str,.d .str] [qB] false (qu2 strings_HasPrefix)
theorem ok_96:OKF 96 c_96:=⟨ab_ ad_ (aa_ ok_134 ac_) Tryz.func96 (by kernel_rfl) (pl := .p) λ_=>by kernel_rfl,by kernel_rfl⟩
def c_97:Con te:=ag_ te [.d (.st 1)] [qB] false λa=>eY_ a.1
theorem ok_97:OKF 97 c_97:=⟨ab_ ad_ ac_ Tryz.func97 (by kernel_rfl) (pl := .p) λ_=>by kernel_rfl,by kernel_rfl⟩
def c_173:Con te:=ag_ te [.d .str,.d .str] [(.str,[]),(.str,[]),qB] false (qu2 c7_)
theorem ok_173:OKF 173 c_173:=⟨ab_ ad_ (aa_ gx_ ac_) Tryz.func173 (by kernel_rfl) (pl := .s .p (.s (qp 2 (.s (.s (qd 12) .p) .p)) .p)) λ_=>by kernel_rfl,by kernel_rfl⟩
def c_135:Con te:=ag_ te [.d .str,.d .str] [(.str,[]),(.str,[]),qB] false (qu2 strings_Cut)
theorem ok_135:OKF 135 c_135:=⟨ab_ ad_ (aa_ ok_173 ac_) Tryz.func135 (by kernel_rfl) (pl := .p) λ_=>by kernel_rfl,by kernel_rfl⟩
def c_98:Con te:=ag_ te [.d .str] [(.st 0,[])] false λa=>hO_ a.1
theorem ok_98:OKF 98 c_98:=⟨ab_ ad_ (aa_ ok_135 ac_) Tryz.func98 (by kernel_rfl) (pl := .p) λ_=>by kernel_rfl,by kernel_rfl⟩
def c_136:Con te:=ag_ te [.d .str] [(.sl .str,[some 9])] false λa=>eZ_ a.1
theorem ok_136:OKF 136 c_136:=⟨ab_ ad_ ac_ Tryz.func136 (by kernel_rfl) (pl := .s .p (.s (.s .p (.j ⟨[(4,.d .bool)],[],[3],[],[],2⟩ false .p .p)) .p)) λ_=>by kernel_rfl,by kernel_rfl⟩
def c_118:Con te:=ag_ te [.d .str,.d .str] [qB] false (qu2 strings_Contains)
theorem ok_118:OKF 118 c_118:=⟨ab_ ad_ (aa_ ok_153 ac_) Tryz.func118 (by kernel_rfl) (pl := .p) λ_=>by kernel_rfl,by kernel_rfl⟩
def c_174:Con te:=ag_ te [.bm 199 (.st 8) [none,none,none,some 202] false,.d (.st 6)] [qJ] false (qu2 aA_)
theorem na_:OKF 174 c_174:=⟨ab_ ad_ ac_ Tryz.func174 (by kernel_rfl) (pl := .s .p (.s (.dr [4,0,0,0,0,0,1,2,4,4,2] [0,1,2,3,4,5] false []) .p)) λ_=>by kernel_rfl,by kernel_rfl⟩
def c_241:Con te:=ag_ te [.bm 199 (.st 8) [none,none,none,some 202] false] [(.int .u8,[]),qB] false λa=>bE_ a.1
theorem ok_241:OKF 241 c_241:=⟨ab_ ad_ ac_ Tryz.func241 (by kernel_rfl) (pl := .s .p (.s (.s (qd 10) .p) (.s (qd 11) .p))) λ_=>by kernel_rfl,by kernel_rfl⟩
def c_259:Con te:=ag_ te [.bm 199 (.st 8) [none,none,none,some 202] false] [qB] false λa=>bj_ a.1
theorem ok_259:OKF 259 c_259:=⟨ab_ ad_ ac_ Tryz.func259 (by kernel_rfl) (pl := .p) λ_=>by kernel_rfl,by kernel_rfl⟩
def c_210:Con te:=ag_ te [.bm 199 (.st 8) [none,none,none,some 202] false,.d (.int .u8)] [qB] false (qu2 aS_)
theorem ok_210:OKF 210 c_210:=⟨ab_ ad_ (aa_ ok_241 ac_) Tryz.func210 (by kernel_rfl) (pl := .p) λ_=>by kernel_rfl,by kernel_rfl⟩
noncomputable abbrev fOwn:Func:=Tryz.f41
noncomputable def oC:Code:=fOwn.body.getD .skip
noncomputable def oR0:Code:=oC.lf
noncomputable def oR1:Code:=oC.rt.lf
noncomputable def oP2:Code:=oC.rt.rt.lf
noncomputable def oR7:Code:=oC.rt.rt.rt.lf.lf
noncomputable def oB2:Code:=oC.rt.rt.rt.lf.rt.lf.lf
noncomputable def oR18:Code:=oC.rt.rt.rt.rt.lf
noncomputable def oR8:Code:=oB2.lf
noncomputable def oB3:Code:=oB2.rt.rt.lf.lf
noncomputable def oR17:Code:=oB2.rt.rt.rt
noncomputable def oR9:Code:=oB3.lf
noncomputable def oR10:Code:=oB3.rt.lf
noncomputable def oP4:Code:=oB3.rt.rt.lf
noncomputable def oR16:Code:=oB3.rt.rt.rt
theorem oC_eq:fOwn.body=some (.seq oR0 (.seq oR1 (.seq oP2 (.seq (.seq oR7 (.block 2 (.loop (.seq oR8 (.seq (.cond (.tmp 33) .skip (.exit 2)) (.seq (.block 3 (.seq oR9 (.seq oR10 (.seq oP4 oR16)))) oR17)))))) (.seq oR18 .ret))))):=by kernel_rfl
theorem oR8_eq:oR8 = .region 8 [oR8.at 0].toArray false:=by kernel_rfl
theorem oR16_eq:oR16 = .region 16 [oR16.at 0,oR16.at 1,oR16.at 2,oR16.at 3,oR16.at 4,oR16.at 5,oR16.at 6].toArray false:=by kernel_rfl
theorem oR17_eq:oR17 = .region 17 [oR17.at 0,oR17.at 1].toArray false:=by kernel_rfl
theorem oR18_eq:oR18 = .region 18 [oR18.at 0,oR18.at 1].toArray false:=by kernel_rfl
noncomputable def tOwn:Tab te:=tb 52 c_52 (tb 76 c_76 dX_)
theorem jr_:tOwn.OK Tryz.prog te:=aa_ ok_52 (aa_ ok_76 ac_)
noncomputable def b0:Ba te:=⟨λ_=>none,λ_=>none,0⟩
noncomputable abbrev evO(c:Code)(pl:Pl){R:Type}(s:St te)(k:St te->tO R):tO R:=evCode Tryz.prog te eqL tOwn 64 Unit (λ_ _=>none) c pl R b0 s (thenE k) (λ_=>none)
noncomputable def oS0(x0:Xk):St te:=⟨[(0,some (.v (.agg [.dt (.sl (.st 1)) x0.Xd,.dt (.sl (.st 4)) x0.Xj])))],none,[],none,0⟩
noncomputable def oK1(s:St te):tO (tL Xw×tL Xy×tL Xy×Int×Int):=(gj_ (s.L b0 2)).bind λi=>(gj_ (s.L b0 3)).bind λj=>(svDat (.sl (.st 4)) (s.L b0 30)).bind λxs=>(svInt (s.L b0 31)).bind λn=>(svInt (s.L b0 32)).bind λm=>(obBox 27 (s.H b0 i)).bind λf=>(obBox 27 (s.H b0 j)).bind λcs=>cL_ (!(Nat.beq i j)&&Nat.beq f.length 2&&Nat.beq cs.length 2)<|(scOwn cs[0]?).bind λp=>(scOwn cs[1]?).bind λq=>(obRow 78 (.st 1) (s.H b0 p)).bind λrs=>(obRow 66 (.st 4) (s.H b0 q)).bind λps=>some (rs,ps,xs,n,m)
noncomputable def oPl2:Pl := .s .p (.lp ⟨[(15,.d (.int .i64))],[(5,true,.cells 27 [.own 13,.own 14]),(13,false,.row 78 (.st 1) []),(14,false,.row 66 (.st 4) [])],[1,2,3,13,14],[0,2],[],15⟩ ⟨[],[(5,true,.cells 27 [.own 13,.own 14]),(13,false,.row 78 (.st 1) []),(14,false,.row 66 (.st 4) [])],[1,2,3],[0,2],[],15⟩ false (.s .p (.s .p (.s (.s .p (.dr [0,0,0,0,1,4,1,2,4,2] [] false [])) .p))))
theorem oEv1(x0:Xk):(evO oR0 .p (oS0 x0) λq=>evO oR1 .p q λj=>evO oP2 oPl2 j λh=>evO oR7 .p h oK1)=(af_ (cM_ x0) BIG (0,[],[])).bind λf=>some (f.1,f.2,x0.Xj,(x0.Xj.length:Int),0):=by kernel_rfl
noncomputable def bIo:Ba te:=⟨λ_=>none,λ_=>none,3⟩
noncomputable abbrev evI(c:Code)(pl:Pl){R:Type}(s:St te)(k:St te->tO R):tO R:=evCode Tryz.prog te eqL tOwn 64 Unit (λ_ _=>none) c pl R bIo s (thenE k) (λ_=>none)
noncomputable def oSr(ports:tL Xy)(n m:Int):St te:=⟨[(2,some (.v (.one (.ptr 1 0)))),(3,some (.v (.one (.ptr 2 0)))),(30,some (.v (.one (.dt (.sl (.st 4)) ports)))),(31,some (.v (.one (.dt (.int .i64) n)))),(32,some (.v (.one (.dt (.int .i64) m))))],none,[],none,21⟩
noncomputable def oKr(s:St te):tO (tL Xy×Int×Int×tX×Int×tL Xq):=(gj_ (s.L bIo 2)).bind λi=>(gj_ (s.L bIo 3)).bind λj=>(svDat (.sl (.st 4)) (s.L bIo 30)).bind λxs=>(svInt (s.L bIo 31)).bind λn=>(svInt (s.L bIo 32)).bind λm=>(gj_ (s.L bIo 8)).bind λk=>(obBox 66 (s.H bIo k)).bind λcs=>cL_ (Nat.beq i 1&&Nat.beq j 2&&Nat.beq cs.length 3)<|(i2_ .str cs[0]?).bind λnm=>(scOwn cs[1]?).bind λq=>(i2_ (.int .i64) cs[2]?).bind λop=>(obRow 39 (.st 3) (s.H bIo q)).bind λf=>some (xs,n,m,nm,op,f)
noncomputable def oPl4:Pl := .s .p (.lp ⟨[(44,.d (.int .i64))],[(32,true,.cells 66 [.v .str,.own 40,.v (.int .i64)]),(40,false,.row 39 (.st 3) [])],[2,3,8,30,31,32,42,43],[],[1,2],41⟩ ⟨[],[(32,true,.cells 66 [.v .str,.own 40,.v (.int .i64)]),(40,false,.row 39 (.st 3) [])],[2,3,8,30,31,32],[],[1,2],41⟩ false (.s .p (.s .p (.s (.s .p (.dr [0,0,0,1,1,2,4,2] [] false [])) .p))))
theorem oEvR(ports:tL Xy)(n m:Int):(evI oR9 .p (oSr ports n m) λq=>evI oR10 .p q λj=>evI oP4 oPl4 j oKr)=(ah_ ports m).bind λf=>(af_ (dj_ f) BIG (0,f.Xg,f.Xc,[])).bind λh=>some (ports,n,m,h.1,h.2.1,h.2.2):=by kernel_rfl
end
structure HoleRows(z:Fz)(i:Nat)(ys:tL Xy)(rows:tL (tL tW))(Aq:tO Addr)(capq:Nat)(rq:tL (tL tW)):Prop where
 len:rows.length=ys.length
 other:∀(j:Nat) (x:Xy) (r:tL tW),j≠i->ys[j]? = some x->rows[j]? = some r->RD te z (te.flat (.st 4)) (te.fl (.st 4) x) r
 hole:∀x:Xy,ys[i]? = some x->rows[i]? = some [S x.Xg,.slice Aq x.Xn.length capq,.int .i64 x.Xc]/\rq.length=x.Xn.length/\Rt.Rows te z (.st 3) x.Xn rq
def OwnH(z0:Fz)(w0:tS)(i:Nat)(y:Xk)(v:tW)(w:tS):Prop:=∃z vr A cap rows Aq capq rq,Mx te z0 w0 w z [.row 66 3 A y.Xj.length cap rows,.row 39 6 Aq (rq:tL (tL tW)).length capq rq]/\v = .agg #[vr,.slice A y.Xj.length cap]/\RD te z [.sl (.st 1)] (y.Xd,()) [vr]/\HoleRows z i y.Xj rows Aq capq rq
section
variable{z0:Fz}{w0:tS}{x0:Xk}{i:Nat}
def OwnJ(z0:Fz)(w0:tS)(x0:Xk)(i h f:Nat)(v2:tL tW)(vr:tW)(rs:tL Xw)(s:Int×tL Xw×tL Xy)(a:Act)(w:tS):Prop :=
 ∃z A cap rows Aq capq rq vp,Mx te z0 w0 w z [.box h 27 v2,.box f 27 [vr,.slice A s.2.2.length cap],.row 66 3 A s.2.2.length cap rows,.row 39 6 Aq (rq:tL (tL tW)).length capq rq] /\
  Env 64 a [(2,.pointer (some ⟨h,0,none⟩)),(3,.pointer (some ⟨f,0,none⟩)),(30,vp),(31,.int .i64 (x0.Xj.length:Int)),(32,.int .i64 s.1)]/\RD te z [.sl (.st 4)] (x0.Xj,()) [vp] /\
  RD te z [.sl (.st 1)] (rs,()) [vr]/\HoleRows z i s.2.2 rows Aq capq rq/\s.2.1=rs
theorem two_list{l:tL tW}(h:l.length=2):∃u v,l=[u,v]:=by
 match l,h with
 | [u,v],_=>exact⟨u,v,rfl⟩
theorem o2_{u v:tW}(h:eF_ u=true)(f:eF_ v=true):bH_ [u,v]=true:=by simp[bH_,h,f]
set_option maxRecDepth 100000 in
theorem own_end{u G:Nat}{v2:tL tW}{vr:tW}{rs:tL Xw}{s:Int×tL Xw×tL Xy}{a:Act}{w:tS}(y:v2.length=2)(x:eF_ vr=true)(h:OwnJ z0 w0 x0 i u G v2 vr rs s a w) :
  (Code.seq oR18 .ret).wp Tryz.prog (bodyPost Tryz.prog fOwn λe w'=>∃v,e = .returned v/\OwnH z0 w0 i ⟨s.2.1,s.2.2⟩ v w') a w:=by
 obtain⟨z,A,cap,rows,Aq,capq,rq,vp,p,J,_,hr,U,O⟩:=h;rw[oR18_eq];obtain⟨Z,Y,rfl⟩:=two_list y;refine ka_ (λM w'=>Env 64 M [(2,.pointer (some ⟨u,0,none⟩))]/\Sep [] w0 w' [.ro z.F z.In,.box u 27 [vr,.slice A s.2.2.length cap],.box G 27 [vr,.slice A s.2.2.length cap],.row 66 3 A s.2.2.length cap rows,.row 39 6 Aq rq.length capq rq]) (λM w' ⟨D,j⟩ => ?_) (iG_ ?_)
 .refine wp_ret (out (N:=64) (rs:=[.cell 2 27]) (vs:=[.agg #[vr,.slice A s.2.2.length cap]]) rfl D j (.cons (.cell (i:=1) rfl rfl rfl) .nil) ?_);refine⟨z,vr,A,cap,rows,Aq,capq,rq,⟨p.le,p.gl,p.new,j.sub ?_,λr f => ?_⟩,rfl,O▸hr,U⟩
  .exact .cons_cons _ (.cons _ (.cons _ (List.Sublist.refl _)))
  .rcases qD.1 f with rfl|f
   .trivial
   .obtain rfl:=qH.1 f
    trivial
 .refine gp_ J rfl 63 rfl rfl (.agg #[vr,.slice A s.2.2.length cap]) (ld_box J p.sep 2 (by kernel_rfl:(oR18.at 0).op = .load 27 (.tmp 3)) rfl rfl rfl) λa1 q => ?_
  refine go_set (L':=[.ro z.F z.In,.box u 27 [vr,.slice A s.2.2.length cap],.box G 27 [vr,.slice A s.2.2.length cap],.row 66 3 A s.2.2.length cap rows,.row 39 6 Aq rq.length capq rq]) q p.sep rfl rfl 1 (by kernel_rfl:(oR18.at 1).op = .store 27 (.tmp 2) (.tmp 63)) rfl rfl rfl rfl rfl (o2_ x rfl) [vr,.slice A s.2.2.length cap] rfl rfl λV C => ?_
  exact⟨q.sel ⟨rfl,trivial⟩,C⟩
def gI(h f:Nat):Ga:=λj=>if j=1 then some ⟨none,0,0,0,h,0⟩else if j=2 then some ⟨none,0,0,0,f,0⟩else none
theorem two_list'{α:Type}{l:tL α}(h:l.length=2):∃u v,l=[u,v]:=by
 match l,h with
 | [u,v],_=>exact⟨u,v,rfl⟩
theorem three_list{α:Type}{l:tL α}(h:l.length=3):∃u v x,l=[u,v,x]:=by
 match l,h with
 | [u,v,x],_=>exact⟨u,v,x,rfl⟩
set_option maxRecDepth 100000 in
theorem own_round{U M:Nat}{v2:tL tW}{vr:tW}{rs:tL Xw}{s:Int×tL Xw×tL Xy}{a:Act}{w:tS}{Q:Exit->Act->tS->Prop}(_:eF_ vr=true)(hJ:OwnJ z0 w0 x0 i U M v2 vr rs s a w)
  {st:Step (Int×tL Xw×tL Xy) (tL Xw×tL Xy)} (u:ee_ x0 s=some st) (hQ:∀n a w,OwnJ z0 w0 x0 i U M v2 vr rs (n,s.2) a w->st = .done s.2->Q .normal a w) :
  (Code.seq oR8 (.seq (.cond (.tmp 33) .skip (.exit 2)) (.seq (.block 3 (.seq oR9 (.seq oR10 (.seq oP4 oR16)))) oR17))).wp Tryz.prog (Exit.then (λa' w'=>∃s',st = .next s'/\OwnJ z0 w0 x0 i U M v2 vr rs s' a' w') (Exit.inBlock 2 Q)) a w:=by
 obtain⟨z,A,cap,rows,Aq,capq,rq,vp,hM,hE,hp,hr,hh,hs⟩:=hJ;rw[oR8_eq];refine ka_ (λa' w'=>w'=w/\Env 64 a' [(33,.bool (decide (s.1<(x0.Xj.length:Int)))),(2,.pointer (some ⟨U,0,none⟩)),(3,.pointer (some ⟨M,0,none⟩)),(30,vp),(31,.int .i64 (x0.Xj.length:Int)),(32,.int .i64 s.1)]) ?_ (iG_ (im_ hE rfl 33 rfl rfl _ rfl λa1 D=>⟨rfl,D⟩))
 rintro a1 w1 ⟨rfl,D⟩;unfold ee_ at u;cases ZN:decide (s.1<(x0.Xj.length:Int))with
 | false =>
  rw[ZN]at u D;refine wp_seq (c_false D rfl rfl (wp_exit ?_));show(if 2=2 then Q .normal a1 w1 else Q (.exit 2) a1 w1);rw[qL rfl];exact hQ s.1 a1 w1 ⟨z,A,cap,rows,Aq,capq,rq,vp,hM,D.sel ⟨rfl,rfl,rfl,rfl,rfl,trivial⟩,hp,hr,hh,hs⟩ (qSj u).symm
 | true =>
  rw[ZN]at u D;obtain⟨ZR,h1,u⟩:=bind_some (show(ah_ x0.Xj s.1).bind _=some st from u);obtain⟨f,h2,u⟩:=bind_some u;obtain⟨ZS,h3,u⟩:=bind_some u;obtain rfl:=qSj u;refine wp_seq (c_true D rfl rfl (wp_skip ?_));have Zr:(evI oR9 .p (oSr x0.Xj (x0.Xj.length:Int) s.1) λs1=>evI oR10 .p s1 λs2=>evI oP4 oPl4 s2 oKr)=some (x0.Xj,(x0.Xj.length:Int),s.1,f.1,f.2.1,f.2.2):=by
   rw[oEvR,h1];show(af_ (dj_ ZR) BIG (0,ZR.Xg,ZR.Xc,[])).bind _=_;rw[h2];rfl
  have ZX:Fresh (gI U M) bIo.lo:=λj Y=>by
   have:3<=j:=Y;unfold gI;rw[qP (by omega),qP (by omega)]
  have hR:Rel Tryz.prog te [] ⟨z,gI U M,3⟩ w1 64 ((oSr x0.Xj (x0.Xj.length:Int) s.1).L bIo) ((oSr x0.Xj (x0.Xj.length:Int) s.1).H bIo) (oSr x0.Xj (x0.Xj.length:Int) s.1).nx a1 w1 :=
   hM.rel (D.sel (sl:=[(2,.pointer (some ⟨U,0,none⟩)),(3,.pointer (some ⟨M,0,none⟩)),(30,vp),(31,.int .i64 (x0.Xj.length:Int)),(32,.int .i64 s.1)]) ⟨rfl,rfl,rfl,rfl,rfl,trivial⟩)
    (.cons ⟨_,rfl,rfl⟩ (.cons ⟨_,rfl,rfl⟩ (.cons hp (.cons (.int .nil) (.cons (.int .nil) .nil))))) λj Y=>ZX j (zQ (by decide) Y)
  refine ka_ (λa' w'=>∃z' A cap rows Aq capq rq vp,Mx te z0 w0 w' z' [.box U 27 v2,.box M 27 [vr,.slice A ZS.length cap],.row 66 3 A ZS.length cap rows,.row 39 6 Aq (rq:tL (tL tW)).length capq rq] /\
   Env 64 a' [(2,.pointer (some ⟨U,0,none⟩)),(3,.pointer (some ⟨M,0,none⟩)),(30,vp),(31,.int .i64 (x0.Xj.length:Int)),(32,.int .i64 s.1)]/\RD te z' [.sl (.st 4)] (x0.Xj,()) [vp] /\
   RD te z' [.sl (.st 1)] (rs,()) [vr]/\HoleRows z' i ZS rows Aq capq rq) ?_ ?_
  .rintro a2 w2 ⟨z2,A2,cap2,rows2,YY,capq2,ZC,ZG,Zo,Zh,Zw,Zy,Zs⟩;rw[oR17_eq];refine iG_ (im_ Zh rfl 62 rfl rfl (.int .i64 (w64 (s.1+1))) rfl λa3 y => ?_);refine im_ y rfl 32 rfl rfl (.int .i64 (w64 (s.1+1))) rfl λa4 Zi => ?_
   exact⟨_,rfl,z2,A2,cap2,rows2,YY,capq2,ZC,ZG,Zo,Zi.sel ⟨rfl,rfl,rfl,rfl,rfl,trivial⟩,Zw,Zy,Zs,hs⟩
  refine wp_block ?_;refine wp_seq (frag ad_ jr_ ZX Zr hR λex s1 a2 w2 h hR => ?_);cases ex with
  | some _=>cases h
  | none =>
  refine wp_seq (frag ad_ jr_ ZX h hR λex s2 a3 w3 h hR => ?_);cases ex with
  | some _=>cases h
  | none =>
  refine wp_seq (frag ad_ jr_ ZX h hR λex s3 a4 w4 h hR => ?_);cases ex with
  | some _=>cases h
  | none =>
  show oR16.wp _ _ a4 w4
  replace h:oKr s3=some (x0.Xj,(x0.Xj.length:Int),s.1,f.1,f.2.1,f.2.2):=h;obtain⟨z3,g3,y,ZP,YT,O,ZK⟩:=hR;unfold oKr at h;obtain⟨i2,e2,h⟩:=bind_some h;obtain⟨i3,e3,h⟩:=bind_some h;obtain⟨xs,YZ,h⟩:=bind_some h;obtain⟨n,Za,h⟩:=bind_some h;obtain⟨m,Zb,h⟩:=bind_some h;obtain⟨k,e8,h⟩:=bind_some h;obtain⟨cs,ek,h⟩:=bind_some h;obtain⟨hb,h⟩:=bN_ h;obtain⟨nm,c0,h⟩:=bind_some h;obtain⟨q,c1,h⟩:=bind_some h;obtain⟨op,c2,h⟩:=bind_some h;obtain⟨qs,eq,h⟩:=bind_some h;injection qSj h with hx h;injection h with hn h;injection h with hm h;injection h with Zu h;injection h with Zv Zx;subst hx hn hm;simp only[qAn]at hb
  obtain rfl:=qNb hb.1.1;obtain rfl:=qNb hb.1.2;obtain⟨u0,u1,u2,rfl⟩:=three_list (qNb hb.2);obtain rfl:=qSj (dZ_ c0);obtain rfl:=qSj (nR_ c1);obtain rfl:=qSj (dZ_ c2);obtain⟨foc,eq⟩:=nQ_ eq;obtain⟨p2,t2,l2,Zc,rfl⟩:=y.get 2 _ (cE_ e2);obtain⟨p3,t3,l3,Zd,rfl⟩:=y.get 3 _ (cE_ e3);obtain⟨ZZ,ZD,ZY⟩:=y.get 30 _ (rz_ YZ);obtain⟨YV,ZE,ZA⟩:=y.get 31 _ (i3_ Za);obtain⟨YW,ZF,ZB⟩:=y.get 32 _ (i3_ Zb);obtain⟨p8,t8,l8,Ze,rfl⟩:=y.get 8 _ (cE_ e8);obtain rfl:=qSj ((ZK 1 _ rfl).symm.trans Zc);obtain rfl:=qSj ((ZK 2 _ rfl).symm.trans Zd);obtain⟨lk,vs,gk,G,rk⟩:=kf_ ZP (b5_ ek);obtain rfl:=qSj (Ze.symm.trans gk);obtain⟨lq,rowsq,gq,nq,lenq,ZO,resq⟩:=ma_ ZP eq
  have Z:=hM.step ZP O [(k,.box l8.b 66 vs),(q,.row 39 6 lq.A qs.length lq.cap rowsq)] (λp hp=>by
   rcases qD.1 hp with rfl|hp
   .exact⟨_,b5_ ek,rk⟩
   .obtain rfl:=qH.1 hp;exact⟨_,eq,resq⟩) (by
   have:k≠q:=λe=>by
    subst e;rw[b5_ ek]at eq;cases eq
   simp[this])
  cases G with
  | cons h0 G =>
  cases G with
  | cons Zf G =>
  cases G with
  | cons Zg G =>
  cases G
  rename_i p0 p1 p2;obtain⟨_,ev,_⟩:=RD.str_inv h0;injection ev with ev _;subst ev;obtain⟨_,ev,_⟩:=RD.int_inv Zg;injection ev with ev _;subst ev;obtain⟨lq',gq',rfl⟩:=Zf;obtain rfl:=qSj (gq.symm.trans gq');obtain⟨_,ev,_⟩:=RD.int_inv ZA;injection ev with ev _;subst ev;obtain⟨_,ev,_⟩:=RD.int_inv ZB;injection ev with ev _;subst ev;have Zn:=((((((Env.of_er y).add ZF).add ZE).add ZD).add t8).add t3).add t2;subst Zu Zv Zx;rw[nq]at Z;rw[oR16_eq];refine iG_ (im_ Zn rfl 56 rfl rfl (.pointer (some ⟨M,1,none⟩)) rfl λa5 ZH => ?_);refine gp_ ZH rfl 57 rfl rfl (.slice A s.2.2.length cap) (ld_box ZH Z.sep 4 (by kernel_rfl:(oR16.at 1).op = .load 25 (.tmp 56)) rfl rfl rfl) λa6 ZI => ?_
  refine gp_ ZI rfl 58 rfl rfl (.agg #[S f.1,.slice lq.A f.2.2.length lq.cap,.int .i64 f.2.1]) (ld_box ZI Z.sep 1 (by kernel_rfl:(oR16.at 2).op = .load 66 (.tmp 8)) rfl rfl rfl) λa7 Zj => ?_
  refine go_slice Zj Z.sep rfl 59 rfl rfl 66 3 1 [[S f.1,.slice lq.A f.2.2.length lq.cap,.int .i64 f.2.1]] (λ_=>by kernel_rfl) rfl (λr hr=>by obtain rfl:=qH.1 hr;rfl) rfl λa8 w8 A8 _ Zl ZJ => ?_
  have ZM:=cK_ (ZJ.hold _ (qT ..));refine go_app (n':=s.2.2.length+1) (rows':=rows++[[S f.1,.slice lq.A f.2.2.length lq.cap,.int .i64 f.2.1]]) Zl ZJ rfl 60 rfl rfl 6 (by kernel_rfl:(oR16.at 4).op = .call { callee := .builtin .append,args := #[.tmp 57,.tmp 59],argTypes := #[25,25] }) (mM_ (t:=25) (e:=66) (c:=3) (bytes:=48) rfl rfl) rfl rfl rfl ZM (λr hr=>by obtain rfl:=qH.1 hr;rfl) rfl rfl h3 (λr hr=>by obtain rfl:=qH.1 hr;rfl) rfl rfl λa9 w9 A9 cap9 Zm Zq => ?_
  refine im_ Zm rfl 61 rfl rfl (.pointer (some ⟨M,1,none⟩)) rfl λYS ZT => ?_
  refine go_set (L':=[.row 66 3 A8 1 1 [[S f.1,.slice lq.A f.2.2.length lq.cap,.int .i64 f.2.1]],.ro z3.F z3.In,.box l8.b 66 [S f.1,.slice lq.A f.2.2.length lq.cap,.int .i64 f.2.1],.row 39 6 lq.A f.2.2.length lq.cap rowsq,.box U 27 v2,.box M 27 [vr,.slice A9 (s.2.2.length+1) cap9],.row 66 3 A9 (s.2.2.length+1) cap9 (rows++[[S f.1,.slice lq.A f.2.2.length lq.cap,.int .i64 f.2.1]]),.row 39 6 Aq rq.length capq rq]) ZT Zq rfl rfl 5 (by kernel_rfl:(oR16.at 6).op = .store 25 (.tmp 61) (.tmp 60)) rfl rfl rfl rfl rfl rfl [vr,.slice A9 (s.2.2.length+1) cap9] rfl rfl λYX ZW => ?_
  obtain⟨_,_,rfl⟩:=j9_ h3;have Zt:(s.2.2++[(Xy.mk f.1 f.2.2 f.2.1)]).length=s.2.2.length+1:=by simp
  rw[←Zt]at ZW;have ZV:=Z.of_sep ZW (l:=[.row 39 6 lq.A f.2.2.length lq.cap rowsq,.box U 27 v2,.box M 27 [vr,.slice A9 (s.2.2++[(Xy.mk f.1 f.2.2 f.2.1)]).length cap9],.row 66 3 A9 (s.2.2++[(Xy.mk f.1 f.2.2 f.2.1)]).length cap9 (rows++[[S f.1,.slice lq.A f.2.2.length lq.cap,.int .i64 f.2.1]]),.row 39 6 Aq rq.length capq rq]) (.cons _ (.cons_cons _ (.cons _ (List.Sublist.refl _)))) (by
   intro r hr;simp only[qD,jo,or_false]at hr;rcases hr with rfl|rfl|rfl|rfl|rfl<;>trivial)
  have ZU:=ZT.sel (sl:=[(2,.pointer (some ⟨U,0,none⟩)),(3,.pointer (some ⟨M,0,none⟩)),(30,ZZ),(31,.int .i64 (x0.Xj.length:Int)),(32,.int .i64 s.1)]) ⟨rfl,rfl,rfl,rfl,rfl,trivial⟩;have ZQ:rows.length=s.2.2.length:=hh.len;have ZY:RD te z3 [.sl (.st 4)] (x0.Xj,()) [ZZ]:=ZY;have left:∀(j:Nat) (x:Xy) (r:tL tW),j<s.2.2.length->(s.2.2++[(Xy.mk f.1 f.2.2 f.2.1)])[j]? = some x->(rows++[[S f.1,.slice lq.A f.2.2.length lq.cap,.int .i64 f.2.1]])[j]? = some r->s.2.2[j]? = some x/\rows[j]? = some r:=λj x r Y C h6=>by
   rw[zR Y]at C;rw[zR (by omega)]at h6;exact⟨C,h6⟩
  have last:∀(j:Nat) (x:Xy),¬j<s.2.2.length->(s.2.2++[(Xy.mk f.1 f.2.2 f.2.1)])[j]? = some x->j=s.2.2.length/\x=Xy.mk f.1 f.2.2 f.2.1:=λj x Y C=>by
   have J:=(qj.1 C).1;rw[qLa,zk]at J;have:j=s.2.2.length:=by omega
   subst this;rw[zZ (qE _),jd]at C;exact⟨rfl,(qSj C).symm⟩
  have lastr:(rows++[[S f.1,.slice lq.A f.2.2.length lq.cap,.int .i64 f.2.1]])[s.2.2.length]? = some [S f.1,.slice lq.A f.2.2.length lq.cap,.int .i64 f.2.1]:=by
   rw[←ZQ,zZ (qE _),jd];rfl
  by_cases hi:s.2.2.length=i
  .subst hi;refine⟨z3,A9,cap9,rows++[[S f.1,.slice lq.A f.2.2.length lq.cap,.int .i64 f.2.1]],lq.A,lq.cap,rowsq,ZZ,?_,ZU,ZY,hr.le O,by rw[qLa,qLa,ZQ];rfl,λj x r Y C h6 => ?_,λx C => ?_⟩
   .rw[lenq];refine(ZV.sub (L':=[.row 39 6 lq.A f.2.2.length lq.cap rowsq,.box U 27 v2,.box M 27 [vr,.slice A9 (s.2.2++[(Xy.mk f.1 f.2.2 f.2.1)]).length cap9],.row 66 3 A9 (s.2.2++[(Xy.mk f.1 f.2.2 f.2.1)]).length cap9 (rows++[[S f.1,.slice lq.A f.2.2.length lq.cap,.int .i64 f.2.1]])]) ?_).perm ?_
    .exact .cons_cons _ (.cons_cons _ (.cons_cons _ (.cons_cons _ (.cons _ .slnil))))
    .exact List.perm_append_comm (l₁ := [_]) (l₂ := [_,_,_])
   .by_cases J:j<s.2.2.length
    .obtain⟨h7,h8⟩:=left j x r J C h6;exact(hh.other j x r Y h7 h8).le O
    .exact absurd (last j x J C).1 Y
   .obtain⟨_,rfl⟩:=last _ x (Nat.lt_irrefl _) C;exact⟨lastr,lenq,ZO⟩
  .obtain⟨Zp,V,Zz⟩:=ZV.freeze;refine⟨_,A9,cap9,rows++[[S f.1,.slice lq.A f.2.2.length lq.cap,.int .i64 f.2.1]],Aq,capq,rq,ZZ,Zp,ZU,ZY.le V,(hr.le O).le V,by rw[qLa,qLa,ZQ];rfl,λj x r Y C h6 => ?_,λx C => ?_⟩
   .by_cases J:j<s.2.2.length
    .obtain⟨h7,h8⟩:=left j x r J C h6;exact((hh.other j x r Y h7 h8).le O).le V
    .obtain⟨rfl,rfl⟩:=last j x J C;obtain rfl:=qSj (lastr.symm.trans h6);exact .str (.sl Zz (Own.cap_le resq.2.1.1).1 (λj x r h7 h8=>(ZO.le V) j x r h7 h8) (.int .nil))
   .by_cases ZL:i<s.2.2.length
    .rw[zR ZL]at C;obtain⟨h7,h8,h9⟩:=hh.hole x C;exact⟨by rw[zR (by omega)];exact h7,h8,(h9.le O).le V⟩
    .exact absurd (last i x ZL C).1.symm hi
end
theorem own_ports{x0:Xk}:∀(n:Nat) (s:Int×tL Xw×tL Xy) (o:tL Xw×tL Xy),af_ (cM_ x0) n s=some o->o.2=s.2.2
 | 0,_,_,h=>by cases h
 | n+1,s,o,h=>by
  simp only[af_]at h;split at h
  .cases h
  .rename_i s' f;have p:=own_ports n s' o h;unfold cM_ at f;cases j:decide (s.1<(x0.Xd.length:Int))with
   | false=>rw[j]at f;cases f
   | true =>
    rw[j]at f;obtain⟨_,_,f⟩:=bind_some (show(ah_ x0.Xd s.1).bind _=_ from f);obtain⟨_,_,f⟩:=bind_some f;obtain⟨_,_,f⟩:=bind_some f;injection qSj f with f;subst f;exact p
  .rename_i b f;obtain rfl:=qSj h;unfold cM_ at f;cases j:decide (s.1<(x0.Xd.length:Int))with
   | false =>
    rw[j]at f;injection qSj f with f;subst f;rfl
   | true =>
    rw[j]at f;obtain⟨_,_,f⟩:=bind_some (show(ah_ x0.Xd s.1).bind _=_ from f);obtain⟨_,_,f⟩:=bind_some f;obtain⟨_,_,f⟩:=bind_some f;cases f
set_option maxRecDepth 100000 in
theorem own_hole{x0 y:Xk}(Z:co_ x0=some y)(i:Nat){w:tS}{z:Fz}(hz:z.In w)(hg:Glo te z){v0:tW}(hv:RV Tryz.prog te z (λ_=>none) (.v (.agg [.dt (.sl (.st 1)) x0.Xd,.dt (.sl (.st 4)) x0.Xj])) v0) :
  Ret Tryz.prog 41 #[v0] w (OwnH z w i y):=by
 unfold co_ at Z;obtain⟨F,h1,Z⟩:=bind_some Z;obtain⟨o4,h2,Z⟩:=bind_some Z;obtain rfl:=qSj Z;refine enter Tryz.func41 oC_eq (by kernel_rfl) (by kernel_rfl) (N:=64) λa hE => ?_
 have ZU:=Mx.start (E:=te) hz hg;have ZE:(evO oR0 .p (oS0 x0) λs1=>evO oR1 .p s1 λs2=>evO oP2 oPl2 s2 λs3=>evO oR7 .p s3 oK1)=some (F.1,F.2,x0.Xj,(x0.Xj.length:Int),0):=by
  rw[oEv1,h1];rfl
 have C:Fresh (λ_=>none) b0.lo:=λ_ _=>rfl
 have J:Rel Tryz.prog te [] ⟨z,λ_=>none,0⟩ w 64 ((oS0 x0).L b0) ((oS0 x0).H b0) (oS0 x0).nx a w:=ZU.rel hE (.cons hv .nil) C;refine wp_seq (frag ad_ jr_ C ZE J λex s1 a1 w1 f J => ?_);cases ex with
 | some _=>cases f
 | none =>
 refine wp_seq (frag ad_ jr_ C f J λex s2 a2 w2 f J => ?_);cases ex with
 | some _=>cases f
 | none =>
 refine wp_seq (frag ad_ jr_ C f J λex s3 a3 w3 f J => ?_);cases ex with
 | some _=>cases f
 | none =>
 refine ka_ (λa' w'=>∃n b2 b3 v2 vr,v2.length=2/\eF_ vr=true/\OwnJ z w x0 i b2 b3 v2 vr F.1 (n,o4) a' w') (λa' w' ⟨n,b2,b3,v2,vr,h3,h4,hJ⟩=>own_end h3 h4 hJ) ?_;refine wp_seq (frag ad_ jr_ C f J λex s4 a4 w4 f J => ?_);cases ex with
 | some _=>cases f
 | none =>
 show(Code.block 2 _).wp _ _ a4 w4
 replace f:oK1 s4=some (F.1,F.2,x0.Xj,(x0.Xj.length:Int),0):=f;obtain⟨z4,g4,u,D,Zh,ZM,Zi⟩:=J;unfold oK1 at f;obtain⟨i2,e2,f⟩:=bind_some f;obtain⟨i3,e3,f⟩:=bind_some f;obtain⟨xs,Zt,f⟩:=bind_some f;obtain⟨n,Zu,f⟩:=bind_some f;obtain⟨m,Zv,f⟩:=bind_some f;obtain⟨Zg,O,f⟩:=bind_some f;obtain⟨cs,ek,f⟩:=bind_some f;obtain⟨hb,f⟩:=bN_ f;obtain⟨p,c0,f⟩:=bind_some f;obtain⟨q,c1,f⟩:=bind_some f;obtain⟨rs,ep,f⟩:=bind_some f;obtain⟨ps,eq,f⟩:=bind_some f;injection qSj f with ZI f;injection f with ZG f;injection f with hx f;injection f with hn hm;subst ZI ZG hx hn hm;simp only[qAn,qo]at hb;have ZF:i2≠i3:=bv_ hb.1.1
 obtain⟨u0,u1,rfl⟩:=two_list' (qNb hb.2);have ZV:=qNb hb.1.2;obtain rfl:=qSj (nR_ c0);obtain rfl:=qSj (nR_ c1);obtain⟨foc1,ep⟩:=nQ_ ep;obtain⟨foc2,eq⟩:=nQ_ eq;obtain⟨p2,t2,l2,Zy,rfl⟩:=u.get 2 _ (cE_ e2);obtain⟨p3,t3,l3,Zz,rfl⟩:=u.get 3 _ (cE_ e3);obtain⟨ZZ,ZR,U⟩:=u.get 30 _ (rz_ Zt);obtain⟨Zn,ZS,ZN⟩:=u.get 31 _ (i3_ Zu);obtain⟨Zo,ZT,ZO⟩:=u.get 32 _ (i3_ Zv);obtain⟨Zl,v2,Zw,ZX,ZP⟩:=kf_ D (b5_ O);obtain rfl:=qSj (Zy.symm.trans Zw);obtain⟨Zm,v3,Zx,h,ZQ⟩:=kf_ D (b5_ ek);obtain rfl:=qSj (Zz.symm.trans Zx);obtain⟨lp,rowsp,gp,np,lenp,ZH,resp⟩:=ma_ D ep;obtain⟨lq,rowsq,gq,nq,lenq,Zj,resq⟩:=ma_ D eq;have ZC:=ZU.step D ZM [(p,.row 78 1 lp.A F.1.length lp.cap rowsp),(i2,.box l2.b 27 v2),(i3,.box l3.b 27 v3),(q,.row 66 3 lq.A F.2.length lq.cap rowsq)] (λr hr=>by
  simp only[qD,jo,or_false]at hr;rcases hr with rfl|rfl|rfl|rfl
  .exact⟨_,ep,resp⟩
  .exact⟨_,b5_ O,ZP⟩
  .exact⟨_,b5_ ek,ZQ⟩
  .exact⟨_,eq,resq⟩) (by
  have M:p≠i2:=λe=>by subst e;rw[b5_ O]at ep;cases ep
  have h6:p≠i3:=λe=>by subst e;rw[b5_ ek]at ep;cases ep
  have h7:p≠q:=λe=>by subst e;rw[ep]at eq;injection eq with eq;injection eq with e1;cases e1
  have h8:i2≠q:=λe=>by subst e;rw[b5_ O]at eq;cases eq
  have h9:i3≠q:=λe=>by subst e;rw[b5_ ek]at eq;cases eq
  simp[M,h6,h7,h8,h9,ZF])
 cases h with
 | cons Zr h =>
 cases h with
 | cons Zs h =>
 cases h
 obtain⟨lp',gp',rfl⟩:=Zr;obtain rfl:=qSj (gp.symm.trans gp');obtain⟨lq',gq',rfl⟩:=Zs;obtain rfl:=qSj (gq.symm.trans gq');obtain⟨_,ev,_⟩:=RD.int_inv ZN;injection ev with ev _;subst ev;obtain⟨_,ev,_⟩:=RD.int_inv ZO;injection ev with ev _;subst ev;have ZA:=(((((Env.of_er u).add ZT).add ZS).add ZR).add t3).add t2;have U:RD te z4 [.sl (.st 4)] (x0.Xj,()) [ZZ]:=U;obtain⟨ZD,ZY,ZJ⟩:=ZC.freeze;have G:=own_ports _ _ _ h1;have V:F.2=[]:=G;have Zq:rowsq=[]:=zI.1 (by rw[lenq,V];rfl);have ZL:v2.length=2:=ZX.len.symm.trans ZV;have hv:eF_ (Value.slice lp.A lp.n lp.cap)=true:=rfl;refine wp_block (lS_ h2 (λs a w'=>OwnJ z w x0 i l2.b l3.b v2 (.slice lp.A lp.n lp.cap) F.1 s a w') ?_ λs a w' hJ st ZK Y=>own_round hv hJ ZK λn a Zp ZB ZW => ?_)
 .refine⟨_,lq.A,lq.cap,rowsq,none,0,[],ZZ,?_,ZA,U.le ZY,?_,⟨?_,λj x r _ M _ => ?_,λx M => ?_⟩,rfl⟩
  .have:=(ZD.nilRow 39 6).perm (L':=[.box l2.b 27 v2,.box l3.b 27 [.slice lp.A lp.n lp.cap,.slice lq.A lq.n lq.cap],.row 66 3 lq.A F.2.length lq.cap rowsq,.row 39 6 none 0 0 []]) (List.perm_append_comm (l₁ := [_]) (l₂ := [_,_,_]));rw[nq]at this;exact this
  .rw[np];exact .sl ZJ (Own.cap_le resp.2.1.1).1 (λj x r h7 h8=>(ZH.le ZY) j x r h7 h8) .nil
  .exact lenq
  .rw[V]at M;simp at M
  .rw[V]at M;simp at M
 .have M:s.2=o4:=Y _ ZW;obtain⟨s1,s2⟩:=s;subst M;exact⟨n,l2.b,l3.b,v2,_,ZL,hv,ZB⟩
noncomputable section
def kg_(f:regex_parser->Int->tO (tV×regex_parser)):Con te:=ag_ te [.bm 199 (.st 8) [none,none,none,some 202] false,.d (.int .i64)] [(.bool,[])] false λa=>f a.1 a.2.1
def cS_260(f:regex_parser->Int->tO (tV×regex_parser)):Con te:=ag_ te [.bm 199 (.st 8) [none,none,none,some 202] false,.d qI] [qB] false λa=>b1_ f a.1 a.2.1
theorem okS_260(f:regex_parser->Int->tO (tV×regex_parser))(h:OKF 175 (kg_ f)):OKF 260 (cS_260 f):=⟨ab_ ad_ (aa_ ok_210 (aa_ h (aa_ na_ (aa_ ok_259 ac_)))) Tryz.func260 (by kernel_rfl) (pl := .p) λ_=>by kernel_rfl,by kernel_rfl⟩
def c_262:Con te:=ag_ te [.bm 199 (.st 8) [none,none,none,some 202] false] [(.int .u8,[]),qB] false λa=>c8_ a.1
theorem ok_262:OKF 262 c_262:=⟨ab_ ad_ (aa_ ok_259 (aa_ ok_241 ac_)) Tryz.func262 (by kernel_rfl) (pl := .p) λ_=>by kernel_rfl,by kernel_rfl⟩
def c_267:Con te:=ag_ te [.bm 199 (.st 8) [none,none,none,some 202] false] [(.int .u8,[]),qB] false λa=>cv_ a.1
theorem ok_267:OKF 267 c_267:=⟨ab_ ad_ (aa_ ok_262 (aa_ ok_259 (aa_ ok_241 ac_))) Tryz.func267 (by kernel_rfl) (pl := .p) λ_=>by kernel_rfl,by kernel_rfl⟩
def c_261:Con te:=ag_ te [.bm 199 (.st 8) [none,none,none,some 202] false] [qB] false λa=>eK_ a.1
theorem ok_261:OKF 261 c_261:=⟨ab_ ad_ (aa_ na_ (aa_ ok_259 (aa_ ok_267 (aa_ ok_210 ac_)))) Tryz.func261 (by kernel_rfl) (pl:=qp 2 (.s (.s .p (.lp ⟨[(4,.d .bool)],[(0,true,.cells 199 [.v .str,.v qI,.v qI,.own 15,.v qI]),(15,false,.row 202 (.st 6) []),(10,true,.box 202 (.st 6))],[0,3],[],[],16⟩ ⟨[],[(0,true,.cells 199 [.v .str,.v qI,.v qI,.own 15,.v qI]),(15,false,.row 202 (.st 6) []),(10,true,.box 202 (.st 6))],[0,3],[],[],16⟩ true (.s (.s (.ot 0 (.free 0 (.free 1 (.spl 1 (.free 2 (.alt 3 (.free 4 (.alt 5 .nil .nil)) .nil)) (.free 2 (.alt 3 (.free 4 (.alt 5 .nil .nil)) .nil)))))) .p) (.s (qp 3 (.j ⟨[(7,.d (.int .u8))],[(0,true,.cells 199 [.v .str,.v qI,.v qI,.own 41,.v qI]),(41,false,.row 202 (.st 6) [])],[0,3,5,13,14,15],[10],[],42⟩ true .p .p)) .p)))) .p)) λ_=>by kernel_rfl,by kernel_rfl⟩
def cS_253(f:regex_parser->Int->tO (tV×regex_parser)):Con te:=ag_ te [.bm 199 (.st 8) [none,none,none,some 202] false,.d qI] [qB] false λa=>aD_ f a.1 a.2.1
theorem okS_253(f:regex_parser->Int->tO (tV×regex_parser))(h:OKF 175 (kg_ f)):OKF 253 (cS_253 f):=⟨ab_ ad_ (aa_ ok_262 (aa_ ok_261 (aa_ na_ (aa_ (okS_260 f h) (aa_ ok_259 (aa_ ok_241 ac_)))))) Tryz.func253 (by kernel_rfl) (pl:=qp 3 (.j ⟨[],[(0,true,.cells 199 [.v .str,.v qI,.v qI,.own 16,.v qI]),(16,false,.row 202 (.st 6) [])],[0],[],[],17⟩ true (qp 3 (.j ⟨[(28,.d .bool)],[],[0,5,18],[0,4],[],19⟩ false .p .p)) .p)) λ_=>by kernel_rfl,by kernel_rfl⟩
def c_211:Con te:=ag_ te [.bm 199 (.st 8) [none,none,none,some 202] false,.d qI,.d (.st 6)] [] false (qu3 cx_)
theorem ok_211:OKF 211 c_211:=⟨ab_ ad_ (aa_ m6_ ac_) Tryz.func211 (by kernel_rfl) (pl := .s .p (.s (.s .p (.lp ⟨[(6,.d qI)],[(1,true,.row 202 (.st 6) [])],[0,1,5],[0,2],[],6⟩ ⟨[],[(1,true,.row 202 (.st 6) [])],[0,1,5],[0,2],[],6⟩ false (.s .p (.j ⟨[],[(1,true,.row 202 (.st 6) [])],[0,1,5,6],[0,2],[],13⟩ false .p .p)))) (.dr [4,0,0,0,0,0,0,1,2,4,4,2] [0,1,2,3,4,5,6] false []))) λ_=>by kernel_rfl,by kernel_rfl⟩
def cS_242(f:regex_parser->Int->tO (tV×regex_parser)):Con te:=ag_ te [.bm 199 (.st 8) [none,none,none,some 202] false,.d qI] [qB] false λa=>bz_ f a.1 a.2.1
theorem okS_242(f:regex_parser->Int->tO (tV×regex_parser))(h:OKF 175 (kg_ f)):OKF 242 (cS_242 f):=⟨ab_ ad_ (aa_ na_ (aa_ ok_211 (aa_ ok_210 (aa_ (okS_253 f h) ac_)))) Tryz.func242 (by kernel_rfl) (pl:=qp 3 (.j ⟨[],[(0,true,.cells 199 [.v .str,.v qI,.v qI,.own 17,.v qI]),(17,false,.row 202 (.st 6) [])],[],[],[],18⟩ false (.s .p (.s (qp 2 (.dr [0,0,0,0,0,0,0,0,0,0,0,0,2] [] false [])) (qp 3 (.s (.s .p (.dr [0,0,0,0,0,0,0,0,0,0,0,0,2] [] false [])) .p)))) .p)) λ_=>by kernel_rfl,by kernel_rfl⟩
def cS_209(f:regex_parser->Int->tO (tV×regex_parser)):Con te:=ag_ te [.bm 199 (.st 8) [none,none,none,some 202] false,.d qI] [qB] false λa=>cP_ f a.1 a.2.1
theorem okS_209(f:regex_parser->Int->tO (tV×regex_parser))(h:OKF 175 (kg_ f)):OKF 209 (cS_209 f):=⟨ab_ ad_ (aa_ (okS_242 f h) (aa_ ok_241 ac_)) Tryz.func209 (by kernel_rfl) (pl := .s .p (.lp ⟨[],[(0,true,.cells 199 [.v .str,.v qI,.v qI,.own 3,.v qI]),(3,false,.row 202 (.st 6) [])],[0,1],[],[],4⟩ ⟨[],[],[],[0,1],[],3⟩ true .p)) λ_=>by kernel_rfl,by kernel_rfl⟩
theorem okS_175(f:regex_parser->Int->tO (tV×regex_parser))(h:OKF 175 (kg_ f)):OKF 175 (kg_ (cr_ f)):=⟨ab_ ad_ (aa_ na_ (aa_ ok_211 (aa_ ok_210 (aa_ (okS_209 f h) (aa_ h ac_))))) Tryz.func175 (by kernel_rfl) (pl:=qp 8 (.s (.dr [0,0,0,0,0,0,0,0,0,0,0,0,2] [] false []) .p)) λ_=>by kernel_rfl,by kernel_rfl⟩
theorem okN_175:∀n,OKF 175 (kg_ (ak_ n))
 | 0=>⟨gL_ λ_=>rfl,by kernel_rfl⟩
 | n+1=>okS_175 _ (okN_175 n)
def c_175:Con te:=kg_ (ak_ BIG)
theorem ok_175:OKF 175 c_175:=okN_175 BIG
def c_137:Con te:=ag_ te [.d .str] [(.st 7,[some 202]),qJ,qJ] false λa=>bu_ a.1
theorem ok_137:OKF 137 c_137:=⟨ab_ ad_ (aa_ ok_175 (aa_ na_ ac_)) Tryz.func137 (by kernel_rfl) (pl:=qp 4 (.s (.s .p (.s (.s (.dr [0,0,0,0,0,1,4,4] [] true [0]) .p) .p)) (qp 2 (.s (.dr [0,0,0,0,0,0,0,0,0,0,2,4,4] [] false []) .p)))) λ_=>by kernel_rfl,by kernel_rfl⟩
def c_99:Con te:=ag_ te [.d (.st 0)] [qB] false λa=>hp_ a.1
theorem ok_99:OKF 99 c_99:=⟨ab_ ad_ (aa_ ok_137 (aa_ ok_118 (aa_ ok_31 (aa_ ok_136 ac_)))) Tryz.func99 (by kernel_rfl) (pl := .s .p (.s (.j ⟨[(28,.d .bool)],[],[1],[0],[],3⟩ false (.ot 0 (.free 0 (.free 3 (.alt 1 (.alt 2 (.alt 4 (.alt 5 (.free 6 (.free 7 (.spl 7 (.free 8 (.alt 9 (.free 10 (.alt 11 (.free 12 (.spl 12 (.free 13 (.alt 14 (.free 15 (.free 16 (.alt 17 (.free 18 (.spl 18 (.free 19 (.alt 20 (.alt 21 (.alt 22 .nil .nil) .nil) .nil)) (.free 19 (.alt 20 (.alt 21 (.alt 22 .nil .nil) .nil) .nil)))) .nil))) .nil)) (.free 13 (.alt 14 (.free 15 (.free 16 (.alt 17 (.free 18 (.spl 18 (.free 19 (.alt 20 (.alt 21 (.alt 22 .nil .nil) .nil) .nil)) (.free 19 (.alt 20 (.alt 21 (.alt 22 .nil .nil) .nil) .nil)))) .nil))) .nil)))) .nil)) .nil)) (.free 8 (.alt 9 (.free 10 (.alt 11 (.free 12 (.spl 12 (.free 13 (.alt 14 (.free 15 (.free 16 (.alt 17 (.free 18 (.spl 18 (.free 19 (.alt 20 (.alt 21 (.alt 22 .nil .nil) .nil) .nil)) (.free 19 (.alt 20 (.alt 21 (.alt 22 .nil .nil) .nil) .nil)))) .nil))) .nil)) (.free 13 (.alt 14 (.free 15 (.free 16 (.alt 17 (.free 18 (.spl 18 (.free 19 (.alt 20 (.alt 21 (.alt 22 .nil .nil) .nil) .nil)) (.free 19 (.alt 20 (.alt 21 (.alt 22 .nil .nil) .nil) .nil)))) .nil))) .nil)))) .nil)) .nil))))) .nil) .nil) (.alt 4 (.alt 2 (.alt 5 (.free 6 (.free 7 (.spl 7 (.free 8 (.alt 9 (.free 10 (.alt 11 (.free 12 (.spl 12 (.free 13 (.alt 14 (.free 15 (.free 16 (.alt 17 (.free 18 (.spl 18 (.free 19 (.alt 20 (.alt 21 (.alt 22 .nil .nil) .nil) .nil)) (.free 19 (.alt 20 (.alt 21 (.alt 22 .nil .nil) .nil) .nil)))) .nil))) .nil)) (.free 13 (.alt 14 (.free 15 (.free 16 (.alt 17 (.free 18 (.spl 18 (.free 19 (.alt 20 (.alt 21 (.alt 22 .nil .nil) .nil) .nil)) (.free 19 (.alt 20 (.alt 21 (.alt 22 .nil .nil) .nil) .nil)))) .nil))) .nil)))) .nil)) .nil)) (.free 8 (.alt 9 (.free 10 (.alt 11 (.free 12 (.spl 12 (.free 13 (.alt 14 (.free 15 (.free 16 (.alt 17 (.free 18 (.spl 18 (.free 19 (.alt 20 (.alt 21 (.alt 22 .nil .nil) .nil) .nil)) (.free 19 (.alt 20 (.alt 21 (.alt 22 .nil .nil) .nil) .nil)))) .nil))) .nil)) (.free 13 (.alt 14 (.free 15 (.free 16 (.alt 17 (.free 18 (.spl 18 (.free 19 (.alt 20 (.alt 21 (.alt 22 .nil .nil) .nil) .nil)) (.free 19 (.alt 20 (.alt 21 (.alt 22 .nil .nil) .nil) .nil)))) .nil))) .nil)))) .nil)) .nil))))) .nil) .nil) .nil)) (.alt 4 (.alt 1 (.alt 2 (.alt 5 (.free 6 (.free 7 (.spl 7 (.free 8 (.alt 9 (.free 10 (.alt 11 (.free 12 (.spl 12 (.free 13 (.alt 14 (.free 15 (.free 16 (.alt 17 (.free 18 (.spl 18 (.free 19 (.alt 20 (.alt 21 (.alt 22 .nil .nil) .nil) .nil)) (.free 19 (.alt 20 (.alt 21 (.alt 22 .nil .nil) .nil) .nil)))) .nil))) .nil)) (.free 13 (.alt 14 (.free 15 (.free 16 (.alt 17 (.free 18 (.spl 18 (.free 19 (.alt 20 (.alt 21 (.alt 22 .nil .nil) .nil) .nil)) (.free 19 (.alt 20 (.alt 21 (.alt 22 .nil .nil) .nil) .nil)))) .nil))) .nil)))) .nil)) .nil)) (.free 8 (.alt 9 (.free 10 (.alt 11 (.free 12 (.spl 12 (.free 13 (.alt 14 (.free 15 (.free 16 (.alt 17 (.free 18 (.spl 18 (.free 19 (.alt 20 (.alt 21 (.alt 22 .nil .nil) .nil) .nil)) (.free 19 (.alt 20 (.alt 21 (.alt 22 .nil .nil) .nil) .nil)))) .nil))) .nil)) (.free 13 (.alt 14 (.free 15 (.free 16 (.alt 17 (.free 18 (.spl 18 (.free 19 (.alt 20 (.alt 21 (.alt 22 .nil .nil) .nil) .nil)) (.free 19 (.alt 20 (.alt 21 (.alt 22 .nil .nil) .nil) .nil)))) .nil))) .nil)))) .nil)) .nil))))) .nil) .nil) .nil) .nil))))) .p) .p)) λ_=>by kernel_rfl,by kernel_rfl⟩
def c_62:Con te:=ag_ te [.d .str] [(.sl (.st 1),[some 78]),qJ,qJ] true λa=>jG_ a.1
theorem ok_62:OKF 62 c_62:=⟨ab_ ad_ (aa_ ok_99 (aa_ ok_98 (aa_ ok_97 (aa_ ok_96 (aa_ ok_95 ac_))))) Tryz.func62 (by kernel_rfl) (pl:=qp 4 (.s (.s .p (.lp ⟨[(5,.one (.own 15)),(16,.d qI)],[(15,false,.row 78 (.st 1) []),(5,true,.cells 78 [.own 16]),(16,false,.row 80 (.st 0) [])],[6,7,14,15],[],[],17⟩ ⟨[(5,.one (.own 15))],[(15,false,.row 78 (.st 1) []),(5,true,.cells 78 [.own 16]),(16,false,.row 80 (.st 0) [])],[6,7],[],[],17⟩ true (qp 2 (.j ⟨[(5,.one (.own 18))],[(18,false,.row 78 (.st 1) []),(5,true,.cells 78 [.own 19]),(19,false,.row 80 (.st 0) [])],[6,7,14,15,16],[],[],20⟩ true .p .p)))) (.j ⟨[(5,.one (.own 17))],[(17,false,.row 78 (.st 1) [])],[],[],[],18⟩ true .p .p))) λ_=>by kernel_rfl,by kernel_rfl⟩
def c_100:Con te:=ag_ te [.d .str,.d .str,.d qI] [(.sl .str,[])] true (qu3 strings_SplitN)
theorem ok_100:OKF 100 c_100:=⟨ab_ ad_ (aa_ ok_138 ac_) Tryz.func100 (by kernel_rfl) (pl := .p) λ_=>by kernel_rfl,by kernel_rfl⟩
def c_139:Con te:=ag_ te [.d (.int .u8)] [qB] false λa=>gO_ a.1
theorem ok_139:OKF 139 c_139:=⟨ab_ ad_ ac_ Tryz.func139 (by kernel_rfl) (pl := .p) λ_=>by kernel_rfl,by kernel_rfl⟩
def c_187:Con te:=ag_ te [.d .str,.d (.int .u8)] [qJ] false (qu2 strings_IndexByte)
theorem ok_187:OKF 187 c_187:=⟨ab_ ad_ (aa_ jq_ ac_) Tryz.func187 (by kernel_rfl) (pl := .p) λ_=>by kernel_rfl,by kernel_rfl⟩
def c_156:Con te:=ag_ te [.d .str,.d .str] [qJ] false (qu2 fy_)
theorem ok_156:OKF 156 c_156:=⟨ab_ ad_ (aa_ ok_187 ac_) Tryz.func156 (by kernel_rfl) (pl := .s .p (.s (.s .p (.lp ⟨[(8,.d qI)],[],[0,1,7],[],[],4⟩ ⟨[],[],[0],[],[],4⟩ true .p)) .p)) λ_=>by kernel_rfl,by kernel_rfl⟩
theorem e_178(a:PA te [.d .str]):hq_ a.1=gI_ Tryz.prog te eqL (ti 215 (inlF Tryz.prog te eqL (ti 114 dN_ dX_) Tryz.f215 (.p:Pl)) (ti 72 fE_ dX_)) Tryz.f178 [.d .str] [(.str,[]),qJ,qB] (qp 2 (.s (.s .p (.lp ⟨[(6,.d qI)],[(3,true,.cells 110 [.sbp 3,.own 6]),(6,false,.row 5 (.int .u8) [])],[0,5],[],[],7⟩ ⟨[],[],[],[],[],6⟩ true (.s .p (.j ⟨[(6,.d qI)],[(3,true,.cells 110 [.sbp 3,.own 11]),(11,false,.row 5 (.int .u8) [])],[0,5],[],[],12⟩ true .p .p)))) .p)) a:=by kernel_rfl
def c_178:Con te:=ag_ te [.d .str] [(.str,[]),qJ,qB] false λa=>hq_ a.1
theorem ok_178:OKF 178 c_178:=⟨ab_ ad_ (cW_ ⟨ff_ ad_ (cW_ eq_ ac_) Tryz.func215,by kernel_rfl⟩ (cW_ fV_ ac_)) Tryz.func178 (by kernel_rfl) e_178,by kernel_rfl⟩
def c_140:Con te:=ag_ te [.d .str] [(.st 2,[]),qJ,qJ] false λa=>nL_ a.1
theorem ok_140:OKF 140 c_140:=⟨ab_ ad_ (aa_ ok_139 (aa_ ok_118 (aa_ ok_178 (aa_ ok_96 (aa_ ok_156 ac_))))) Tryz.func140 (by kernel_rfl) (pl:=qp 4 (.j ⟨[(5,.d qI)],[(11,true,.box 87 (.st 2))],[0,2,6],[0],[],19⟩ true .p .p)) λ_=>by kernel_rfl,by kernel_rfl⟩
def c_245:Con te:=ag_ te [.d .str,.d .str] [(.str,[])] false (qu2 c0_)
theorem ok_245:OKF 245 c_245:=⟨ab_ ad_ (aa_ ok_134 ac_) Tryz.func245 (by kernel_rfl) (pl := .p) λ_=>by kernel_rfl,by kernel_rfl⟩
def c_216:Con te:=ag_ te [.d .str,.d .str] [(.str,[])] false (qu2 strings_TrimPrefix)
theorem ok_216:OKF 216 c_216:=⟨ab_ ad_ (aa_ ok_245 ac_) Tryz.func216 (by kernel_rfl) (pl := .p) λ_=>by kernel_rfl,by kernel_rfl⟩
def c_179:Con te:=ag_ te [.d .str] [qB] false λa=>jH_ a.1
theorem ok_179:OKF 179 c_179:=⟨ab_ ad_ (aa_ ok_216 ac_) Tryz.func179 (by kernel_rfl) (pl:=qp 3 (.s (.s .p (.lp ⟨[(26,.d qI)],[],[0,25],[],[],12012⟩ ⟨[],[],[],[],[],12012⟩ true .p)) .p)) λ_=>by kernel_rfl,by kernel_rfl⟩
def c_186:Con te:=ag_ te [.d (.sl (.st 2)),.f1 (.st 2) .bool] [qJ] false (qu2 bm_)
theorem ok_186:OKF 186 c_186:=⟨ab_ ad_ ac_ Tryz.func186 (by kernel_rfl) (pl := .s .p (.s (.s .p (.lp ⟨[(8,.d qI)],[],[0,1,7],[],[],4⟩ ⟨[],[],[],[],[],4⟩ true .p)) .p)) λ_=>by kernel_rfl,by kernel_rfl⟩
def c_154:Con te:=ag_ te [.d (.sl (.st 2)),.f1 (.st 2) .bool] [qB] false (qu2 bx_)
theorem ok_154:OKF 154 c_154:=⟨ab_ ad_ (aa_ ok_186 ac_) Tryz.func154 (by kernel_rfl) (pl := .p) λ_=>by kernel_rfl,by kernel_rfl⟩
def c_180:Con te:=ag_ te [.d (.st 2),.p (.st 2)] [qB] false (qu2 lF_)
theorem ok_180:OKF 180 c_180:=⟨ab_ ad_ ac_ Tryz.func180 (by kernel_rfl) (pl := .p) λ_=>by kernel_rfl,by kernel_rfl⟩
def c_141:Con te:=ag_ te [.d (.sl (.st 2)),.d (.st 2)] [qJ] false (qu2 gQ_)
theorem ok_141:OKF 141 c_141:=⟨ab_ ad_ (aa_ ok_180 (aa_ ok_154 (aa_ ok_156 (aa_ ok_179 ac_)))) Tryz.func141 (by kernel_rfl) (pl := .s .p (.s (qp 6 (.s (qd 8) .p)) .p)) λ_=>by kernel_rfl,by kernel_rfl⟩
def c_101:Con te:=ag_ te [.d .str] [(.sl (.st 2),[some 87]),qJ,qJ] false λa=>kP_ a.1
theorem ok_101:OKF 101 c_101:=⟨ab_ ad_ (aa_ ok_141 (aa_ ok_140 (aa_ ok_139 ac_))) Tryz.func101 (by kernel_rfl) (pl:=qp 2 (.s (.s .p (.lp ⟨[(5,.one (.own 5)),(6,.d qI)],[(5,false,.row 87 (.st 2) [])],[0],[],[],6⟩ ⟨[(5,.one (.own 5))],[(5,false,.row 87 (.st 2) [])],[],[],[],6⟩ true (qp 3 (.j ⟨[(9,.d qI)],[],[0,5,6,7,8],[5,22],[],28⟩ false .p .p)))) .p)) λ_=>by kernel_rfl,by kernel_rfl⟩
def c_123:Con te:=ag_ te [.d qI] [qB] false λa=>l4_ a.1
theorem ok_123:OKF 123 c_123:=⟨ab_ ad_ ac_ Tryz.func123 (by kernel_rfl) (pl := .p) λ_=>by kernel_rfl,by kernel_rfl⟩
def c_142:Con te:=ag_ te [.d (.int .u8)] [qJ] false λa=>l5_ a.1
theorem ok_142:OKF 142 c_142:=⟨ab_ ad_ ac_ Tryz.func142 (by kernel_rfl) (pl := .p) λ_=>by kernel_rfl,by kernel_rfl⟩
def c_102:Con te:=ag_ te [.d .str,.d qI,.d qI] [qJ,qJ] false (qu3 l6_)
theorem ok_102:OKF 102 c_102:=⟨ab_ ad_ (aa_ ok_142 (aa_ ok_123 ac_)) Tryz.func102 (by kernel_rfl) (pl:=qp 4 (.s (.s .p (.lp ⟨[(8,.d qI),(32,.d qI)],[],[0,1,2,31],[],[],12013⟩ ⟨[(8,.d qI)],[],[],[],[],12013⟩ true .p)) .p)) λ_=>by kernel_rfl,by kernel_rfl⟩
def c_119:Con te:=ag_ te [.d (.sl (.st 2))] [qJ] false λa=>iQ_ a.1
theorem ok_119:OKF 119 c_119:=⟨ab_ ad_ (aa_ ok_141 ac_) Tryz.func119 (by kernel_rfl) (pl := .s .p (.s (.s .p (.lp ⟨[(8,.d qI)],[],[0,6,7],[],[],4⟩ ⟨[],[],[],[],[],4⟩ true (qp 2 (.s (.s .p (.s (qd 6) .p)) .p)))) .p)) λ_=>by kernel_rfl,by kernel_rfl⟩
def c_155:Con te:=ag_ te [.d (.st 2)] [qB] false λa=>iR_ a.1
theorem ok_155:OKF 155 c_155:=⟨ab_ ad_ ac_ Tryz.func155 (by kernel_rfl) (pl := .p) λ_=>by kernel_rfl,by kernel_rfl⟩
def c_120:Con te:=ag_ te [.d (.sl (.st 2))] [qB] false λa=>fM_ a.1
theorem ok_120:OKF 120 c_120:=⟨ab_ ad_ (aa_ ok_155 (aa_ ok_154 ac_)) Tryz.func120 (by kernel_rfl) (pl := .p) λ_=>by kernel_rfl,by kernel_rfl⟩
def c_82:Con te:=ag_ te [.d (.st 3)] [qJ] false λa=>c1_ a.1
theorem ok_82:OKF 82 c_82:=⟨ab_ ad_ (aa_ ok_120 (aa_ ok_119 (aa_ ok_118 ac_))) Tryz.func82 (by kernel_rfl) (pl := .s .p (.s (.s .p (.lp ⟨[(16,.d qI)],[(11,true,.row 9 .str [])],[1,14,15],[0],[],15⟩ ⟨[],[],[1],[0],[],15⟩ true .p)) .p)) λ_=>by kernel_rfl,by kernel_rfl⟩
def c_63:Con te:=ag_ te [.d .str] [(.st 3,[none,none,none,none,some 87]),qJ] false λa=>jI_ a.1
theorem ok_63:OKF 63 c_63:=⟨ab_ ad_ (aa_ ok_82 (aa_ ok_102 (aa_ ok_101 (aa_ ok_100 ac_)))) Tryz.func63 (by kernel_rfl) (pl:=qp 7 (.s (.dr [0,0,0,0,0,0,0,0,0,0,0,0,0,0,0,0,0,1,2] [] false []) .p)) λ_=>by kernel_rfl,by kernel_rfl⟩
def c_213:Con te:=ag_ te [.d .str] [(.int .i32,[]),qJ] false λa=>utf8_DecodeRuneInString a.1
theorem ok_213:OKF 213 c_213:=⟨gL_ λ_=>rfl,by kernel_rfl⟩
theorem e_188(a:PA te [.d .str,.d .str,.d .str,.d qI]):strings_Replace a.1 a.2.1 a.2.2.1 a.2.2.2.1=gI_ Tryz.prog te eqL (ti 71 (inlF Tryz.prog te eqL (ti 114 dN_ dX_) Tryz.f71 (.p:Pl)) (tb 213 c_213 (tb 153 c_153 (tb 177 ky_ (ti 72 fE_ (ti 122 qy_ dX_)))))) Tryz.f188 [.d .str,.d .str,.d .str,.d qI] [(.str,[])] (qp 2 (.j ⟨[(3,.d qI)],[],[0,1,2],[],[],3005⟩ true .p (qp 3 (.j ⟨[(11,.d qI)],[(3005,true,.cells 110 [.sbp 3005,.own 3021]),(3021,false,.row 5 (.int .u8) [])],[0,10],[],[],3022⟩ false (.s .p (.s (.s .p (.lp ⟨[(11,.d qI),(53,.d qI)],[(3005,true,.cells 110 [.sbp 3005,.own 3026]),(3026,false,.row 5 (.int .u8) [])],[0,1,2,10,52],[],[],3027⟩ ⟨[(11,.d qI)],[(3005,true,.cells 110 [.sbp 3005,.own 3026]),(3026,false,.row 5 (.int .u8) [])],[0,10],[],[],3027⟩ false .p)) (qp 2 (.lp ⟨[(11,.d qI),(78,.d qI)],[(3005,true,.cells 110 [.sbp 3005,.own 3249]),(3249,false,.row 5 (.int .u8) [])],[0,2,10,77],[],[],3250⟩ ⟨[(11,.d qI)],[(3005,true,.cells 110 [.sbp 3005,.own 3249]),(3249,false,.row 5 (.int .u8) [])],[0,10],[],[],3250⟩ false .p)))) .p)))) a:=by kernel_rfl
def c_188:Con te:=ag_ te [.d .str,.d .str,.d .str,.d qI] [(.str,[])] false (qu4 strings_Replace)
theorem ok_188:OKF 188 c_188:=⟨ab_ ad_ (cW_ ⟨ff_ ad_ (cW_ eq_ ac_) Tryz.func71,by kernel_rfl⟩ (aa_ ok_213 (aa_ ok_153 (aa_ i4_ (cW_ fV_ (cW_ p2_ ac_)))))) Tryz.func188 (by kernel_rfl) e_188,by kernel_rfl⟩
def c_157:Con te:=ag_ te [.d .str,.d .str,.d .str] [(.str,[])] false (qu3 strings_ReplaceAll)
theorem ok_157:OKF 157 c_157:=⟨ab_ ad_ (aa_ ok_188 ac_) Tryz.func157 (by kernel_rfl) (pl := .p) λ_=>by kernel_rfl,by kernel_rfl⟩
def c_121:Con te:=ag_ te [.d .str] [(.str,[])] false λa=>kQ_ a.1
theorem ok_121:OKF 121 c_121:=⟨ab_ ad_ (aa_ ok_157 (aa_ ok_156 ac_)) Tryz.func121 (by kernel_rfl) (pl := .p) λ_=>by kernel_rfl,by kernel_rfl⟩
theorem e_84(a:PA te [.d (.sl .str),.d .str]):strings_Join a.1 a.2.1=gI_ Tryz.prog te eqL (ti 71 (inlF Tryz.prog te eqL (ti 114 dN_ dX_) Tryz.f71 (.p:Pl)) (ti 72 fE_ (ti 122 qy_ dX_))) Tryz.f84 [.d (.sl .str),.d .str] [(.str,[])] (qp 3 (.j ⟨[(5,.d qI)],[],[0,1],[],[],8⟩ false (.s .p (.s (.j ⟨[],[],[0,1,5],[],[],11⟩ false .p .p) .p)) (.s (.s .p (.lp ⟨[(5,.d qI),(41,.d qI)],[],[0,1,39,40],[],[],11⟩ ⟨[(5,.d qI)],[],[0,1],[],[],11⟩ false (qp 2 (.s (.s .p (.j ⟨[],[],[0,1,5,7,39,40,41],[],[],15⟩ false .p .p)) .p)))) (qp 3 (.s (.s .p (.lp ⟨[(65,.d qI)],[(11,true,.cells 110 [.sbp 11,.own 245]),(245,false,.row 5 (.int .u8) [])],[1,8,63,64],[],[],246⟩ ⟨[],[(11,true,.cells 110 [.sbp 11,.own 245]),(245,false,.row 5 (.int .u8) [])],[8],[],[],246⟩ false .p)) .p))))) a:=by kernel_rfl
def c_84:Con te:=ag_ te [.d (.sl .str),.d .str] [(.str,[])] false (qu2 strings_Join)
theorem ok_84:OKF 84 c_84:=⟨ab_ ad_ (cW_ ⟨ff_ ad_ (cW_ eq_ ac_) Tryz.func71,by kernel_rfl⟩ (cW_ fV_ (cW_ p2_ ac_))) Tryz.func84 (by kernel_rfl) e_84,by kernel_rfl⟩
def c_83:Con te:=ag_ te [.d (.sl (.st 2))] [(.str,[]),qJ] false λa=>kR_ a.1
theorem ok_83:OKF 83 c_83:=⟨ab_ ad_ (aa_ ok_84 (aa_ ok_121 (aa_ ok_119 ac_))) Tryz.func83 (by kernel_rfl) (pl:=qp 3 (.s (.s .p (.lp ⟨[(5,.one (.own 15)),(18,.d qI)],[(15,false,.row 9 .str [])],[16,17],[],[],16⟩ ⟨[(5,.one (.own 15))],[(15,false,.row 9 .str [])],[],[],[],16⟩ false (qp 2 (.j ⟨[(5,.one (.own 17))],[(17,false,.row 9 .str [])],[16,17,18],[],[],18⟩ false (qp 3 (.dr [0,0,0,0,0,0,0,0,1,2,4] [] false [])) .p)))) .p)) λ_=>by kernel_rfl,by kernel_rfl⟩
def c_85:Con te:=ag_ te [.d qI,.d qI] [(.str,[])] false (qu2 nM_)
theorem ok_85:OKF 85 c_85:=⟨ab_ ad_ (aa_ lG_ (aa_ ok_123 ac_)) Tryz.func85 (by kernel_rfl) (pl := .p) λ_=>by kernel_rfl,by kernel_rfl⟩
def c_47:Con te:=ag_ te [.d (.st 3)] [(.str,[]),qJ] false λa=>d8_ a.1
theorem ok_47:OKF 47 c_47:=⟨ab_ ad_ (aa_ ok_84 (aa_ ok_85 (aa_ ok_83 (aa_ ok_82 ac_)))) Tryz.func47 (by kernel_rfl) (pl:=qp 4 (.s (.dr [0,0,0,0,0,0,0,0,0,0,0,0,0,0,0,1,1,4,4] [] false []) .p)) λ_=>by kernel_rfl,by kernel_rfl⟩
def c_70:Con te:=ag_ te [.d (.st 1)] [qB] false λa=>hr_ a.1
theorem ok_70:OKF 70 c_70:=⟨ab_ ad_ (aa_ ok_99 ac_) Tryz.func70 (by kernel_rfl) (pl:=qp 3 (.s (.s .p (.lp ⟨[(18,.d qI)],[],[3,16,17],[],[],3014⟩ ⟨[],[],[],[],[],3014⟩ true .p)) .p)) λ_=>by kernel_rfl,by kernel_rfl⟩
def c_194:Con te:=ag_ te [.bm 157 (.st 9) [] false,.d qI] [(.str,[])] true (qu2 e7_)
theorem ok_194:OKF 194 c_194:=⟨ab_ ad_ ac_ Tryz.func194 (by kernel_rfl) (pl := .s .p (.s (.s (qd 40) .p) (.s (qd 23) .p))) λ_=>by kernel_rfl,by kernel_rfl⟩
theorem e_195(a:PA te [.bm 157 (.st 9) [] false,.d .str]):dR_ a.1 a.2.1=gI_ Tryz.prog te eqL (ti 162 (inlF Tryz.prog te eqL dX_ Tryz.f162 (.p:Pl)) (tb 96 c_96 dX_)) Tryz.f195 [.bm 157 (.st 9) [] false,.d .str] [(.str,[]),qJ] (.s .p (.s (.s .p (.lp ⟨[(10,.d qI)],[(3,true,.row 9 .str [])],[0,1,8,9],[0],[],7⟩ ⟨[],[],[],[0],[],7⟩ true .p)) .p)) a:=by kernel_rfl
def c_195:Con te:=ag_ te [.bm 157 (.st 9) [] false,.d .str] [(.str,[]),qJ] true (qu2 dR_)
theorem ok_195:OKF 195 c_195:=⟨ab_ ad_ (cW_ ⟨ff_ ad_ ac_ Tryz.func162,by kernel_rfl⟩ (aa_ ok_96 ac_)) Tryz.func195 (by kernel_rfl) e_195,by kernel_rfl⟩
theorem e_160(a:PA te [.bm 157 (.st 9) [] false,.d .str]):bY_ a.1 a.2.1=gI_ Tryz.prog te eqL (ti 71 (inlF Tryz.prog te eqL (ti 114 dN_ dX_) Tryz.f71 (.p:Pl)) (tb 195 c_195 (tb 194 c_194 (tb 96 c_96 (tb 135 c_135 (ti 72 fE_ dX_)))))) Tryz.f160 [.bm 157 (.st 9) [] false,.d .str] [(.str,[])] (qp 2 (.s (.lp ⟨[(1,.d .str)],[(0,true,.box 157 (.st 9)),(2,true,.cells 110 [.sbp 2,.own 4]),(4,false,.row 5 (.int .u8) [])],[0,5],[],[],5⟩ ⟨[],[(2,true,.cells 110 [.sbp 2,.own 4]),(4,false,.row 5 (.int .u8) []),(0,true,.box 157 (.st 9))],[5],[],[],5⟩ false .p) .p)) a:=by kernel_rfl
def c_160:Con te:=ag_ te [.bm 157 (.st 9) [] false,.d .str] [(.str,[])] true (qu2 bY_)
theorem ok_160:OKF 160 c_160:=⟨ab_ ad_ (cW_ ⟨ff_ ad_ (cW_ eq_ ac_) Tryz.func71,by kernel_rfl⟩ (aa_ ok_195 (aa_ ok_194 (aa_ ok_96 (aa_ ok_135 (cW_ fV_ ac_)))))) Tryz.func160 (by kernel_rfl) e_160,by kernel_rfl⟩
def c_228:Con te:=ag_ te [.g (.sl (.st 2)) [some 87],.f1 (.st 2) .bool] [(.sl (.st 2),[])] true (qu2 b2_)
theorem ok_228:OKF 228 c_228:=⟨ab_ ad_ (aa_ ok_186 ac_) Tryz.func228 (by kernel_rfl) (pl:=qp 3 (.s (.s .p (.lp ⟨[(5,.d qI),(6,.d qI)],[(0,true,.row 87 (.st 2) [])],[0,1],[],[],11⟩ ⟨[(5,.d qI)],[(0,true,.row 87 (.st 2) [])],[0],[],[],11⟩ false (.s .p (.j ⟨[(5,.d qI)],[(0,true,.row 87 (.st 2) [])],[0,1,6],[],[],15⟩ false .p .p)))) .p)) λ_=>by kernel_rfl,by kernel_rfl⟩
def c_229:Con te:=ag_ te [.d (.st 2),.p .str] [qB] false (qu2 m0_)
theorem ok_229:OKF 229 c_229:=⟨ab_ ad_ ac_ Tryz.func229 (by kernel_rfl) (pl := .p) λ_=>by kernel_rfl,by kernel_rfl⟩
def c_196:Con te:=ag_ te [.d (.sl (.st 2)),.d .str] [(.sl (.st 2),[])] true (qu2 iS_)
theorem ok_196:OKF 196 c_196:=⟨ab_ ad_ (aa_ ok_229 (aa_ ok_228 (aa_ ok_87 ac_))) Tryz.func196 (by kernel_rfl) (pl := .p) λ_=>by kernel_rfl,by kernel_rfl⟩
def c_251:Con te:=ag_ te [.d (.st 2),.p .str] [qB] false (qu2 oV_)
theorem ok_251:OKF 251 c_251:=⟨ab_ ad_ ac_ Tryz.func251 (by kernel_rfl) (pl := .p) λ_=>by kernel_rfl,by kernel_rfl⟩
def c_231:Con te:=ag_ te [.d (.sl (.st 2)),.d .str] [qJ] false (qu2 kS_)
theorem ok_231:OKF 231 c_231:=⟨ab_ ad_ (aa_ ok_251 (aa_ ok_186 ac_)) Tryz.func231 (by kernel_rfl) (pl := .p) λ_=>by kernel_rfl,by kernel_rfl⟩
def c_230:Con te:=ag_ te [.d (.sl (.st 2)),.d .str] [(.str,[]),qB] false (qu2 l7_)
theorem ok_230:OKF 230 c_230:=⟨ab_ ad_ (aa_ ok_231 ac_) Tryz.func230 (by kernel_rfl) (pl := .p) λ_=>by kernel_rfl,by kernel_rfl⟩
def c_197:Con te:=ag_ te [.d (.sl (.st 2)),.d (.sl (.st 2))] [qB] false (qu2 iU_)
theorem ok_197:OKF 197 c_197:=⟨ab_ ad_ (aa_ ok_230 ac_) Tryz.func197 (by kernel_rfl) (pl := .s .p (.s (.s .p (.lp ⟨[(11,.d qI)],[],[0,9,10],[],[],4⟩ ⟨[],[],[],[],[],4⟩ true .p)) .p)) λ_=>by kernel_rfl,by kernel_rfl⟩
def c_198:Con te:=ag_ te [.d (.sl (.st 2)),.d .str,.d .str] [(.sl (.st 2),[some 87])] false (qu3 nN_)
theorem ok_198:OKF 198 c_198:=⟨ab_ ad_ (aa_ ok_231 (aa_ ok_87 ac_)) Tryz.func198 (by kernel_rfl) (pl := .p) λ_=>by kernel_rfl,by kernel_rfl⟩
def c_161:Con te:=ag_ te [.bm 157 (.st 9) [] false,.d .str,.d .str] [qB] true (qu3 dS_)
theorem ok_161:OKF 161 c_161:=⟨ab_ ad_ (aa_ ok_198 (aa_ ok_120 (aa_ ok_197 (aa_ ok_101 (aa_ ok_196 ac_))))) Tryz.func161 (by kernel_rfl) (pl:=qp 6 (.s (.s .p (.lp ⟨[(49,.d qI)],[(0,true,.cells 157 [.v .str,.v .str,.v .str,.v .str,.v (.sl (.st 2)),.v .str,.v .str,.v (.sl qI),.v .str]),(5,true,.row 87 (.st 2) [])],[0,47,48],[],[],23⟩ ⟨[],[(0,true,.box 157 (.st 9))],[],[],[],23⟩ false (qp 2 (.s (.s .p (.dr [0,0,0,0,0,0,0,0,0,0,1,4,4,4,2] [] false [])) .p)))) .p)) λ_=>by kernel_rfl,by kernel_rfl⟩
def c_258:Con te:=ag_ te [.d (.int .u64),.d (.int .u64)] [(.int .u64,[]),(.int .u64,[])] false (qu2 bits_Mul64)
theorem ok_258:OKF 258 c_258:=⟨ab_ ad_ ac_ Tryz.func258 (by kernel_rfl) (pl := .p) λ_=>by kernel_rfl,by kernel_rfl⟩
def c_252:Con te:=ag_ te [.d (.int .u64),.d (.int .u64)] [(.int .u64,[]),(.int .u64,[])] false (qu2 bits_Mul)
theorem ok_252:OKF 252 c_252:=⟨ab_ ad_ (aa_ ok_258 ac_) Tryz.func252 (by kernel_rfl) (pl := .p) λ_=>by kernel_rfl,by kernel_rfl⟩
def c_234:Con te:=ag_ te [.d (.sl qI),.d qI] [(.sl qI,[some 3])] false (qu2 fA_)
theorem ok_234:OKF 234 c_234:=⟨ab_ ad_ (aa_ ok_252 ac_) Tryz.func234 (by kernel_rfl) (pl := .s .p (.j ⟨[],[],[0,1],[],[],1⟩ false .p (.s .p (.j ⟨[],[],[0,6],[],[],12⟩ false .p (qp 2 (.s (.lp ⟨[(8,.d qI)],[(14,true,.row 3 qI [])],[7],[],[],22⟩ ⟨[],[(14,true,.row 3 qI [])],[7],[],[],22⟩ false (.s .p (.dr [4,0,0,0,0,0,0,2,4,4] [0,1,2,3,4,5,6] false []))) .p)))))) λ_=>by kernel_rfl,by kernel_rfl⟩
def c_200:Con te:=ag_ te [.d (.sl qI)] [(.sl qI,[some 3])] false λa=>bt_ a.1
theorem ok_200:OKF 200 c_200:=⟨ab_ ad_ ac_ Tryz.func200 (by kernel_rfl) (pl := .p) λa=>(congrFun m2_ a.1).symm.trans (by kernel_rfl),by kernel_rfl⟩
def cS_233(f:regex_machine->Int->(tL Int)->tO regex_machine):Con te:=ag_ te [.bm 254 (.st 11) [none,none,none,none,some 3,some 259] false,.d qI,.d (.sl qI)] [] true (qu3 f)
theorem okS_233(f:regex_machine->Int->(tL Int)->tO regex_machine)(h:OKF 233 (cS_233 f)):OKF 233 (cS_233 (cy_ f)):=⟨ab_ ad_ (aa_ ok_200 (aa_ h ac_)) Tryz.func233 (by kernel_rfl) (pl:=qp 9 (.s (.s .p (.s (.dr [0,0,0,0,0,0,0,0,2] [] false []) .p)) (qp 3 (.s (.s (qd 10) .p) .p)))) λ_=>by kernel_rfl,by kernel_rfl⟩
theorem okN_233:∀n,OKF 233 (cS_233 (am_ n))
 | 0=>⟨gL_ λ_=>rfl,by kernel_rfl⟩
 | n+1=>okS_233 _ (okN_233 n)
def c_233:Con te:=cS_233 (am_ BIG)
theorem ok_233:OKF 233 c_233:=okN_233 BIG
def c_236:Con te:=ag_ te [.d (.st 6),.d (.int .u8)] [qB] false (qu2 fO_)
theorem ok_236:OKF 236 c_236:=⟨ab_ ad_ ac_ Tryz.func236 (by kernel_rfl) (pl := .s .p (.s (qp 6 (.s (.s .p (.s (.s .p (.lp ⟨[(5,.d .bool),(6,.d qI)],[],[1,2],[0],[],13⟩ ⟨[(5,.d .bool)],[],[2],[0],[],13⟩ false .p)) .p)) .p)) .p)) λ_=>by kernel_rfl,by kernel_rfl⟩
theorem e_199(a:PA te [.d (.st 7),.d .str,.d qI,.d .bool]):kd_ a.1 a.2.1 a.2.2.1 a.2.2.2.1=gI_ Tryz.prog te eqL (ti 235 (inlF Tryz.prog te eqL dX_ Tryz.f235 (.s .p (.s (.s .p (.lx ⟨[(10,.d qI)],[(257,true,.row 259 (.st 10) [])],[0,8,9],[7,256],[],266⟩ ⟨[],[(257,true,.row 259 (.st 10) [])],[],[7,256],[],266⟩ ⟨[(2,.d (.sl qI))],[(257,true,.row 259 (.st 10) [])],[],[7,256],[],266⟩ (qp 2 (.s (.s .p (.s (qd 11) (.s (.s .p .rx) .p))) .p)))) .p))) (ti 232 (inlF Tryz.prog te eqL dX_ Tryz.f232 (.p:Pl)) (tb 236 c_236 (tb 233 c_233 (tb 234 c_234 dX_))))) Tryz.f199 [.d (.st 7),.d .str,.d qI,.d .bool] [(.sl qI,[]),qJ] (qp 6 (.lp ⟨[(11,.d (.sl qI)),(12,.d qI)],[(7,true,.cells 254 [.v (.sl (.st 6)),.v qI,.v .str,.v qI,.own 256,.own 257]),(256,false,.row 3 qI []),(257,false,.row 259 (.st 10) [])],[1,3,4,10],[0],[],258⟩ ⟨[],[],[],[],[],256⟩ true (.j ⟨[(11,.d (.sl qI)),(12,.d qI)],[(7,true,.cells 254 [.v (.sl (.st 6)),.v qI,.v .str,.v qI,.own 256,.own 257]),(256,true,.row 3 qI []),(257,true,.row 259 (.st 10) [])],[1,3,4,10],[0],[],258⟩ false (qp 2 (.s (qd 7) .p)) (.s .p (.s (qd 12) (qp 2 (.lp ⟨[(90,.d qI)],[(7,true,.cells 254 [.v (.sl (.st 6)),.v qI,.v .str,.v qI,.own 7511,.own 7512]),(7511,false,.row 3 qI []),(7512,false,.row 259 (.st 10) []),(257,true,.row 259 (.st 10) [])],[1,3,4,10,11,12,15,88,89],[0],[],7513⟩ ⟨[],[(7,true,.cells 254 [.v (.sl (.st 6)),.v qI,.v .str,.v qI,.own 7511,.own 7512]),(7511,false,.row 3 qI []),(7512,false,.row 259 (.st 10) [])],[1,3,4,10,11,12],[0],[],7513⟩ false (qp 2 (.j ⟨[],[(7,true,.cells 254 [.v (.sl (.st 6)),.v qI,.v .str,.v qI,.own 7514,.own 7515]),(7514,false,.row 3 qI []),(7515,false,.row 259 (.st 10) []),(257,true,.row 259 (.st 10) [])],[1,3,4,10,11,12,15,88,89,90],[0],[],7516⟩ false .p .p))))))))) a:=by kernel_rfl
def c_199:Con te:=ag_ te [.d (.st 7),.d .str,.d qI,.d .bool] [(.sl qI,[]),qJ] true (qu4 kd_)
theorem ok_199:OKF 199 c_199:=⟨ab_ ad_ (cW_ ⟨ff_ ad_ ac_ Tryz.func235,by kernel_rfl⟩ (cW_ ⟨ff_ ad_ ac_ Tryz.func232,by kernel_rfl⟩ (aa_ ok_236 (aa_ ok_233 (aa_ ok_234 ac_))))) Tryz.func199 (by kernel_rfl) e_199,by kernel_rfl⟩
def c_163:Con te:=ag_ te [.d (.st 7),.d .str] [(.sl qI,[some 3]),qB] false (qu2 c2_)
theorem ok_163:OKF 163 c_163:=⟨ab_ ad_ (aa_ ok_200 (aa_ ok_199 ac_)) Tryz.func163 (by kernel_rfl) (pl := .p) λ_=>by kernel_rfl,by kernel_rfl⟩
theorem e_125(a:PA te [.bm 157 (.st 9) [] false,.d (.st 0)]):b3_ a.1 a.2.1=gI_ Tryz.prog te eqL (ti 162 (inlF Tryz.prog te eqL dX_ Tryz.f162 (.p:Pl)) (tb 163 c_163 (tb 137 c_137 (tb 161 c_161 (tb 160 c_160 dX_))))) Tryz.f125 [.bm 157 (.st 9) [] false,.d (.st 0)] [qB] (qp 4 (.s (.dr [0,0,0,0,0,2,4] [] false []) (qp 3 (.s (.dr [0,0,0,0,1,4,4,4,4,4] [] false []) (.j ⟨[],[(0,true,.cells 157 [.v .str,.v .str,.v .str,.v .str,.v (.sl (.st 2)),.v .str,.v .str,.v (.sl qI),.v .str])],[11],[],[],4276⟩ false .p .p))))) a:=by kernel_rfl
def c_125:Con te:=ag_ te [.bm 157 (.st 9) [] false,.d (.st 0)] [qB] true (qu2 b3_)
theorem ok_125:OKF 125 c_125:=⟨ab_ ad_ (cW_ ⟨ff_ ad_ ac_ Tryz.func162,by kernel_rfl⟩ (aa_ ok_163 (aa_ ok_137 (aa_ ok_161 (aa_ ok_160 ac_))))) Tryz.func125 (by kernel_rfl) e_125,by kernel_rfl⟩
def c_86:Con te:=ag_ te [.d (.st 1),.d (.st 3)] [(.st 3,[]),(.str,[]),qB] true (qu2 f2_)
theorem ok_86:OKF 86 c_86:=⟨ab_ ad_ (aa_ ok_125 (aa_ ok_87 (aa_ ok_82 (aa_ ok_70 ac_)))) Tryz.func86 (by kernel_rfl) (pl:=qp 4 (.s (.s .p (.lp ⟨[(32,.d qI)],[(4014,true,.cells 157 [.v .str,.v .str,.v .str,.v .str,.v (.sl (.st 2)),.v .str,.v .str,.v (.sl qI),.v .str])],[4,7,30,31],[4],[],4031⟩ ⟨[],[(4014,true,.box 157 (.st 9))],[4,7],[4],[],4031⟩ true .p)) (.s .p (.s (.dr [0,0,0,0,0,0,0,0,1,4,4] [] true [4]) .p)))) λ_=>by kernel_rfl,by kernel_rfl⟩
def c_48:Con te:=ag_ te [.d (.sl (.st 1)),.d (.st 3)] [(.st 3,[]),(.str,[]),qB] true (qu2 d9_)
theorem ok_48:OKF 48 c_48:=⟨ab_ ad_ (aa_ ok_86 ac_) Tryz.func48 (by kernel_rfl) (pl := .s .p (.s (.s .p (.lp ⟨[(14,.d qI)],[],[3,4,12,13],[0,2],[],9⟩ ⟨[],[],[4],[2],[],9⟩ true .p)) .p)) λ_=>by kernel_rfl,by kernel_rfl⟩
def c_49:Con te:=ag_ te [.d (.sl (.st 4)),.f1 (.st 4) .bool] [qJ] false (qu2 aR_)
theorem ok_49:OKF 49 c_49:=⟨ab_ ad_ ac_ Tryz.func49 (by kernel_rfl) (pl := .s .p (.s (.s .p (.lp ⟨[(8,.d qI)],[],[0,1,7],[],[],4⟩ ⟨[],[],[],[],[],4⟩ true .p)) .p)) λ_=>by kernel_rfl,by kernel_rfl⟩
def c_50:Con te:=ag_ te [.d (.st 4),.p .str] [qB] false (qu2 fi_)
theorem ok_50:OKF 50 c_50:=⟨ab_ ad_ ac_ Tryz.func50 (by kernel_rfl) (pl := .p) λ_=>by kernel_rfl,by kernel_rfl⟩
def c_51:Con te:=ag_ te [.d (.st 3)] [qB] false λa=>dw_ a.1
theorem ok_51:OKF 51 c_51:=⟨ab_ ad_ (aa_ ok_47 ac_) Tryz.func51 (by kernel_rfl) (pl := .p) λ_=>by kernel_rfl,by kernel_rfl⟩
noncomputable abbrev fSend:Func:=Tryz.f19
noncomputable def sC:Code:=fSend.body.getD .skip
noncomputable def sR0:Code:=sC.lf
noncomputable def sR1:Code:=sC.rt.lf
noncomputable def sP2:Code:=sC.rt.rt.lf
noncomputable def sR5:Code:=sC.rt.rt.rt.lf
noncomputable def sP6:Code:=sC.rt.rt.rt.rt.lf
noncomputable def sR8:Code:=sC.rt.rt.rt.rt.rt.lf
noncomputable def sB0:Code:=sC.rt.rt.rt.rt.rt.rt.lf
noncomputable def sR15:Code:=sC.rt.rt.rt.rt.rt.rt.rt.lf
noncomputable def sR16:Code:=sC.rt.rt.rt.rt.rt.rt.rt.rt.lf
theorem sC_eq:fSend.body=some (.seq sR0 (.seq sR1 (.seq sP2 (.seq sR5 (.seq sP6 (.seq sR8 (.seq sB0 (.seq sR15 (.seq sR16 .ret))))))))):=by kernel_rfl
theorem sR0_eq:sR0 = .region 0 [sR0.at 0,sR0.at 1,sR0.at 2,sR0.at 3].toArray false:=by kernel_rfl
theorem sR1_eq:sR1 = .region 1 [sR1.at 0,sR1.at 1,sR1.at 2,sR1.at 3].toArray false:=by kernel_rfl
noncomputable def s15:tL tP:=[sR15.at 0,sR15.at 1,sR15.at 2,sR15.at 3,sR15.at 4,sR15.at 5,sR15.at 6,sR15.at 7,sR15.at 8,sR15.at 9,sR15.at 10,sR15.at 11,sR15.at 12,sR15.at 13,sR15.at 14,sR15.at 15]
theorem sR15_eq:sR15 = .region 15 s15.toArray true:=by kernel_rfl
theorem sR16_eq:sR16 = .region 16 [sR16.at 0,sR16.at 1,sR16.at 2].toArray false:=by kernel_rfl
def sOrd:tL (Nat×tV):=[(0,false),(1,false),(2,false),(3,false),(4,false),(5,false),(6,false),(7,false),(8,false),(9,false),(10,true),(11,true),(12,true),(13,true),(14,true),(15,true)]
theorem s15_mix:mixBI .any s15.toArray [15] [] sOrd=true:=by kernel_rfl
noncomputable def tSend:Tab te:=tb 52 c_52 (tb 51 c_51 (tb 50 c_50 (tb 49 c_49 (tb 48 c_48 (tb 47 c_47 (tb 41 c_41 dX_))))))
theorem js_:tSend.OK Tryz.prog te:=aa_ ok_52 (aa_ ok_51 (aa_ ok_50 (aa_ ok_49 (aa_ ok_48 (aa_ ok_47 (aa_ ok_41 ac_))))))
noncomputable def bS(H:Nat->tO (Rt.Obj te)):Ba te:=⟨λ_=>none,H,5⟩
noncomputable abbrev evS(H:Nat->tO (Rt.Obj te))(c:Code)(pl:Pl){R:Type}(s:St te)(k:St te->tO R):tO R:=evCode Tryz.prog te eqL tSend 85 Unit (λ_ _=>none) c pl R (bS H) s (thenE k) (λ_=>none)
noncomputable def frH(l:tL (Nat×Rt.Obj te)):Nat->tO (Rt.Obj te):=λi=>aK_ i l
noncomputable def sH2(x0:Xk)(x1:Xq):Nat->tO (Rt.Obj te):=frH [(1,.fb (.st 5) x0),(2,.fb (.st 3) x1)]
noncomputable def sS2:St te:=⟨[(2,some (.v (.one (.ptr 1 0)))),(3,some (.v (.one (.ptr 2 0)))),(4,some (.v (.one (.ptr 3 0)))),(6,some (.v (.one (.ptr 4 0))))],none,[],none,10⟩
noncomputable def sK2(H:Nat->tO (Rt.Obj te))(s:St te):tO (Xq×tX):=(gj_ (s.L (bS H) 4)).bind λp=>(gj_ (s.L (bS H) 6)).bind λh=>(gj_ (s.L (bS H) 9)).bind λi=>(gj_ (s.L (bS H) 10)).bind λj=>(obBox 39 (s.H (bS H) i)).bind λcs=>(obBox 9 (s.H (bS H) j)).bind λds=>cL_ (!(Nat.beq i j)&&Nat.beq cs.length 6&&Nat.beq ds.length 1&&(Nat.beq p 3&&Nat.beq h 4))<|(i2_ .str cs[0]?).bind λa=>(i2_ .str cs[1]?).bind λb=>(i2_ .str cs[2]?).bind λc=>(i2_ .str cs[3]?).bind λd=>(i2_ (.sl (.st 2)) cs[4]?).bind λe=>(i2_ .str cs[5]?).bind λf=>(i2_ .str ds[0]?).bind λn=>some (Xq.mk a b c d e f,n)
theorem sEv2(x0:Xk)(x1:Xq):(evS (sH2 x0 x1) sP2 .p sS2 λq=>evS (sH2 x0 x1) sR5 .p q λj=>evS (sH2 x0 x1) sP6 (.s .p (.s (.dr [0,0,0,1,1] [] true [27,29]) .p)) j (sK2 (sH2 x0 x1))) =
  (d8_ x1).bind λh=>bif(h.2 != 0)then none else(d9_ x0.Xd x1).bind λf=>bif(!f.2.2)then some (x1,x1.Xe)else some (f.1,f.2.1):=by kernel_rfl
noncomputable def sH3(y:Xk)(m:Xq)(n:tX):Nat->tO (Rt.Obj te):=frH [(1,.fb (.st 5) y),(2,.fb (.st 3) m),(3,.fb .str n)]
noncomputable def sS3:St te:=⟨[(6,some (.v (.one (.ptr 1 0)))),(9,some (.v (.one (.ptr 2 0)))),(10,some (.v (.one (.ptr 3 0)))),(4,some (.v (.one (.ptr 4 0))))],none,[],none,10⟩
noncomputable def sK3(H:Nat->tO (Rt.Obj te))(s:St te):tO Int:=(gj_ (s.L (bS H) 4)).bind λk=>(gj_ (s.L (bS H) 6)).bind λi=>(gj_ (s.L (bS H) 9)).bind λj=>cL_ (Nat.beq i 1&&Nat.beq j 2&&Nat.beq k 4) (svInt (s.L (bS H) 12))
noncomputable def sPl0:Pl := .s (.ot 0 (.free 0 (.free 1 (.free 2 (.spl 2 (.free 3 (.alt 4 (.free 5 (.alt 6 (.free 7 (.alt 8 (.free 9 (.alt 10 (.free 11 .nil) .nil)) .nil)) .nil)) .nil)) (.free 3 (.alt 4 (.free 5 (.alt 6 (.free 7 (.alt 8 (.free 9 (.alt 10 (.free 11 .nil) .nil)) .nil)) .nil)) .nil))))))) .p
theorem sEv3(y:Xk)(m:Xq)(n:tX):(evS (sH3 y m n) sR8 .p sS3 λs=>evS (sH3 y m n) sB0 sPl0 s (sK3 (sH3 y m n))) =
  (aR_ y.Xj (λ(q:Xy)=>Option.bind (fi_ q n) λ(j:tV)=>some j)).bind λy4 =>
  bif decide (y4<0)then none else(ah_ y.Xj y4).bind λy5=>bif(y5.Xc==0)then none else(dw_ m).bind λh=>bif(!h)then none else
  (ah_ y.Xj y4).bind λf=>bif decide ((f.Xn.length:Int)>=64)then none else some y4:=by kernel_rfl
end
end Go.Proofs.YtfbcbakhdkppoaaGreatDoor
