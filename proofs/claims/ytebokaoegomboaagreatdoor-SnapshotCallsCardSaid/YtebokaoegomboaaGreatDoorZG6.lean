/-
 What the statements of this seat hang on,part 6: Lw ShDl LDl ShFi LFi ShIn LIn ShRp LRp ShSb LSb Lq ShSf LSf K1 K2 K3 K4 K5 K6 K7 K8 K9 K10 K11 K12 K13 K14 K15 Num.
-/
import Derived.Test.YtebokaoegomboaaGreatDoorZG5
import Derived.Shelf.Slices.Delete
import Derived.Shelf.Spec.SlicesInsertGrow
import Derived.Test.YtebokaoegomboaaGreatDoorProg
import Derived.Ground.Names2Prog
import Derived.Lib.Agree
import Derived.KernelRfl
import Derived.Shelf.Strconv.Itoa4
import Derived.Ground.NamesProg
import Derived.Shelf.Strings.Repeat
import Derived.Shelf.Strings.Builder1
import Derived.Sort.Grow
import Derived.Sort.EncStr
import Derived.Shelf.SlSortCmp.NoneTotal
import Derived.Shelf.SlSortCmp.WholeK
import Derived.Shelf.SlGeneric
import Derived.WalkKit
import Derived.Laws.BitsLemmas
namespace Go
namespace Rt
open Go.RowKit Go.Shelf Go.Sort Go.Proofs Go.Lib
section
variable{P:Program}{E:TE}{z:Fz}{g:Ga}{w w' w0:World}{Bs:List Nat}{F0:Nat->Prop}
theorem splice_nil(cs:List Value)(o:Nat):splice cs o []=cs:=by
 simp[splice]
theorem splice_cons(cs:List Value)(o:Nat)(v:Value)(vs:List Value)(h:o<cs.length):splice (cs.set o v) (o+1) vs=splice cs o (v::vs):=by
 unfold splice;rw[List.take_set,List.take_succ_eq_append_getElem h,List.drop_set_of_lt (by omega),List.set_append_right _ _ (by rw[qS];omega),qS,zk (by omega)];simp;rw[show o+1+vs.length=o+(vs.length+1)by omega]
theorem setCell_heap{b o:Nat}{e:TypeId}{cs:List Value}{v:Value}(h:w.heap[b]? = some (.cells cs.toArray e (0,0))):(w.setCell ⟨b,o,none⟩ v).heap[b]? = some (.cells (cs.set o v).toArray e (0,0)):=by
 unfold World.setCell;simp only[zU,jB,h,qO,Option.isSome_none,qu,jJ];simp
theorem setCell_else{b o k:Nat}{v:Value}(h:k≠b):(w.setCell ⟨b,o,none⟩ v).heap[k]? = w.heap[k]? := by
 unfold World.setCell;simp only[zU];rw[qX λe=>h e.symm]
theorem setCell_grow{b o:Nat}{v:Value}:Grow w (w.setCell ⟨b,o,none⟩ v):=⟨rfl,rfl,rfl,by simp[World.setCell]⟩
theorem f0_{b:Nat}{e:TypeId}:∀(vs:List Value) (o:Nat) (cs:List Value) (w:World),w.heap[b]? = some (.cells cs.toArray e (0,0))->o+vs.length<=cs.length->(w.setCells b o vs).heap[b]? = some (.cells (splice cs o vs).toArray e (0,0))/\Grow w (w.setCells b o vs)/\∀k,k≠b->(w.setCells b o vs).heap[k]? = w.heap[k]?
 | [],o,cs,w,h,f=>⟨by rw[splice_nil];exact h,Grow.refl w,λ_ _=>rfl⟩
 | v::vs,o,cs,w,h,f=>by
  simp only[qLc]at f;obtain⟨m,q,p⟩:=f0_ vs (o+1) (cs.set o v) (w.setCell ⟨b,o,none⟩ v) (setCell_heap h) (by simp;omega);rw[splice_cons _ _ _ _ (by omega)]at m;exact⟨m,setCell_grow.trans q,λk j=>(p k j).trans (setCell_else j)⟩
def IV(xs:List Int):List Value:=xs.map (Value.int .i64)
theorem bH_(xs:List Int):(IV xs).length=xs.length:=by simp[IV]
theorem ok_{xs:List Int}:∀v∈IV xs,v.oneCell'=true:=λv f=>by
 obtain⟨x,_,rfl⟩:=qz.1 f;rfl
def RowI(w:World)(e:TypeId)(xs:List Int)(A:Option Addr)(cap:Nat):Prop:=(A=none/\cap=0/\xs=[])\/∃b cs,A=some ⟨b,0,none⟩/\w.heap[b]? = some (.cells (cs:List Value).toArray e (0,0))/\xs.length<=cap/\cap<=maxLen/\cs.length=cap/\cs.take xs.length=IV xs
theorem rows_IV{xs:List Int}{rows:List (List Value)}(h:Rows E z (.int .i64) xs rows)(m:rows.length=xs.length):rows.flatten=IV xs:=by
 have:rows=xs.map λx=>[Value.int .i64 x]:=by
  apply zL;intro i;rw[qi];rcases qN i xs.length with hi|hi
  .have f:=qQ hi;have hr:=qQ (show i<rows.length by omega);obtain⟨vs,q,p⟩:=RD.int_inv (show RD E z [.int .i64] (xs[i],()) rows[i]from h i _ _ f hr);rw[hr,f,q,p.nil_inv];rfl
  .rw[qR (by omega),qR hi];rfl
 rw[this];clear this h m
 induction xs with
 | nil=>rfl
 | cons x xs j=>simp only[zB,qv,j];rfl
theorem rowI_of{id:Nat}{e:TypeId}{xs:List Int}(h:ObjR P E z g w id (.row e (.int .i64) xs [])):∃l,g id=some l/\l.n=xs.length/\RowI w e xs l.A l.cap:=by
 obtain⟨l,rows,U,C,O,f,D,G,j,_⟩:=h;have s:l.c=1:=O;rw[s,rows_IV j (by omega)]at f;refine⟨l,U,C,?_⟩;obtain⟨_,u⟩:=f;rcases u with⟨u,V⟩|⟨b,cap,cur,F,_,M,J,q,p,m⟩
 .injection u with y Y x;exact .inl ⟨y,x,zu.1 (by omega)⟩
 .injection F with y _ x;subst x;exact .inr ⟨b,cur.toList,y,by simpa using M,by omega,q,by simpa using p,by rw[Nat.mul_one,C]at m;exact m⟩
theorem rowI_mk{id:Nat}{e:TypeId}{xs:List Int}{A:Option Addr}{cap:Nat}(h:RowI w e xs A cap)(j:g id=some ⟨A,xs.length,cap,1,0,0⟩):ObjR P E z g w id (.row e (.int .i64) xs []):=by
 have f:(xs.map λx=>[Value.int .i64 x]).flatten=IV xs:=by
  clear h j
  induction xs with
  | nil=>rfl
  | cons x xs m=>simp only[zB,qv,m];rfl
 refine⟨_,xs.map λx=>[Value.int .i64 x],j,rfl,rfl,?_,by simp,λr hr => ?_,λi x r q hr => ?_,λp s=>nomatch s⟩
 .rw[f];refine⟨by simp[bH_],?_⟩;rcases h with⟨rfl,rfl,rfl⟩|⟨b,cs,rfl,u,F,D,C,y⟩
  .exact .inl ⟨rfl,rfl⟩
  .exact .inr ⟨b,cap,cs.toArray,rfl,zV _,u,F,D,by simpa using C,by rw[Nat.mul_one];exact y⟩
 .obtain⟨x,_,rfl⟩:=qz.1 hr;rfl
 .rw[qi]at hr;rw[q]at hr;obtain rfl:=qSj hr;exact RD.int .nil
theorem RowI.cell{e:TypeId}{xs:List Int}{b cap:Nat}(h:RowI w e xs (some ⟨b,0,none⟩) cap){j:Nat}{v:Value}(m:(IV xs)[j]? = some v):w.cell? ⟨b,0+j,none⟩=some v:=by
 rcases h with⟨h,_⟩|⟨y,cs,f,p,x,u,s,q⟩
 .cases h
 .injection f with f;injection f with f;subst f;rw[qg,cell_of_row w b j _ e (0,0) p];rw[←q,zX]at m;split at m
  .simpa using m
  .cases m
theorem HR.rowI{e:TypeId}{xs zs:List Int}{i i':Nat}{H H':Nat->Option (Obj E)}{A A':Option Addr}{cap':Nat}{l:Loc}(h:HR P E Bs F0 w0 w z g H)(hi:H i=some (.row e (.int .i64) xs []))(u:g i=some l)(M:l.A=A)(s:g i'=none)
  (F:Grow w w') (x:∀k,k<w.heap.size->¬cQ_ A k->w'.heap[k]? = w.heap[k]?) (hr:RowI w' e zs A' cap') (D:∀k,cQ_ A' k->cQ_ A k\/w.heap.size<=k)
  (J:∀j o,H' j=some o->j=i'/\o = .row e (.int .i64) zs []):HR P E Bs F0 w0 w' z (g.put i' ⟨A',zs.length,cap',1,0,0⟩) H':=by
 refine h.turn (Ga.le_put s) (i:=i) (i':=i') (C:=cQ_ A) (λq ⟨a,G,f⟩=>⟨_,hi,l,a,u,M.trans G,f⟩) F x (o' := .row e (.int .i64) zs []) (rowI_mk hr (Ga.put_self _ _ _)) (λq f => ?_) λj p y => .inl (J j p y)
 obtain⟨l2,a2,m,O,rfl⟩:=f;rw[Ga.put_self]at m;obtain rfl:=qSj m;exact D _ ⟨a2,O,rfl⟩
theorem vi_(k:Nat):(Builtin.zeroCells (Value.int .i64 0).cells k).size=k:=by simp[Builtin.zeroCells,Value.cells]
theorem vj_{e:TypeId}{xs:List Int}{Z:Array Value}{G:Nat}(h:xs.length+Z.size=G)(f:G<=maxLen):RowI (w.drew.alloc (.cells ((IV xs).toArray++Z) e)) e xs (some ⟨w.heap.size,0,none⟩) G :=
 .inr ⟨w.heap.size,IV xs++Z.toList,rfl,by refine(MapKept.heap_alloc w.drew _).1.trans ?_;congr 3;apply Array.ext';simp,by omega,f,by simp[bH_];exact h,by rw[zN (by rw[bH_];exact qA _),qf (by rw[bH_];exact qA _)]⟩
theorem vk_(o:Go.Obj):Grow w (w.drew.alloc o):=(show Grow w w.drew from⟨rfl,rfl,rfl,qA _⟩).trans (Grow.of_below (Ext.one w.drew _).below)
theorem insert_run{ρ:Ren}(L:Lays2.n21 P ρ){xs m:List Int}{A:Option Addr}{cap vb vc:Nat}{i:Nat}(hx:RowI w (ρ.t 3) xs A cap)(hy:RowI w (ρ.t 3) m (some ⟨vb,0,none⟩) vc)(hm:0<m.length)(hi:i<=xs.length)(J:(xs.length+m.length)*8<=140737488355328)(hap:¬cQ_ A vb) :
  Ret P (ρ.f 21) #[.slice A xs.length cap,.int .i64 (i:Int),.slice (some ⟨vb,0,none⟩) m.length vc] w λv w'=>∃A' cap',v = .slice A' (xs.take i++(m++xs.drop i)).length cap'/\RowI w' (ρ.t 3) (xs.take i++(m++xs.drop i)) A' cap'/\Grow w w'/\(∀k,k<w.heap.size->¬cQ_ A k->w'.heap[k]? = w.heap[k]?)/\∀k,cQ_ A' k->cQ_ A k\/w.heap.size<=k:=by
 have s:(xs.take i++(m++xs.drop i)).length=xs.length+m.length:=by simp;omega
 have C:=λj v (h:(IV m)[j]? = some v)=>hy.cell h
 have ZZ:xs.length+m.length<=maxLen:=by unfold maxLen;omega
 rcases hx with⟨rfl,rfl,rfl⟩|⟨b,cs,rfl,U,h1,h2,h3,h4⟩
 .obtain rfl:i=0:=by simpa using hi
  have:=Any2.slices_Insert_int_end_grow L none 0 0 vb 0 m.length vc [] (IV m) w hm (qA _) (by omega) (by simpa using J) rfl (bH_ _) (λ_=>rfl) (λ_ h=>nomatch h) C ok_;refine Calls.mono this λe w' ⟨M,y⟩=>⟨_,M,some ⟨w.heap.size,0,none⟩,grownCap w (0+m.length) 0 (ρ.t 3),by rw[s];rfl,?_,?_,λk u _ => ?_,λk ⟨a,ha,u⟩ => ?_⟩
  .subst y;have:=grownCap_ge w (0+m.length) 0 (ρ.t 3);rw[show([]:List Int).take 0++(m++([]:List Int).drop 0)=m by simp];refine vj_ (xs:=m) ?_ (grownCap_le_maxLen _ _ _ _ (show 0+m.length<=maxLen by rw[qg];simpa using ZZ));rw[vi_]
   revert this;generalize grownCap w (0+m.length) 0 (ρ.t 3)=G;omega
  .subst y;exact vk_ _
  .subst y;exact(MapKept.heap_alloc w.drew _).2 k u
  .obtain rfl:=qSj ha;exact .inr (by subst u;exact qA _)
 .have ZL:b<w.heap.size:=by
   rcases qN b w.heap.size with h'|h'
   .exact h'
   .rw[zQ h']at U;cases U
  have Y:∀j v,(IV xs)[j]? = some v->w.cell? ⟨b,0+j,none⟩=some v:=λj v h=>RowI.cell (.inr ⟨b,cs,rfl,U,h1,h2,h3,h4⟩) h
  have ZP:vb≠b:=λh=>hap ⟨_,rfl,h⟩
  have D:∀j,j<cap->(w.cell? ⟨b,0+j,none⟩).isSome=true:=λj hj=>by
   rw[qg,cell_of_row w b j _ _ (0,0) U];simp;omega
  have ZS:∀j,w.frozen? ⟨b,j,none⟩=false:=λj=>by unfold World.frozen?;simp only[U];simp
  have ZT:∀{w':World},(∀k,k≠b->w'.heap[k]? = w.heap[k]?)->∀k,k<w.heap.size->¬cQ_ (some ⟨b,0,none⟩) k->w'.heap[k]? = w.heap[k]? := λh k _ u=>h k λe=>u ⟨_,rfl,e⟩
  have x:cap<=9223372036854775807:=by unfold maxLen at h2;omega
  have ZM:cs=IV xs++cs.drop xs.length:=by rw[←h4,zn]
  rcases qN i xs.length with ZU|ZN
  .rcases qN cap (xs.length+m.length)with p|p
   .have:=Any2.slices_Insert_int_grow L b 0 xs.length cap i vb 0 m.length vc (IV xs) (IV m) w ZU hm h1 p J (bH_ _) (bH_ _) Y C ok_ ok_;obtain⟨G,hG⟩:∃G,G=grownCap w (xs.length+m.length) cap (ρ.t 3):=⟨_,rfl⟩;have ZR:xs.length+m.length<=G:=by rw[hG];exact grownCap_ge w _ _ _
    have ZY:G<=maxLen:=by rw[hG];exact grownCap_le_maxLen _ _ _ _ ZZ
    rw[←hG]at this;obtain⟨row,F⟩:∃row:List Value,row.toArray=((IV xs).take i).toArray++Builtin.zeroCells (Value.int .i64 0).cells (xs.length+m.length-i)++Builtin.zeroCells (Value.int .i64 0).cells (G-(xs.length+m.length)):=⟨_,zW⟩;have Z:row.length=G:=by
     have:=qL Array.size F;simp[Builtin.zeroCells,Value.cells,bH_]at this;omega
    have ZO:row.take i=(IV xs).take i:=by
     have:=qL Array.toList F;simp only[Array.toList_append,qe]at this;rw[this,zN (by simp[bH_];omega),qf (by rw[qS];omega)]
    rw[←F]at this;refine Calls.mono this λe w' ⟨M,y⟩ => ?_
    have a1:=MapKept.heap_alloc w (.cells row.toArray (ρ.t 3));obtain⟨a2,a3,a4⟩:=f0_ (b:=w.heap.size) (e:=ρ.t 3) (IV m) i row ((w.alloc (.cells row.toArray (ρ.t 3))).drew) a1.1 (by rw[bH_,Z];omega);obtain⟨a5,a6,a7⟩:=f0_ (b:=w.heap.size) (e:=ρ.t 3) ((IV xs).drop i) (i+m.length) _ (((w.alloc (.cells row.toArray (ρ.t 3))).drew.setCells w.heap.size i (IV m)).drew) a2 (by simp[splice,bH_,Z];omega);rw[←y]at a5 a6 a7;refine⟨_,M,some ⟨w.heap.size,0,none⟩,G,by rw[s],.inr ⟨w.heap.size,_,rfl,a5,by rw[s];exact ZR,ZY,?_,?_⟩,?_,λk u _ => ?_,λk ⟨a,ha,u⟩ => ?_⟩
    .simp[splice,bH_,Z];omega
    .rw[s];simp only[splice,ZO,bH_,qc];have e1:((IV xs).take i++IV m++row.drop (i+m.length)).take (i+m.length)=(IV xs).take i++IV m:=by
      rw[zN (by simp[bH_];omega),qf (by simp[bH_];omega)]
     rw[e1,zN (by simp[bH_];omega),qf (by simp[bH_];omega)];simp[IV]
    .exact(Grow.of_below (Ext.one w _).below).trans ((show Grow (w.alloc _) (w.alloc _).drew from⟨rfl,rfl,rfl,qA _⟩).trans (a3.trans ((show Grow (World.setCells _ _ _ _) (World.setCells _ _ _ _).drew from⟨rfl,rfl,rfl,qA _⟩).trans a6)))
    .have ZV:k≠w.heap.size:=by omega
     exact(a7 k ZV).trans ((a4 k ZV).trans (a1.2 k u))
    .obtain rfl:=qSj ha;exact .inr (by subst u;exact qA _)
   .have ZQ:=hy;rcases ZQ with⟨h,_⟩|⟨vb',vs,O,ZX,v1,v2,v3,v4⟩
    .cases h
    .injection O with O;injection O with O;subst O;have ZW:∀{q:Nat} {l:List Value},w.heap[q]? = some (.cells l.toArray (ρ.t 3) (0,0))->w.shape? q=some (ρ.t 3,l.length):=λh=>by unfold World.shape?;simp[h]
     have V:∀j,w.frozen? ⟨vb,j,none⟩=false:=λj=>by unfold World.frozen?;simp only[ZX];simp
     have:=Any2.slices_Insert_int_shift L b 0 xs.length cap i vb 0 m.length vc (IV xs) (IV m) w ZU hm p x ZP (bH_ _) (bH_ _) Y (λj hj=>D j (by omega)) (λj _=>ZS _) C ok_ ok_ _ _ _ _ (ZW ZX) (ZW U) (by omega) (V _) (V _);refine Calls.mono this λe w' ⟨M,y⟩ => ?_
     obtain⟨a2,a3,a4⟩:=f0_ (b:=b) (e:=ρ.t 3) ((IV xs).drop i) (0+(i+m.length)) cs w.drew U (by simp[bH_];omega);obtain⟨a5,a6,a7⟩:=f0_ (b:=b) (e:=ρ.t 3) (IV m) (0+i) _ _ a2 (by simp[splice,bH_];omega);rw[←y]at a5 a6 a7;refine⟨_,M,some ⟨b,0,none⟩,cap,by rw[s],.inr ⟨b,_,rfl,a5,by rw[s];exact p,h2,?_,?_⟩,?_,ZT λk u => ?_,λk u => .inl u⟩
     .simp[splice,bH_];omega
     .rw[s];simp only[splice,bH_,qg,qc];have O:∀(l:List Value),((cs.take (i+m.length))++l).take i=(IV xs).take i:=λl=>by
       rw[zN (by simp;omega),List.take_take,zk (by omega),←h4,List.take_take,zk (by omega)]
      have e2:((cs.take (i+m.length))++(IV xs).drop i++cs.drop (i+m.length+(xs.length-i))).drop (i+m.length)=(IV xs).drop i++cs.drop (i+m.length+(xs.length-i)):=by
       rw[qe];exact List.drop_left' (by simp;omega)
      rw[e2,qe (cs.take _),O,qe,←qe (IV m),←qe,zN (by simp[bH_];omega),qf (by simp[bH_];omega)];simp[IV]
     .exact(show Grow w w.drew from⟨rfl,rfl,rfl,qA _⟩).trans (a3.trans a6)
     .exact(a7 k u).trans (a4 k u)
  .obtain rfl:i=xs.length:=by omega
   rcases qN cap (xs.length+m.length)with p|p
   .have:=Any2.slices_Insert_int_end_grow L (some ⟨b,0,none⟩) xs.length cap vb 0 m.length vc (IV xs) (IV m) w hm h1 p J (bH_ _) (bH_ _) (λh=>nomatch h) (λa ha j v hj=>by obtain rfl:=qSj ha;rw[Addr.add_lit];exact Y j v hj) C ok_;obtain⟨G,hG⟩:∃G,G=grownCap w (xs.length+m.length) cap (ρ.t 3):=⟨_,rfl⟩;have ZR:xs.length+m.length<=G:=by rw[hG];exact grownCap_ge w _ _ _
    have ZY:G<=maxLen:=by rw[hG];exact grownCap_le_maxLen _ _ _ _ ZZ
    rw[←hG]at this;have O:IV xs++IV m=IV (xs++m):=by simp[IV]
    have e1:xs.take xs.length++(m++xs.drop xs.length)=xs++m:=by simp
    rw[O]at this;rw[e1];refine Calls.mono this λe w' ⟨M,y⟩=>⟨_,M,some ⟨w.heap.size,0,none⟩,G,by rw[qLa],?_,?_,λk u _ => ?_,λk ⟨a,ha,u⟩ => ?_⟩
    .subst y;exact vj_ (by rw[vi_,qLa];omega) ZY
    .subst y;exact vk_ _
    .subst y;exact(MapKept.heap_alloc w.drew _).2 k u
    .obtain rfl:=qSj ha;exact .inr (by subst u;exact qA _)
   .have:=Any2.slices_Insert_int_end_room L b 0 xs.length cap vb 0 m.length vc (IV m) w hm p x (bH_ _) (λj hj=>by rw[zO];exact D _ (by omega)) (λj _=>ZS _) C ok_;refine Calls.mono this λe w' ⟨M,y⟩ => ?_
    obtain⟨a2,a3,a4⟩:=f0_ (b:=b) (e:=ρ.t 3) (IV m) (0+xs.length) cs w U (by simp[bH_];omega);rw[←y]at a2 a3 a4;refine⟨_,M,some ⟨b,0,none⟩,cap,by rw[s],.inr ⟨b,_,rfl,a2,by rw[s];exact p,h2,?_,?_⟩,a3,ZT a4,λk u => .inl u⟩
    .simp[splice,bH_];omega
    .rw[s];simp only[splice,qg];rw[zN (by simp[bH_];omega),qf (by simp only[qLa,qS,bH_];omega),h4];simp[IV]
theorem insN_some{α:Type}{by_:Nat}{xs f zs:List α}{i:Int}(h:insN by_ xs i f=some zs):0<f.length/\0<=i/\i<=(xs.length:Int)/\(xs.length+f.length)*by_<=140737488355328/\zs=xs.take i.toNat++(f++xs.drop i.toNat):=by
 cases f with
 | nil=>cases h
 | cons y l =>
  simp only[insN]at h;split at h
  .rename_i j;obtain rfl:=qSj h;exact⟨Nat.succ_pos _,j.1,j.2.1,j.2.2,rfl⟩
  .cases h
theorem delN_some{α:Type}{xs zs:List α}{i j:Int}(h:delN xs i j=some zs):xs≠[]/\0<=i/\i<=j/\j<=(xs.length:Int)/\zs=xs.take i.toNat++xs.drop j.toNat:=by
 cases xs with
 | nil=>cases h
 | cons x l =>
  simp only[delN,delI]at h;split at h
  .rename_i f;obtain rfl:=qSj h;exact⟨(λe=>nomatch e),f.1,f.2.1,f.2.2,rfl⟩
  .cases h
def conIns(E:TE)(e:TypeId):Con E:=aj_ E [.g (.sl (.int .i64)) [some e],.d (.int .i64),.g (.sl (.int .i64)) [some e]] [(.sl (.int .i64),[some e])] false λa=>insN (α:=Int) 8 a.1 a.2.1 a.2.2.1
theorem conIns_ok{ρ:Ren}(L:Lays2.n21 P ρ):Con.OK P E (ρ.f 21) (conIns E (ρ.t 3)):=by
 intro R a k r hr;obtain⟨y,h1,h2⟩:=bind_some hr;refine⟨_,_,h2,?_⟩;obtain⟨xs,i,G,u⟩:=a;obtain⟨hm,U,ZU,D,rfl⟩:=insN_some (show insN 8 xs i G=some y from h1);intro w z g Bs svs vs ZZ F C q;obtain rfl:=qSj (show some [V1.one (.own 0),.one (.dt (.int .i64) i),.one (.own 1)]=some svs from ZZ);cases q with
 | cons v1 q=>cases q with
  | cons v2 q=>cases q with
   | cons v3 q =>
    cases q
    have hx:=F.hold 0 (.row (ρ.t 3) (.int .i64) xs []) rfl;have hy:=F.hold 1 (.row (ρ.t 3) (.int .i64) G []) rfl;obtain⟨l0,g0,n0,r0⟩:=rowI_of hx;obtain⟨l1,g1,n1,r1⟩:=rowI_of hy;obtain⟨ZV,e0,rfl⟩:=v1;rw[g0]at e0;obtain rfl:=qSj e0;obtain⟨ZW,e1,rfl⟩:=v3;rw[g1]at e1;obtain rfl:=qSj e1;obtain⟨ZX,e2,_⟩:=RD.int_inv (show RD E z [.int .i64] (i,()) _ from v2);obtain⟨rfl,_⟩:=List.cons.inj e2;rcases r1 with⟨_,_,rfl⟩|x
    .cases hm
    .have r1'':=x;obtain⟨vb,cs,s,_⟩:=r1'';have hap:¬cQ_ l0.A vb:=λ⟨a0,ZY,Z⟩=>F.apart 0 1 _ _ vb (by decide) rfl rfl ⟨l0,a0,g0,ZY,Z⟩ ⟨l1,_,g1,s,rfl⟩
     have m:=insert_run L r0 (by rw[←s];exact .inr x) hm (i:=i.toNat) (by omega) D hap;rw[n0,n1,s];rw[Int.toNat_of_nonneg U]at m;refine m.mono λv w' ⟨A',cap',J,M,V,O,Y⟩ => ?_
     subst J;refine⟨z,g.put 2 ⟨A',_,cap',1,0,0⟩,[.one (.own 2)],Fz.Le.refl z,λ_=>rfl,Ga.le_put (C 2 (qA _)),rfl,⟨_,Ga.put_self _ _ _,rfl⟩,?_⟩;refine F.rowI (i:=0) (xs:=xs) rfl g0 rfl (C 2 (qA _)) V O M Y λj o hj => ?_
     rcases cg_ (H:=λ_=>none) (i:=2) (p := .row (ρ.t 3) (.int .i64) (xs.take i.toNat++(G++xs.drop i.toNat)) []) hj with h|⟨_,h⟩
     .exact h
     .cases h
theorem mapBlock_row{b:Nat}{e:TypeId}{cs:Array Value}{f:Array Value->Array Value}(h:w.heap[b]? = some (.cells cs e (0,0))):(mapBlock w b f).heap[b]? = some (.cells (f cs) e (0,0))/\Grow w (mapBlock w b f)/\∀k,k≠b->(mapBlock w b f).heap[k]? = w.heap[k]? := by
 refine⟨?_,⟨rfl,rfl,rfl,by simp[mapBlock]⟩,λk j => ?_⟩
 .unfold mapBlock;simp only[zU,jB,h,qO,onCells]
 .unfold mapBlock;simp only[zU];rw[qX λe=>j e.symm]
theorem delete_run{ρ:Ren}(L:Lays2.n23 P ρ){xs:List Int}{A:Option Addr}{cap:Nat}{i j:Nat}(hx:RowI w (ρ.t 3) xs A cap)(y:xs≠[])(D:i<=j)(hj:j<=xs.length) :
  Ret P (ρ.f 23) #[.slice A xs.length cap,.int .i64 (i:Int),.int .i64 (j:Int)] w λv w'=>∃A' cap',v = .slice A' (xs.take i++xs.drop j).length cap'/\RowI w' (ρ.t 3) (xs.take i++xs.drop j) A' cap'/\Grow w w'/\(∀k,k<w.heap.size->¬cQ_ A k->w'.heap[k]? = w.heap[k]?)/\∀k,cQ_ A' k->cQ_ A k\/w.heap.size<=k:=by
 rcases hx with⟨_,_,h⟩|⟨b,cs,rfl,F,h1,J,Z,h4⟩
 .exact absurd h y
 .have m:(xs.take i++xs.drop j).length=xs.length-(j-i):=by simp;omega
  have hH:Holds (Value.int .i64) w b 0 xs.toArray:=λq V=>by
   have x:q<xs.length:=by simpa using V
   refine⟨?_,by unfold World.frozen?;simp only[F];simp⟩;refine RowI.cell (xs:=xs) (.inr ⟨b,cs,rfl,F,h1,J,Z,h4⟩) ?_;rw[IV,qi,qQ x,getElem!_pos xs.toArray q V];simp
  have:=Any.slices_Delete_int L b 0 cap i j xs w hH h1 (by unfold maxLen at J;omega) D hj;refine Calls.mono this λe w' ⟨he,q,U⟩ => ?_
  obtain⟨d,Y⟩:∃d:Array Int,d=(xs.take i++xs.drop j++List.replicate (j-i) 0).toArray:=⟨_,rfl⟩;rw[←Y]at U;obtain⟨O,p,M⟩:=mapBlock_row (w:=Go.Sort.ahead w q) (f:=putCells (Value.int .i64) 0 d) F;rw[show mapBlock (Go.Sort.ahead w q) b (putCells (Value.int .i64) 0 d)=w' from U.symm]at O p M;subst Y;refine⟨_,he,some ⟨b,0,none⟩,cap,by rw[m],.inr ⟨b,_,rfl,by rw[zW];exact O,by rw[m];omega,J,by simp[putCells,Z],?_⟩,⟨p.os,p.tape,p.output,p.size⟩,λk _ C=>(M k λe=>C ⟨_,rfl,e⟩),λk C => .inl C⟩;rw[m]
  apply zL;intro t;rw[zX];split
  .rename_i ht;simp only[putCells,Array.toList_mapIdx,List.getElem?_mapIdx];have u:t<cs.length:=by omega
   rw[qQ u];have s:t<(xs.take i++xs.drop j++List.replicate (j-i) 0).toArray.size:=by simp;omega
   have G:∀(d:Array Int) (h:t<d.size),d[t]! = d[t]:=λd h=>getElem!_pos d t h
   rw[qO,qV ⟨zV _,by rw[qg];exact s⟩,Nat.sub_zero,G _ s,IV,qi,qQ (by omega)];simp only[List.getElem_toArray,qO];rw[List.getElem_append_left (by omega)]
  .rw[qR (by rw[bH_,m];omega)]
def conDel(E:TE)(e:TypeId):Con E:=aj_ E [.g (.sl (.int .i64)) [some e],.d (.int .i64),.d (.int .i64)] [(.sl (.int .i64),[some e])] false λa=>delN (α:=Int) a.1 a.2.1 a.2.2.1
theorem conDel_ok{ρ:Ren}(L:Lays2.n23 P ρ):Con.OK P E (ρ.f 23) (conDel E (ρ.t 3)):=by
 intro R a k r hr;obtain⟨y,h1,h2⟩:=bind_some hr;refine⟨_,_,h2,?_⟩;obtain⟨xs,i,j,u⟩:=a;obtain⟨D,J,ZW,hj,rfl⟩:=delN_some (show delN xs i j=some y from h1);intro w z g Bs svs vs U V s q;obtain rfl:=qSj (show some [V1.one (.own 0),.one (.dt (.int .i64) i),.one (.dt (.int .i64) j)]=some svs from U);cases q with
 | cons v1 q=>cases q with
  | cons v2 q=>cases q with
   | cons v3 q =>
    cases q
    have hx:=V.hold 0 (.row (ρ.t 3) (.int .i64) xs []) rfl;obtain⟨l0,Y,n0,r0⟩:=rowI_of hx;obtain⟨ZX,Z,rfl⟩:=v1;rw[Y]at Z;obtain rfl:=qSj Z;obtain⟨ZY,e2,_⟩:=RD.int_inv (show RD E z [.int .i64] (i,()) _ from v2);obtain⟨rfl,_⟩:=List.cons.inj e2;obtain⟨ZZ,e3,_⟩:=RD.int_inv (show RD E z [.int .i64] (j,()) _ from v3);obtain⟨rfl,_⟩:=List.cons.inj e3;have m:=delete_run L r0 D (i:=i.toNat) (j:=j.toNat) (by omega) (by omega);rw[Int.toNat_of_nonneg J,Int.toNat_of_nonneg (by omega)]at m;rw[n0];refine m.mono λv w' ⟨A',cap',x,C,M,F,O⟩ => ?_
    subst x;refine⟨z,g.put 1 ⟨A',_,cap',1,0,0⟩,[.one (.own 1)],Fz.Le.refl z,λ_=>rfl,Ga.le_put (s 1 (qA _)),rfl,⟨_,Ga.put_self _ _ _,rfl⟩,?_⟩;refine V.rowI (i:=0) (xs:=xs) rfl Y rfl (s 1 (qA _)) M F C O λj' o G => ?_
    rcases cg_ (H:=λ_=>none) (i:=1) (p := .row (ρ.t 3) (.int .i64) (xs.take i.toNat++xs.drop j.toNat) []) G with h|⟨_,h⟩
    .exact h
    .cases h
end
end Rt
end Go
namespace Go.Proofs
open Go.Shelf
def Tryz.laysDelete_ren:Go.Shelf.Ren:=⟨λ | 23=>269|n=>n,λ | 22=>27 | 3=>3 | 4=>4 | 0=>0|n=>n,λ|n=>n⟩
theorem Tryz.laysDelete:Go.Proofs.Lays2.n23 Tryz.prog Tryz.laysDelete_ren:={
 mixed:=by kernel_rfl
 f23:=Tryz.func269.trans (qL some (by kernel_rfl))
 t0:=Tryz.underlying0
 a0:=Tryz.isAgg0
 z0:=Tryz.sizeOf0
 v0:=Tryz.zeroValue0
 t3:=Tryz.underlying3
 a3:=Tryz.isAgg3
 z3:=Tryz.sizeOf3
 v3:=Tryz.zeroValue3
 t4:=Tryz.underlying4
 a4:=Tryz.isAgg4
 z4:=Tryz.sizeOf4
 v4:=Tryz.zeroValue4
 t22:=Tryz.underlying27
 a22:=Tryz.isAgg27
 z22:=Tryz.sizeOf27
 v22:=Tryz.zeroValue27
 i3:=by kernel_rfl }
end Go.Proofs
namespace Go.Proofs.YtebokaoegomboaaGreatDoor
open Go.Shelf Go.RowKit Go.Rt
theorem fDelete:Tryz.laysDelete_ren.f 23=269:=by kernel_rfl
theorem tDelete:Tryz.laysDelete_ren.t 3=3:=by kernel_rfl
def tm_:Con te:=conDel te 3
theorem qX_:Con.OK Tryz.prog te 269 tm_/\dU_ Tryz.prog 269=true:=by
 refine⟨?_,by kernel_rfl⟩;have h:=conDel_ok (E:=te) Tryz.laysDelete;rw[fDelete,tDelete]at h;exact h
end Go.Proofs.YtebokaoegomboaaGreatDoor
namespace Go.Proofs
open Go.Shelf
def Tryz.laysFormatInt_ren:Go.Shelf.Ren:=⟨λ | 173=>133 | 246=>196 | 283=>265 | 284=>266 | 285=>267 | 286=>268 | 129=>320 | 317=>321 | 318=>322 | 319=>323 | 320=>324 | 337=>352 | 338=>353|n=>n,λ | 2=>2 | 3=>3 | 9=>9 | 4=>4 | 171=>266 | 0=>0 | 53=>267 | 37=>235 | 5=>5 | 173=>270 | 212=>308 | 51=>306 | 20=>20 | 213=>309 | 46=>265 | 232=>350 | 233=>351|n=>n,λ | 17=>0 | 18=>1 | 19=>2|n=>n⟩
theorem Tryz.laysFormatInt:Go.Proofs.LaysM.n173 Tryz.prog Tryz.laysFormatInt_ren:={
 mixed:=by kernel_rfl
 f129:=Tryz.func320.trans (qL some (by kernel_rfl))
 f173:=Tryz.func133.trans (qL some (by kernel_rfl))
 f246:=Tryz.func196.trans (qL some (by kernel_rfl))
 f283:=Tryz.func265.trans (qL some (by kernel_rfl))
 f284:=Tryz.func266.trans (qL some (by kernel_rfl))
 f285:=Tryz.func267.trans (qL some (by kernel_rfl))
 f286:=Tryz.func268.trans (qL some (by kernel_rfl))
 f317:=Tryz.func321.trans (qL some (by kernel_rfl))
 f318:=Tryz.func322.trans (qL some (by kernel_rfl))
 f319:=Tryz.func323.trans (qL some (by kernel_rfl))
 f320:=Tryz.func324.trans (qL some (by kernel_rfl))
 f337:=Tryz.func352.trans (qL some (by kernel_rfl))
 f338:=Tryz.func353.trans (qL some (by kernel_rfl))
 t0:=Tryz.underlying0
 a0:=Tryz.isAgg0
 z0:=Tryz.sizeOf0
 v0:=Tryz.zeroValue0
 t2:=Tryz.underlying2
 a2:=Tryz.isAgg2
 z2:=Tryz.sizeOf2
 v2:=Tryz.zeroValue2
 t3:=Tryz.underlying3
 a3:=Tryz.isAgg3
 z3:=Tryz.sizeOf3
 v3:=Tryz.zeroValue3
 t4:=Tryz.underlying4
 a4:=Tryz.isAgg4
 z4:=Tryz.sizeOf4
 v4:=Tryz.zeroValue4
 t5:=Tryz.underlying5
 a5:=Tryz.isAgg5
 z5:=Tryz.sizeOf5
 v5:=Tryz.zeroValue5
 t9:=Tryz.underlying9
 a9:=Tryz.isAgg9
 z9:=Tryz.sizeOf9
 v9:=Tryz.zeroValue9
 t20:=Tryz.underlying20
 a20:=Tryz.isAgg20
 z20:=Tryz.sizeOf20
 v20:=Tryz.zeroValue20
 t37:=Tryz.underlying235
 a37:=Tryz.isAgg235
 z37:=Tryz.sizeOf235
 v37:=Tryz.zeroValue235
 t46:=Tryz.underlying265
 a46:=Tryz.isAgg265
 z46:=Tryz.sizeOf265
 v46:=Tryz.zeroValue265
 t51:=Tryz.underlying306
 a51:=Tryz.isAgg306
 z51:=Tryz.sizeOf306
 v51:=Tryz.zeroValue306
 t53:=Tryz.underlying267
 a53:=Tryz.isAgg267
 z53:=Tryz.sizeOf267
 v53:=Tryz.zeroValue267
 t171:=Tryz.underlying266
 a171:=Tryz.isAgg266
 z171:=Tryz.sizeOf266
 v171:=Tryz.zeroValue266
 t173:=Tryz.underlying270
 a173:=Tryz.isAgg270
 z173:=Tryz.sizeOf270
 v173:=Tryz.zeroValue270
 t212:=Tryz.underlying308
 a212:=Tryz.isAgg308
 z212:=Tryz.sizeOf308
 v212:=Tryz.zeroValue308
 t213:=Tryz.underlying309
 a213:=Tryz.isAgg309
 z213:=Tryz.sizeOf309
 t232:=Tryz.underlying350
 a232:=Tryz.isAgg350
 z232:=Tryz.sizeOf350
 v232:=Tryz.zeroValue350
 t233:=Tryz.underlying351
 a233:=Tryz.isAgg351
 z233:=Tryz.sizeOf351
 v233:=Tryz.zeroValue351
 g17:=by kernel_rfl
 g18:=by kernel_rfl
 g19:=by kernel_rfl
 i0:=by kernel_rfl
 i2:=by kernel_rfl
 i3:=by kernel_rfl
 i4:=by kernel_rfl
 i5:=by kernel_rfl
 i9:=by kernel_rfl
 i20:=by kernel_rfl
 i37:=by kernel_rfl
 i46:=by kernel_rfl
 i51:=by kernel_rfl
 i53:=by kernel_rfl
 i171:=by kernel_rfl
 i173:=by kernel_rfl
 i212:=by kernel_rfl
 i232:=by kernel_rfl
 i233:=by kernel_rfl
 m17:=by kernel_rfl
 m18:=by kernel_rfl
 m19:=by kernel_rfl }
end Go.Proofs
namespace Go.Proofs.YtebokaoegomboaaGreatDoor
open Go.Shelf Go.RowKit Go.Rt
theorem fFormatInt:Tryz.laysFormatInt_ren.f 173=133:=by kernel_rfl
theorem digF_eq:∀(f u:Nat),u<10^(f+1)->digF (f+1) u=Lib.decDigits u
 | 0,u,h=>by
  have j:u<10:=by simpa using h
  rw[Lib.decDigits,dif_pos j];unfold digF;rw[qV j]
 | f+1,u,h=>by
  rw[Lib.decDigits,digF];by_cases j:u<10
  .rw[qV j,dif_pos j]
  .rw[qX j,dif_neg j,digF_eq f (u/10) (by rw[Nat.pow_succ]at h;omega)]
theorem pow10_in {w : World} {z : Fz} (hz : z.In w) (hg : Glo te z) : Lib.TabIs Tryz.prog w "internal/strconv.uint64pow10" .u64 Lib.pow10Tab := by
 obtain⟨hF,r,hr,_,e,c,hh⟩:=hg 0 globPT globP rfl;obtain⟨v1,e1,hr⟩:=RD.int_inv hr;obtain⟨v2,e2,hr⟩:=RD.int_inv hr;obtain⟨v3,e3,hr⟩:=RD.int_inv hr;obtain⟨v4,e4,hr⟩:=RD.int_inv hr;obtain⟨v5,e5,hr⟩:=RD.int_inv hr;obtain⟨v6,e6,hr⟩:=RD.int_inv hr;obtain⟨v7,e7,hr⟩:=RD.int_inv hr;obtain⟨v8,e8,hr⟩:=RD.int_inv hr;obtain⟨v9,e9,hr⟩:=RD.int_inv hr;obtain⟨ZZ,D,hr⟩:=RD.int_inv hr;obtain⟨Z,C,hr⟩:=RD.int_inv hr;obtain⟨Y,y,hr⟩:=RD.int_inv hr;obtain⟨V,x,hr⟩:=RD.int_inv hr;obtain⟨U,u,hr⟩:=RD.int_inv hr;obtain⟨O,s,hr⟩:=RD.int_inv hr;obtain⟨M,q,hr⟩:=RD.int_inv hr;obtain⟨J,p,hr⟩:=RD.int_inv hr;obtain⟨G,m,hr⟩:=RD.int_inv hr
 obtain⟨F,j,hr⟩:=RD.int_inv hr;obtain⟨v20,h,hr⟩:=RD.int_inv hr;have f:=hr.nil_inv;subst f h j m p q s u x y C D e9 e8 e7 e6 e5 e4 e3 e2 e1;have hw:=(hz _ hF).2.trans hh;unfold Lib.TabIs World.var?
 have hn : (Tryz.prog).globalNamed "internal/strconv.uint64pow10" = some 0 := by kernel_rfl
 rw[hn];simp only[qBs,hw];have ht:Lib.pow10Tab=[1,10,100,1000,10000,100000,1000000,10000000,100000000,1000000000,10000000000,100000000000,1000000000000,10000000000000,100000000000000,1000000000000000,10000000000000000,100000000000000000,1000000000000000000,10000000000000000000]:=by decide +kernel
 rw[ht];rfl
theorem rB_(x0 j:Int)(r:Str)(f:fD_ x0 j=some r)(w0:World)(z:Fz)(p:z.In w0)(q:Glo te z):Ret Tryz.prog 133 #[.int .i64 x0,.int .i64 j] w0 λv w=>v=S r/\Ext w0 w:=by
 unfold fD_ at f;split at f
 .rename_i h;obtain⟨rfl,y,x⟩:=h;obtain rfl:=qSj f;have m:=Any.strconv_FormatInt_10 Tryz.laysFormatInt x0 (by omega) x w0 (pow10_in p q);rw[fFormatInt]at m;refine Calls.mono m λe w ⟨s,k,os,u⟩=>⟨_,s,?_,⟨os,(w0.drewN k).drawn,u⟩⟩
  rw[digF_eq 19 _ (by omega)];unfold Lib.itoa;rw[qX (by omega)];rfl
 .cases f
def pX_:Con te:=aj_ te [.d (.int .i64),.d (.int .i64)] [(.str,[])] false λa=>fD_ a.1 a.2.1
theorem ol_:Con.OK Tryz.prog te 133 pX_/\dU_ Tryz.prog 133=true:=by
 refine⟨λR a k r hr => ?_,by kernel_rfl⟩;obtain⟨y,m,j⟩:=bind_some hr;exact⟨_,_,j,r4_ (y:=y) rfl rfl rfl rfl rfl λw z f h=>rB_ a.1 a.2.1 y m w z f h⟩
end Go.Proofs.YtebokaoegomboaaGreatDoor
namespace Go.Proofs
open Go.Shelf
def Tryz.laysInsert_ren:Go.Shelf.Ren:=⟨λ | 21=>245 | 27=>302 | 28=>303 | 35=>338 | 39=>361|n=>n,λ | 22=>27 | 3=>3 | 4=>4 | 0=>0|n=>n,λ|n=>n⟩
theorem Tryz.laysInsert:Go.Proofs.Lays2.n21 Tryz.prog Tryz.laysInsert_ren:={
 mixed:=by kernel_rfl
 f21:=Tryz.func245.trans (qL some (by kernel_rfl))
 f27:=Tryz.func302.trans (qL some (by kernel_rfl))
 f28:=Tryz.func303.trans (qL some (by kernel_rfl))
 f35:=Tryz.func338.trans (qL some (by kernel_rfl))
 f39:=Tryz.func361.trans (qL some (by kernel_rfl))
 t0:=Tryz.underlying0
 a0:=Tryz.isAgg0
 z0:=Tryz.sizeOf0
 v0:=Tryz.zeroValue0
 t3:=Tryz.underlying3
 a3:=Tryz.isAgg3
 z3:=Tryz.sizeOf3
 v3:=Tryz.zeroValue3
 t4:=Tryz.underlying4
 a4:=Tryz.isAgg4
 z4:=Tryz.sizeOf4
 v4:=Tryz.zeroValue4
 t22:=Tryz.underlying27
 a22:=Tryz.isAgg27
 z22:=Tryz.sizeOf27
 v22:=Tryz.zeroValue27
 i3:=by kernel_rfl }
end Go.Proofs
namespace Go.Proofs.YtebokaoegomboaaGreatDoor
open Go.Shelf Go.RowKit Go.Rt
theorem fInsert:Tryz.laysInsert_ren.f 21=245:=by kernel_rfl
theorem tInsert:Tryz.laysInsert_ren.t 3=3:=by kernel_rfl
def tn_:Con te:=conIns te 3
theorem qY_:Con.OK Tryz.prog te 245 tn_/\dU_ Tryz.prog 245=true:=by
 refine⟨?_,by kernel_rfl⟩;have h:=conIns_ok (E:=te) Tryz.laysInsert;rw[fInsert,tInsert]at h;exact h
end Go.Proofs.YtebokaoegomboaaGreatDoor
namespace Go.Proofs
open Go.Shelf
def Tryz.laysRepeat_ren:Go.Shelf.Ren:=⟨λ | 105=>304 | 212=>339 | 99=>340 | 165=>341 | 166=>342 | 170=>343 | 169=>344 | 263=>362 | 264=>363 | 206=>364 | 240=>365 | 241=>366 | 276=>371 | 277=>372|n=>n,λ | 9=>9 | 3=>3 | 4=>4 | 20=>20 | 0=>0 | 46=>265 | 109=>318 | 5=>5 | 72=>323 | 76=>327 | 51=>306 | 146=>343 | 53=>267 | 148=>345 | 70=>321 | 37=>235 | 75=>326 | 127=>347 | 164=>355 | 80=>256|n=>n,λ|n=>n⟩
theorem Tryz.laysRepeat:Go.Proofs.Lays.n105 Tryz.prog Tryz.laysRepeat_ren:={
 mixed:=by kernel_rfl
 f99:=Tryz.func340.trans (qL some (by kernel_rfl))
 f105:=Tryz.func304.trans (qL some (by kernel_rfl))
 f165:=Tryz.func341.trans (qL some (by kernel_rfl))
 f166:=Tryz.func342.trans (qL some (by kernel_rfl))
 f169:=Tryz.func344.trans (qL some (by kernel_rfl))
 f170:=Tryz.func343.trans (qL some (by kernel_rfl))
 f206:=Tryz.func364.trans (qL some (by kernel_rfl))
 f212:=Tryz.func339.trans (qL some (by kernel_rfl))
 f240:=Tryz.func365.trans (qL some (by kernel_rfl))
 f241:=Tryz.func366.trans (qL some (by kernel_rfl))
 f263:=Tryz.func362.trans (qL some (by kernel_rfl))
 f264:=Tryz.func363.trans (qL some (by kernel_rfl))
 f276:=Tryz.func371.trans (qL some (by kernel_rfl))
 f277:=Tryz.func372.trans (qL some (by kernel_rfl))
 t0:=Tryz.underlying0
 a0:=Tryz.isAgg0
 z0:=Tryz.sizeOf0
 v0:=Tryz.zeroValue0
 t3:=Tryz.underlying3
 a3:=Tryz.isAgg3
 z3:=Tryz.sizeOf3
 v3:=Tryz.zeroValue3
 t4:=Tryz.underlying4
 a4:=Tryz.isAgg4
 z4:=Tryz.sizeOf4
 v4:=Tryz.zeroValue4
 t5:=Tryz.underlying5
 a5:=Tryz.isAgg5
 z5:=Tryz.sizeOf5
 v5:=Tryz.zeroValue5
 t9:=Tryz.underlying9
 a9:=Tryz.isAgg9
 z9:=Tryz.sizeOf9
 v9:=Tryz.zeroValue9
 t20:=Tryz.underlying20
 a20:=Tryz.isAgg20
 z20:=Tryz.sizeOf20
 v20:=Tryz.zeroValue20
 t37:=Tryz.underlying235
 a37:=Tryz.isAgg235
 z37:=Tryz.sizeOf235
 v37:=Tryz.zeroValue235
 t46:=Tryz.underlying265
 a46:=Tryz.isAgg265
 z46:=Tryz.sizeOf265
 v46:=Tryz.zeroValue265
 t51:=Tryz.underlying306
 a51:=Tryz.isAgg306
 z51:=Tryz.sizeOf306
 v51:=Tryz.zeroValue306
 t53:=Tryz.underlying267
 a53:=Tryz.isAgg267
 z53:=Tryz.sizeOf267
 v53:=Tryz.zeroValue267
 t70:=Tryz.underlying321
 a70:=Tryz.isAgg321
 z70:=Tryz.sizeOf321
 v70:=Tryz.zeroValue321
 t72:=Tryz.underlying323
 a72:=Tryz.isAgg323
 z72:=Tryz.sizeOf323
 v72:=Tryz.zeroValue323
 t75:=Tryz.underlying326
 a75:=Tryz.isAgg326
 z75:=Tryz.sizeOf326
 v75:=Tryz.zeroValue326
 t76:=Tryz.underlying327
 a76:=Tryz.isAgg327
 z76:=Tryz.sizeOf327
 v76:=Tryz.zeroValue327
 t109:=Tryz.underlying318
 a109:=Tryz.isAgg318
 z109:=Tryz.sizeOf318
 v109:=Tryz.zeroValue318
 t127:=Tryz.underlying347
 a127:=Tryz.isAgg347
 z127:=Tryz.sizeOf347
 v127:=Tryz.zeroValue347
 t146:=Tryz.underlying343
 a146:=Tryz.isAgg343
 z146:=Tryz.sizeOf343
 v146:=Tryz.zeroValue343
 t148:=Tryz.underlying345
 a148:=Tryz.isAgg345
 z148:=Tryz.sizeOf345
 v148:=Tryz.zeroValue345
 t164:=Tryz.underlying355
 a164:=Tryz.isAgg355
 z164:=Tryz.sizeOf355
 v164:=Tryz.zeroValue355 }
end Go.Proofs
namespace Go.Proofs.YtebokaoegomboaaGreatDoor
open Go.Shelf Go.RowKit Go.Rt
theorem Tryz.extraRepeat:Builder.Extra Tryz.prog Tryz.laysRepeat_ren where
 sizeBuilder:=by kernel_rfl
 liesBuilder:=by kernel_rfl
 t5:=Tryz.laysRepeat.t5
 a5:=Tryz.laysRepeat.a5
 z5:=Tryz.laysRepeat.z5
 v5:=Tryz.laysRepeat.v5
 infoByte:=by kernel_rfl
 cellsByte:=by kernel_rfl
 sizeByte:=by kernel_rfl
 neB5:=by decide
theorem fRepeat:Tryz.laysRepeat_ren.f 105=304:=by kernel_rfl
theorem vl_(l:List UInt8):∀c,Lib.repeatL l c=(List.replicate c l).flatten
 | 0=>rfl
 | c+1=>by rw[Lib.repeatL,vl_ l c,List.replicate_succ,qv]
theorem t9_(x0:Str)(j:Int)(r:Str)(f:strings_Repeat x0 j=some r)(w0:World):Ret Tryz.prog 304 #[S x0,.int .i64 j] w0 λv w=>v=S r/\Ext w0 w:=by
 unfold strings_Repeat at f;split at f
 .rename_i h;obtain⟨x,u,s⟩:=h;simp only[qOi]at f;subst f;obtain⟨c,rfl⟩:∃c:Nat,j=(c:Int):=⟨j.toNat,by omega⟩;have m:=Any.strings_Repeat Tryz.laysRepeat Tryz.extraRepeat ⟨x0.toArray⟩ c w0 (by omega) (by rw[size_mk];simpa using s);rw[fRepeat]at m;refine Calls.mono m λe w ⟨p,q⟩=>⟨_,p,?_,Ext.of_below q⟩
  simp[S,vl_]
 .cases f
def sd_:Con te:=aj_ te [.d .str,.d (.int .i64)] [(.str,[])] false λa=>strings_Repeat a.1 a.2.1
theorem pY_:Con.OK Tryz.prog te 304 sd_/\dU_ Tryz.prog 304=true:=by
 refine⟨λR a k r hr => ?_,by kernel_rfl⟩;obtain⟨y,h,f⟩:=bind_some hr;exact⟨_,_,f,callOK_flat (y:=y) rfl rfl rfl rfl rfl λw=>t9_ a.1 a.2.1 y h w⟩
end Go.Proofs.YtebokaoegomboaaGreatDoor
namespace Go.Proofs
open Go.Shelf
def Tryz.laysBString_ren:Go.Shelf.Ren:=⟨λ | 169=>344|n=>n,λ | 70=>321 | 9=>9 | 0=>0 | 72=>323 | 37=>235 | 127=>347 | 3=>3 | 5=>5|n=>n,λ|n=>n⟩
theorem Tryz.laysBString:Go.Proofs.Lays.n169 Tryz.prog Tryz.laysBString_ren:={
 mixed:=by kernel_rfl
 f169:=Tryz.func344.trans (qL some (by kernel_rfl))
 t0:=Tryz.underlying0
 a0:=Tryz.isAgg0
 z0:=Tryz.sizeOf0
 v0:=Tryz.zeroValue0
 t3:=Tryz.underlying3
 a3:=Tryz.isAgg3
 z3:=Tryz.sizeOf3
 v3:=Tryz.zeroValue3
 t9:=Tryz.underlying9
 a9:=Tryz.isAgg9
 z9:=Tryz.sizeOf9
 v9:=Tryz.zeroValue9
 t37:=Tryz.underlying235
 a37:=Tryz.isAgg235
 z37:=Tryz.sizeOf235
 v37:=Tryz.zeroValue235
 t70:=Tryz.underlying321
 a70:=Tryz.isAgg321
 z70:=Tryz.sizeOf321
 v70:=Tryz.zeroValue321
 t72:=Tryz.underlying323
 a72:=Tryz.isAgg323
 z72:=Tryz.sizeOf323
 v72:=Tryz.zeroValue323
 t127:=Tryz.underlying347
 a127:=Tryz.isAgg347
 z127:=Tryz.sizeOf347
 v127:=Tryz.zeroValue347 }
end Go.Proofs
namespace Go
namespace Rt
open Go.RowKit Go.Proofs
section
variable{P:Program}{E:TE}{z:Fz}{g:Ga}{w w' w0:World}{Bs:List Nat}{F0:Nat->Prop}{H H':Nat->Option (Obj E)}
theorem HR.gone(h:HR P E Bs F0 w0 w z g H){C:Nat->Prop}(J:∀k,C k->∃i o,H i=some o/\fpO g i o k/\H' i=none)
  (O:Grow w w') (G:∀k,k<w.heap.size->¬C k->w'.heap[k]? = w.heap[k]?) (q:∀j o,H' j=some o->H j=some o):HR P E Bs F0 w0 w' z g H':=by
 have b3_:∀k,C k->w0.heap.size<=k\/k∈Bs:=λk m=>by obtain⟨i,o,f,x,_⟩:=J k m;exact h.own i o k f x
 have far:∀j o k,H' j=some o->fpO g j o k->¬C k:=λj o k e U m=>by
  obtain⟨i,p,f,x,V⟩:=J k m;exact h.apart j i o p k (λej=>by rw[ej,V]at e;cases e) (q j o e) f U x
 have fzC:∀k,z.F k->¬C k:=λk y m=>by obtain⟨i,o,f,x,_⟩:=J k m;exact h.fza i o k f x y
 refine⟨⟨h.chg.grow.trans O,λk s D=>(G k (zK s h.size) λm => ?_).trans (h.chg.block k s D)⟩,λj o e => ?_,λj o k e=>h.own j o k (q j o e),λj M o p k D e e'=>h.apart j M o p k D (q j o e) (q M p e'),λk y => ?_,h.fz0,λj o k e=>h.fza j o k (q j o e),h.gl⟩
 .rcases b3_ k m with f|f
  .omega
  .exact D f
 .exact(h.hold j o (q j o e)).keep (Fz.Le.refl z) (Ga.Le.refl g) λk u=>G k ((h.hold j o (q j o e)).lt u) (far j o k e u)
 .have:=h.fz k y;exact⟨zK this.1 O.size,(G k this.1 (fzC k y)).trans this.2⟩
end
end Rt
end Go
namespace Go.Proofs
open Go.Shelf
def Tryz.laysCC_ren:Go.Shelf.Ren:=⟨λ | 240=>365 | 276=>371|n=>n,λ | 0=>0 | 4=>4 | 9=>9 | 20=>20 | 37=>235 | 70=>321 | 72=>323 | 164=>355|n=>n,λ|n=>n⟩
theorem Tryz.laysCC:Go.Proofs.Lays.n240 Tryz.prog Tryz.laysCC_ren:={
 mixed:=by kernel_rfl
 f240:=Tryz.func365.trans (qL some (by kernel_rfl))
 f276:=Tryz.func371.trans (qL some (by kernel_rfl))
 t0:=Tryz.underlying0
 a0:=Tryz.isAgg0
 z0:=Tryz.sizeOf0
 v0:=Tryz.zeroValue0
 t4:=Tryz.underlying4
 a4:=Tryz.isAgg4
 z4:=Tryz.sizeOf4
 v4:=Tryz.zeroValue4
 t9:=Tryz.underlying9
 a9:=Tryz.isAgg9
 z9:=Tryz.sizeOf9
 v9:=Tryz.zeroValue9
 t20:=Tryz.underlying20
 a20:=Tryz.isAgg20
 z20:=Tryz.sizeOf20
 v20:=Tryz.zeroValue20
 t70:=Tryz.underlying321
 a70:=Tryz.isAgg321
 z70:=Tryz.sizeOf321
 v70:=Tryz.zeroValue321
 t72:=Tryz.underlying323
 a72:=Tryz.isAgg323
 z72:=Tryz.sizeOf323
 v72:=Tryz.zeroValue323
 t164:=Tryz.underlying355
 a164:=Tryz.isAgg355
 z164:=Tryz.sizeOf355
 v164:=Tryz.zeroValue355 }
theorem Tryz.x72CC:Builder.X72 Tryz.prog Tryz.laysCC_ren where
 sizeBuilder:=by kernel_rfl
 liesBuilder:=by kernel_rfl
theorem Tryz.extraBS:Builder.Extra Tryz.prog Tryz.laysBString_ren where
 sizeBuilder:=by kernel_rfl
 liesBuilder:=by kernel_rfl
 t5:=Tryz.underlying5
 a5:=Tryz.isAgg5
 z5:=Tryz.sizeOf5
 v5:=Tryz.zeroValue5
 infoByte:=by kernel_rfl
 cellsByte:=by kernel_rfl
 sizeByte:=by kernel_rfl
 neB5:=by decide
open Go.RowKit
theorem pZ_{P:Program}{w:World}:∀(l:List Int) (a:Addr) (acc:ByteArray),(∀j x,l[j]? = some x->w.cell? (a.add j)=some (.int .u8 x)) ->
  (loadBytes a acc l.length).run P w = .ok ⟨acc.data++(Rt.bytesS l).toArray⟩ w
 | [],a,acc,_=>by simp[loadBytes,Rt.bytesS]
 | x::l,a,acc,h=>by
  have q:w.cell? a=some (.int .u8 x):=by
   have:=h 0 x rfl;simpa[Addr.add]using this
  have m:=pZ_ (P:=P) l (a.add 1) (acc.push x.toNat.toUInt8) (λj y p=>by
   have:=h (j+1) y (by simpa using p);have e:(a.add 1).add j=a.add (j+1):=by
    unfold Addr.add;by_cases f:j=0
    .subst f;simp
    .simp[f];omega
   rw[e];exact this)
  simp only[qLc,loadBytes,Sem.run_bind,run_load,q,Result.andThen];rw[m]
  congr 1
  apply ByteArray.ext;simp[ByteArray.push,Rt.bytesS]
theorem p0_{P:Program}{w:World}(pt it ty e:TypeId)(F:P.underlying pt=some (.pointer e))(D:P.cellsOf e=1)(g cells:Nat)(y:w.shape? g=some (e,cells))(l:List Int)(O:l≠[])(G:l.length<=cells)(M:l.length<=9223372036854775807)
  (h:∀j x,l[j]? = some x->w.cell? ((⟨g,0,none⟩:Addr).add j)=some (.int .u8 x)) :
  (Builtin.unsafeString_ #[pt,it] ty #[.pointer (some ⟨g,0,none⟩),.int .i64 l.length]).run P w = .ok (.string ⟨(Rt.bytesS l).toArray⟩) (w.freeze ⟨g,0,none⟩ l.length):=by
 have J:l.length≠0:=by simpa using O
 have C:=pZ_ (P:=P) l ⟨g,0,none⟩ .empty h;have f:=Lib.liesAt_bytes (P:=P) D (cells/P.cellsOf e) l.length (by rw[D];simpa using G);have u:¬(9223372036854775807:Int)<(l.length:Int):=by omega
 have q:Builtin.unsafeString_ #[pt,it] ty #[.pointer (some ⟨g,0,none⟩),.int .i64 l.length] =
   (do
    let n ←asInt (.int .i64 l.length)
    if n < 0 then runtimePanic (.error "unsafe.String: len out of range")
    if n > IntKind.i64.max then unsupported (.unsafePointer "String: a length above the largest int")
    if n=0 then pure (.string .empty)
    else if ←variablesAt ⟨g,0,none⟩ (←elemOf pt) n.toNat then do
     let s ←loadBytes ⟨g,0,none⟩ .empty n.toNat
     freeze ⟨g,0,none⟩ n.toNat
     pure (.string s)
    else unsupported (.unsafePointer "String: not so many bytes at ptr")) := rfl
 rw[q];have p:IntKind.i64.max=9223372036854775807:=rfl;have m:¬(l.length:Int)<0:=by omega
 simp[asInt,asIntOf,p,u,m,J,variablesAt,y,elemOf,run_underlying F,f,C]
set_option maxHeartbeats 1000000 in
set_option maxRecDepth 100000 in
theorem Any.Builder_String_w{P:Program}{ρ:Ren}(L:Lays.n169 P ρ)(X:Builder.Extra P ρ)(b g cap:Nat)(p:Value)(cur:Array Value)(l:List Int)(w:World)(s:w.heap[b]? = some (.cells #[p,.slice (some ⟨g,0,none⟩) l.length cap] (ρ.t 72) (0,0)))(y:l≠[])
  (O:w.heap[g]? = some (.cells cur (ρ.t 5) (0,0))) (J:l.length<=cap) (q:cap<=maxLen) (U:cur.size=cap) (h:∀j x,l[j]? = some x->w.cell? ((⟨g,0,none⟩:Addr).add j)=some (.int .u8 x)) :
  Calls P (ρ.f 169) #[.pointer (some ⟨b,0,none⟩)] w λe w'=>e = .returned (.string ⟨(Rt.bytesS l).toArray⟩)/\w'=w.drew.freeze ⟨g,0,none⟩ l.length:=by
 have M:l.length≠0:=by simpa using y
 have c1:w.drew.cell? ⟨b,1,none⟩=some (.slice (some ⟨g,0,none⟩) l.length cap):=by
  have:w.drew.heap[b]? = some (.cells #[p,.slice (some ⟨g,0,none⟩) l.length cap] (ρ.t 72) (0,0)):=s;rw[Lib.cell_of_heap this];rfl
 have Y:(Builtin.unsafeSliceData_ #[(ρ.t 37)] (ρ.t 127) #[.slice (some ⟨g,0,none⟩) l.length cap]).run P w.drew = .ok (.pointer (some ⟨g,0,none⟩)) w.drew :=
  Lib.run_unsafeSliceData_row _ _ _ _ _ _ (by omega)
 have V:(Builtin.unsafeString_ #[(ρ.t 127),(ρ.t 3)] (ρ.t 9) #[.pointer (some ⟨g,0,none⟩),.int .i64 l.length]).run P w.drew = .ok (.string ⟨(Rt.bytesS l).toArray⟩) (w.drew.freeze ⟨g,0,none⟩ l.length):=by
  refine p0_ (w:=w.drew) (ρ.t 127) (ρ.t 3) (ρ.t 9) (ρ.t 5) L.t127 X.cellsByte g cur.size (by have m:w.drew.heap[g]? = some (.cells cur (ρ.t 5) (0,0)):=O;simp[World.shape?,m]) l y (by omega) (by unfold maxLen at q;omega) ?_;intro j x G;exact h j x G
 have mixed:=L.mixed;have t72:=L.t72;have a72:=L.a72;have z72:=L.z72;have v72:=L.v72;have C:=run_underlying L.t72;have t70:=L.t70;have a70:=L.a70;have z70:=L.z70;have v70:=L.v70;have D:=run_underlying L.t70;have t37:=L.t37;have a37:=L.a37;have z37:=L.z37;have v37:=L.v37;have F:=run_underlying L.t37;have t127:=L.t127;have a127:=L.a127;have z127:=L.z127;have v127:=L.v127;have u:=run_underlying L.t127;have t3:=L.t3;have a3:=L.a3;have z3:=L.z3;have v3:=L.v3;have u3:=run_underlying L.t3;have t9:=L.t9;have a9:=L.a9;have z9:=L.z9;have v9:=L.v9;have Z:=run_underlying L.t9;have t5:=X.t5;have a5:=X.a5;have z5:=X.z5;have v5:=X.v5;have u5:=run_underlying X.t5
 go_enter L.f169,Body.n169_ntmps ρ
 go_wp2
 go_region_o
 all_goals (go_wp2;go_ret;exact⟨rfl,rfl⟩)
end Go.Proofs
namespace Go.Proofs.YtebokaoegomboaaGreatDoor
open Go.RowKit Go.Rt
def jy_:InlF te:=λH _ xs _ k=>match xs with
 | [.one (.ptr id 0)]=>match H id with
  | some (.box T [.sbp id',_])=>match Nat.beq id id'&&te.sb T with
   | true=>k (some (.tup [])) []
   | false=>none
  | _=>none
 | _=>none
def qZ_:InlF te:=λH _ xs _ k=>match xs with
 | [.one (.ptr id 0)]=>match H id with
  | some (.box T [.sbp id',c])=>match Nat.beq id id'&&te.sb T,c with
   | true,.nils=>k (some (.v (.one (.dt .str (bytesS []))))) [(id,none)]
   | true,.own r=>match H r with
    | some (.row e (.int .u8) xs _)=>match Nat.beq e 5 with
     | true=>k (some (.v (.one (.dt .str (bytesS xs))))) [(id,none),(r,none)]
     | false=>none
    | _=>none
   | _,_=>none
  | _=>none
 | _=>none
theorem om_:InlOK Tryz.prog te 365 jy_/\dU_ Tryz.prog 365=true:=by
 refine⟨?_,by kernel_rfl⟩;intro z g nx H xs vs R k r Bs F0 w0 w q V J h;unfold jy_ at h;split at h
 .rename_i id;split at h
  .rename_i T id' c hi;split at h
   .rename_i O;simp only[qAn]at O;obtain rfl:=qNb O.1;have hT:T=323:=qNb O.2;subst hT;cases J with
    | cons v1 J =>
     cases J
     obtain⟨l,m,rfl⟩:=v1;obtain⟨l',us,Z,F,D⟩:=V.hold _ _ hi;rw[m]at Z;obtain rfl:=qSj Z;cases D with
     | cons c1 D=>cases D with
      | cons c2 D =>
       cases D
       obtain⟨l2,y,h6⟩:=c1;rw[m]at y;obtain rfl:=qSj y;rename_i u1 u2;have x:w.cell? ⟨l.b,0,none⟩=some u1:=by rw[cell_of_row w l.b 0 _ _ _ F];rfl
       rcases h6 with rfl|rfl
       .refine Calls.mono (Any.Builder_copyCheck_fresh Tryz.laysCC Tryz.x72CC l.b w x (by simp[World.shape?,F];rfl) (by unfold World.frozen?;simp only[F];simp)) λe w' ⟨M,G⟩=>⟨_,M,.tup [],[],z,g,h,Fz.Le.refl z,Ga.Le.refl g,q.succ,⟨[],rfl,.nil⟩,?_⟩
        subst G;have U:(w.setCell ⟨l.b,0,none⟩ (.pointer (some ⟨l.b,0,none⟩))).heap[l.b]? = some (.cells [.pointer (some ⟨l.b,0,none⟩),u2].toArray 323 (0,0)):=by
         unfold World.setCell;simp[zU,F]
        refine V.turn (Ga.Le.refl g) (i:=id) (i':=id) (C:=λk=>k=l.b) (λk s=>⟨_,hi,l,m,s⟩) ⟨rfl,rfl,rfl,by simp[World.setCell]⟩ (λk _ s => ?_) (o' := .box 323 [.sbp id,c]) ?_ (λk s => ?_) λj p Y => ?_
        .unfold World.setCell;simp only[zU];rw[qX λe=>s e.symm]
        .exact⟨l,_,m,U,.cons ⟨l,m,.inr rfl⟩ (.cons c2 .nil)⟩
        .obtain⟨l2,y,rfl⟩:=s;rw[m]at y;obtain rfl:=qSj y;exact .inl rfl
        .by_cases f:j=id
         .subst f;have u:H j=some p:=Y;rw[hi]at u;exact .inl ⟨rfl,(qSj u).symm⟩
         .exact .inr ⟨f,.inl f,Y⟩
       .refine Calls.mono (Any.Builder_copyCheck_used Tryz.laysCC Tryz.x72CC l.b w x) λe w' ⟨M,G⟩=>⟨_,M,.tup [],[],z,g,h,Fz.Le.refl z,Ga.Le.refl g,q.succ,⟨[],rfl,.nil⟩,?_⟩
        subst G;exact V
   .cases h
  .cases h
 .cases h
theorem up1{H:Nat->Option (Rt.Obj te)}{id:Nat}{j:Nat}{o:Rt.Obj te}(h:upH H [(id,none)] j=some o):j≠id/\H j=some o:=by
 simp only[upH]at h;split at h
 .cases h
 .rename_i f;refine⟨λe => ?_,h⟩;rw[e,Nat.beq_refl]at f;cases f
theorem up2{H:Nat->Option (Rt.Obj te)}{id r:Nat}{j:Nat}{o:Rt.Obj te}(h:upH H [(id,none),(r,none)] j=some o):j≠id/\j≠r/\H j=some o:=by
 simp only[upH]at h;split at h
 .cases h
 .rename_i m;split at h
  .cases h
  .rename_i f;refine⟨λe => ?_,λe => ?_,h⟩
   .rw[e,Nat.beq_refl]at m;cases m
   .rw[e,Nat.beq_refl]at f;cases f
theorem yv_ : InlOK Tryz.prog te 344 qZ_/\dU_ Tryz.prog 344=true:=by
 refine⟨?_,by kernel_rfl⟩;intro z g nx H xs vs R k r Bs F0 w0 w m J hv h;unfold qZ_ at h;split at h
 .rename_i id;split at h
  .rename_i T id' c hi;have ZW:∃l,g id=some l/\vs=[.pointer (some ⟨l.b,0,none⟩)]:=by
    cases hv with
    | cons v1 hv =>
     cases hv
     obtain⟨l,h1,rfl⟩:=v1;exact⟨l,h1,rfl⟩
   obtain⟨l,h1,rfl⟩:=ZW;obtain⟨l',us,h2,u,s⟩:=J.hold _ _ hi;rw[h1]at h2;obtain rfl:=qSj h2;split at h
   .rename_i hb;simp only[qAn]at hb;have hT:T=323:=qNb hb.2;subst hT;cases s with
    | cons c1 s=>cases s with
     | cons c2 s =>
      cases s
      rename_i O u2;obtain rfl:u2 = .slice none 0 0:=c2;refine Calls.mono (Any.Builder_String_nil Tryz.laysBString Tryz.extraBS w.heap.size l.b O w u) λe w' ⟨D,f⟩=>⟨_,D,_,_,z,g,h,Fz.Le.refl z,Ga.Le.refl g,(λi hi=>m i (qt (by omega) (qt (nZ_ nx _) hi))),.str .nil,?_⟩
      exact J.gone (C:=λ_=>False) (λ_ h=>h.elim) (Grow.of_below f) (λk p _=>f.block k p) λj o q=>(up1 q).2
   .rename_i r' hb;simp only[qAn]at hb;have hT:T=323:=qNb hb.2;subst hT;split at h
    .rename_i e xs foc hr;split at h
     .rename_i ZS;obtain rfl:=qNb ZS;cases s with
      | cons c1 s=>cases s with
       | cons c2 s =>
        cases s
        rename_i O u2;obtain⟨lr,h5,rfl⟩:=c2;obtain⟨lr',rows,h6,hn,hc,U,ZO,ZN,G,_⟩:=J.hold _ _ hr;rw[h5]at h6;obtain rfl:=qSj h6;have ZV:=qq_ G (by omega);obtain⟨_,ho⟩:=U;rcases ho with⟨ho,h0⟩|⟨b,cap,cur,ZX,_,Y,V,ZQ,ZR,F⟩
        .injection ho with e1 e2 e3;rw[e1,e2,e3]at u;have ZY:xs=[]:=zu.1 (by omega);subst ZY;refine Calls.mono (Any.Builder_String_nil Tryz.laysBString Tryz.extraBS w.heap.size l.b O w u) λe w' ⟨D,f⟩=>⟨_,D,_,_,z,g,h,Fz.Le.refl z,Ga.Le.refl g,(λi hi=>m i (qt (by omega) (qt (nZ_ nx _) hi))),.str .nil,?_⟩
         exact J.gone (C:=λ_=>False) (λ_ h=>h.elim) (Grow.of_below f) (λk p _=>f.block k p) λj o q=>(up2 q).2.2
        .injection ZX with e1 _ e3;subst e3;rw[e1]at u;have ZM:b<w.heap.size:=by
          rcases qN b w.heap.size with M|M
          .exact M
          .rw[zQ M]at Y;cases Y
         cases xs with
         | nil =>
          have ZT:lr.n=0:=hn;rw[ZT]at u;by_cases ZZ:lr.cap=0
          .rw[ZZ]at u;exact Calls.mono (Any.Builder_String_noroom Tryz.laysBString Tryz.extraBS w.heap.size l.b b O cur w (qA _) u Y) λe w' ⟨D,f⟩=>⟨_,D,_,_,z,g,h,Fz.Le.refl z,Ga.Le.refl g,(λi hi=>m i (qt (by omega) (qt (nZ_ nx _) hi))),.str .nil,J.gone (C:=λ_=>False) (λ_ h=>h.elim) (Grow.of_below f) (λk p _=>f.block k p) λj o q=>(up2 q).2.2⟩
          .exact Calls.mono (Any.Builder_String_room Tryz.laysBString Tryz.extraBS w.heap.size l.b b lr.cap O w ZZ u) λe w' ⟨D,f⟩=>⟨_,D,_,_,z,g,h,Fz.Le.refl z,Ga.Le.refl g,(λi hi=>m i (qt (by omega) (qt (nZ_ nx _) hi))),.str .nil,J.gone (C:=λ_=>False) (λ_ h=>h.elim) (Grow.of_below f) (λk p _=>f.block k p) λj o q=>(up2 q).2.2⟩
         | cons x xs =>
          have ZP:lr.c=1:=hc;rw[hn]at u F V;rw[ZP]at F ZR;have Z:∀j y,(x::xs)[j]? = some y->w.cell? ((⟨b,0,none⟩:Addr).add j)=some (.int .u8 y):=λj y hy=>by
           have q:j<(x::xs).length:=by
            rcases qN j (x::xs).length with M|M
            .exact M
            .rw[qR M]at hy;cases hy
           have e2:(⟨b,0,none⟩:Addr).add j=⟨b,j,none⟩:=by
            unfold Addr.add;by_cases h0:j=0
            .subst h0;simp
            .simp[h0]
           rw[e2,cell_of_row w b j _ _ _ Y];have e3:(cur.toList.take ((x::xs).length*1))[j]? = cur.toList[j]? := by rw[zX,qV (by omega)]
           rw[←Array.getElem?_toList,←e3,F,ZV];have e4:∀(l:List Int),(l.map λb=>[Value.int .u8 b]).flatten=l.map λb=>Value.int .u8 b:=λl=>by
            induction l with
            | nil=>rfl
            | cons a l ih=>rw[zB,qv,ih];rfl
           rw[e4,qi,hy];rfl
          refine Calls.mono (Any.Builder_String_w Tryz.laysBString Tryz.extraBS l.b b lr.cap O cur (x::xs) w u (by simp) Y V ZQ (by omega) Z) λe w' ⟨D,f⟩=>⟨_,D,_,_,z,g,h,Fz.Le.refl z,Ga.Le.refl g,(λi hi=>m i (qt (by omega) (qt (nZ_ nx _) hi))),.str .nil,?_⟩
          subst f;refine J.gone (C:=λk=>k=b) (λk p=>⟨r',_,hr,⟨lr,_,h5,e1,p⟩,?_⟩) ⟨?_,?_,?_,?_⟩ (λk p ZU => ?_) λj o q=>(up2 q).2.2
          .cases hq:upH H [(id,none),(r',none)] r' with
           | none=>rfl
           | some o=>exact absurd rfl (up2 hq).2.1
          .unfold World.freeze;split<;>rfl
          .unfold World.freeze;split<;>rfl
          .unfold World.freeze;split<;>rfl
          .unfold World.freeze;split
           .exact qA _
           .simp only[Array.size_modify];exact qA _
          .unfold World.freeze;split
           .rfl
           .simp only[zU];rw[qX λe=>ZU e.symm];rfl
     .cases h
    .cases h
   .cases h
  .cases h
 .cases h
end Go.Proofs.YtebokaoegomboaaGreatDoor
namespace Go
namespace Rt
open Go.RowKit Go.Sort Go.Proofs
section
variable{P:Program}{E:TE}{z:Fz}{g:Ga}{w w' w0:World}{Bs:List Nat}{F0:Nat->Prop}{t:Ty}{enc:Den E.S t->List Value}
structure EncOK(E:TE)(t:Ty)(enc:Den E.S t->List Value):Prop where
 out:∀(z:Fz) (x:Den E.S t) (r:List Value),RD E z (E.flat t) (E.fl t x) r->r=enc x
 into:∀(z:Fz) (x:Den E.S t),RD E z (E.flat t) (E.fl t x) (enc x)
theorem EncOK.len(f:EncOK E t enc)(x:Den E.S t):(enc x).length=E.size t:=(f.into ⟨λ_=>False,default⟩ x).len
theorem rows_enc(j:EncOK E t enc){xs:List (Den E.S t)}{rows:List (List Value)}(h:Rows E z t xs rows)(m:rows.length=xs.length):rows=xs.map enc:=by
 apply zL;intro i;rw[qi];rcases qN i xs.length with hi|hi
 .have f:=qQ hi;have hr:=qQ (show i<rows.length by omega);rw[hr,f,j.out z _ _ (h i _ _ f hr)];rfl
 .rw[qR (by omega),qR hi];rfl
theorem f1_(f:EncOK E t enc):∀(xs:List (Den E.S t)),(xs.map enc).flatten.length=xs.length*E.size t
 | []=>by simp
 | x::xs=>by rw[zB,qv,qLa,f.len,f1_ f xs,qLc,zD,Nat.add_comm]
def RowQ(E:TE)(t:Ty)(enc:Den E.S t->List Value)(w:World)(e:TypeId)(xs:List (Den E.S t))(A:Option Addr)(cap:Nat):Prop:=(A=none/\cap=0/\xs=[])\/∃b cs,A=some ⟨b,0,none⟩/\w.heap[b]? = some (.cells (cs:List Value).toArray e (0,0))/\xs.length<=cap/\cap<=maxLen/\cs.length=cap*E.size t/\cs.take (xs.length*E.size t)=(xs.map enc).flatten
theorem rowQ_of(O:EncOK E t enc){id:Nat}{e:TypeId}{xs:List (Den E.S t)}{foc:List (Nat×Int×Den E.S t)}(h:ObjR P E z g w id (.row e t xs foc)):∃l,g id=some l/\l.n=xs.length/\l.c=E.size t/\RowQ E t enc w e xs l.A l.cap:=by
 obtain⟨l,rows,U,y,D,f,C,G,j,_⟩:=h;rw[D,rows_enc O j (by omega)]at f;refine⟨l,U,y,D,?_⟩;obtain⟨_,s⟩:=f;rcases s with⟨s,V⟩|⟨b,cap,cur,F,_,M,J,q,p,m⟩
 .injection s with x Y u;exact .inl ⟨x,u,zu.1 (by omega)⟩
 .injection F with x _ u;subst u;exact .inr ⟨b,cur.toList,x,by simpa using M,by omega,q,by simpa using p,by rw[y]at m;exact m⟩
theorem rowQ_mk(m:EncOK E t enc){id:Nat}{e:TypeId}{xs:List (Den E.S t)}{l:Loc}(h:RowQ E t enc w e xs l.A l.cap)(D:g id=some l)(j:l.n=xs.length)(q:l.c=E.size t):ObjR P E z g w id (.row e t xs []):=by
 refine⟨l,xs.map enc,D,j,q,?_,by simp[j],λr hr => ?_,λi x r u hr => ?_,λp y=>nomatch y⟩
 .rw[q,j];refine⟨f1_ m xs,?_⟩;rcases h with⟨s,f,rfl⟩|⟨b,cs,s,C,M,J,G,F⟩
  .exact .inl ⟨by rw[s,f];rfl,rfl⟩
  .exact .inr ⟨b,l.cap,cs.toArray,by rw[s],zV _,C,M,J,by simpa using G,F⟩
 .obtain⟨x,_,rfl⟩:=qz.1 hr;rw[m.len,q]
 .rw[qi,u]at hr;obtain rfl:=qSj hr;exact m.into z x
theorem yw_{β:Type}[Inhabited β](f:β->Value)(D:Array β)(cs:List Value)(h:D.size<=cs.length):(putCells f 0 D cs.toArray).toList=D.toList.map f++cs.drop D.size:=by
 apply zL;intro i;simp only[putCells,Array.toList_mapIdx,List.getElem?_mapIdx];by_cases hi:i<D.size
 .have j:i<cs.length:=by omega
  rw[zP (by simpa using hi),qi,qQ j,qO,qV ⟨zV _,by omega⟩,Nat.sub_zero,getElem!_pos D i hi];simp[hi]
 .rw[zi (by simpa using Nat.le_of_not_lt hi),zA];have m:D.size+(i-(D.toList.map f).length)=i:=by simp;omega
  rw[m];cases p:cs[i]? with
  | none=>rfl
  | some v=>rw[qO,qX (by omega)]
theorem RowQ.put{β:Type}[Inhabited β]{e:TypeId}{xs zs:List (Den E.S t)}{b cap:Nat}(h:RowQ E t enc w e xs (some ⟨b,0,none⟩) cap)(V:zs.length<=xs.length)(f:β->Value)(D:Array β)(J:D.size=xs.length*E.size t)(Y:(D.toList.map f).take (zs.length*E.size t)=(zs.map enc).flatten)(q:Nat)(os:Array Go.Obj)
  (O:w'=grow (putRow f (Go.Sort.ahead w q) b 0 D) os):RowQ E t enc w' e zs (some ⟨b,0,none⟩) cap/\Grow w w'/\(∀k,k<w.heap.size->k≠b->w'.heap[k]? = w.heap[k]?):=by
 rcases h with⟨h,_⟩|⟨b',cs,m,y,h1,h2,Z,h4⟩
 .cases h
 .injection m with m;injection m with m;subst m;have hb:b<w.heap.size:=by
   rcases qN b w.heap.size with F|F
   .exact F
   .rw[zQ F]at y;cases y
  have C:D.size<=cs.length:=by rw[J,Z];exact qj _ h1
  have j:∀(W:World) k,k<W.heap.size->(grow W os).heap[k]? = W.heap[k]? := λW k G=>by
   show(W.heap++os)[k]? = _;rw[Array.getElem?_append_left G]
  have U:(putRow f (Go.Sort.ahead w q) b 0 D).heap.size=w.heap.size:=by simp[putRow,mapBlock,Go.Sort.ahead]
  have s:(putRow f (Go.Sort.ahead w q) b 0 D).heap[b]? = some (.cells (putCells f 0 D cs.toArray) e (0,0)):=by
   show(mapBlock (Go.Sort.ahead w q) b (putCells f 0 D)).heap[b]? = _;unfold mapBlock;have x:(Go.Sort.ahead w q).heap[b]? = some (.cells cs.toArray e (0,0)):=y;simp only[zU,jB,x,qO,onCells]
  subst O;refine⟨.inr ⟨b,D.toList.map f++cs.drop D.size,rfl,?_,by omega,h2,?_,?_⟩,⟨rfl,rfl,rfl,?_⟩,λk G p => ?_⟩
  .rw[j _ _ (by omega),s,←yw_ f D cs C,zW]
  .rw[qLa,zq,qc,qk];omega
  .have u:zs.length*E.size t<=(D.toList.map f).length:=by
    have M:D.toList.length=xs.length*E.size t:=J;rw[zq,M];exact qj _ V
   rw[zN u];exact Y
  .have M:(grow (putRow f (Go.Sort.ahead w q) b 0 D) os).heap.size=(putRow f (Go.Sort.ahead w q) b 0 D).heap.size+os.size:=by simp[grow]
   omega
  .rw[j _ _ (by omega)];show(mapBlock (Go.Sort.ahead w q) b (putCells f 0 D)).heap[k]? = _;unfold mapBlock;simp only[zU];rw[qX λe=>p e.symm];rfl
theorem HR.rowQ{e:TypeId}{xs zs:List (Den E.S t)}{foc:List (Nat×Int×Den E.S t)}{i:Nat}{H H':Nat->Option (Obj E)}(M:EncOK E t enc){l f:Loc}{i':Nat}{g':Ga}(h:HR P E Bs F0 w0 w z g H)(hi:H i=some (.row e t xs foc))(J:g i=some l)(u:g.Le g')(m:g' i'=some f)(Z:f.A=l.A)(D:f.n=zs.length)(O:f.c=E.size t)
  (U:Grow w w') (F:∀k,k<w.heap.size->¬cQ_ l.A k->w'.heap[k]? = w.heap[k]?) (hr:RowQ E t enc w' e zs f.A f.cap)
  (Y:∀j o,H' j=some o->(j=i'/\o = .row e t zs [])\/(j≠i'/\j≠i/\H j=some o)):HR P E Bs F0 w0 w' z g' H':=by
 refine h.turn u (i:=i) (i':=i') (C:=cQ_ l.A) (λq ⟨a,V,s⟩=>⟨_,hi,l,a,J,V,s⟩) U F (o' := .row e t zs []) (rowQ_mk M hr m D O) (λq s => ?_) λj p G => ?_
 .obtain⟨l2,a2,y,h6,rfl⟩:=s;rw[m]at y;obtain rfl:=qSj y;exact .inl ⟨a2,by rw[←Z];exact h6,rfl⟩
 .rcases Y j p G with x|⟨x,h2,h3⟩
  .exact .inl x
  .exact .inr ⟨x,.inl h2,h3⟩
end
end Rt
end Go
namespace Go.Proofs
open Go.Shelf
def Tryz.laysSortF_ren:Go.Shelf.Ren:=⟨λ | 6=>190 | 15=>262 | 14=>261 | 28=>319 | 29=>320 | 20=>311 | 21=>312 | 22=>313 | 23=>314 | 24=>315 | 25=>316 | 26=>317 | 27=>318 | 46=>347 | 47=>348 | 48=>349 | 49=>350 | 50=>351 | 57=>367|n=>n,λ | 22=>24 | 24=>81 | 25=>216 | 3=>3 | 39=>265 | 0=>0 | 53=>306 | 55=>267 | 4=>4 | 46=>300 | 45=>299 | 50=>245 | 5=>5 | 9=>9 | 66=>330 | 70=>334 | 76=>348 | 77=>287|n=>n,λ|n=>n⟩
theorem Tryz.laysSortF:Go.Proofs.SlLaysF0.n6 Tryz.prog Tryz.laysSortF_ren:={
 mixed:=by kernel_rfl
 f6:=⟨Tryz.f190.name,by decide,Tryz.func190.trans (qL some (by kernel_rfl))⟩
 f14:=⟨Tryz.f261.name,by decide,Tryz.func261.trans (qL some (by kernel_rfl))⟩
 f15:=Tryz.func262.trans (qL some (by kernel_rfl))
 f20:=⟨Tryz.f311.name,by decide,Tryz.func311.trans (qL some (by kernel_rfl))⟩
 f21:=⟨Tryz.f312.name,by decide,Tryz.func312.trans (qL some (by kernel_rfl))⟩
 f22:=⟨Tryz.f313.name,by decide,Tryz.func313.trans (qL some (by kernel_rfl))⟩
 f23:=⟨Tryz.f314.name,by decide,Tryz.func314.trans (qL some (by kernel_rfl))⟩
 f24:=⟨Tryz.f315.name,by decide,Tryz.func315.trans (qL some (by kernel_rfl))⟩
 f25:=⟨Tryz.f316.name,by decide,Tryz.func316.trans (qL some (by kernel_rfl))⟩
 f26:=⟨Tryz.f317.name,by decide,Tryz.func317.trans (qL some (by kernel_rfl))⟩
 f27:=⟨Tryz.f318.name,by decide,Tryz.func318.trans (qL some (by kernel_rfl))⟩
 f28:=Tryz.func319.trans (qL some (by kernel_rfl))
 f29:=Tryz.func320.trans (qL some (by kernel_rfl))
 f46:=⟨Tryz.f347.name,by decide,Tryz.func347.trans (qL some (by kernel_rfl))⟩
 f47:=Tryz.func348.trans (qL some (by kernel_rfl))
 f48:=Tryz.func349.trans (qL some (by kernel_rfl))
 f49:=⟨Tryz.f350.name,by decide,Tryz.func350.trans (qL some (by kernel_rfl))⟩
 f50:=⟨Tryz.f351.name,by decide,Tryz.func351.trans (qL some (by kernel_rfl))⟩
 f57:=⟨Tryz.f367.name,by decide,Tryz.func367.trans (qL some (by kernel_rfl))⟩
 t0:=Tryz.underlying0
 a0:=Tryz.isAgg0
 z0:=Tryz.sizeOf0
 v0:=Tryz.zeroValue0
 t3:=Tryz.underlying3
 a3:=Tryz.isAgg3
 z3:=Tryz.sizeOf3
 v3:=Tryz.zeroValue3
 t4:=Tryz.underlying4
 a4:=Tryz.isAgg4
 z4:=Tryz.sizeOf4
 v4:=Tryz.zeroValue4
 t5:=Tryz.underlying5
 a5:=Tryz.isAgg5
 z5:=Tryz.sizeOf5
 v5:=Tryz.zeroValue5
 t9:=Tryz.underlying9
 a9:=Tryz.isAgg9
 z9:=Tryz.sizeOf9
 v9:=Tryz.zeroValue9
 t22:=Tryz.underlying24
 a22:=Tryz.isAgg24
 z22:=Tryz.sizeOf24
 v22:=Tryz.zeroValue24
 t25:=Tryz.underlying216
 a25:=Tryz.isAgg216
 z25:=Tryz.sizeOf216
 v25:=Tryz.zeroValue216
 t39:=Tryz.underlying265
 a39:=Tryz.isAgg265
 z39:=Tryz.sizeOf265
 v39:=Tryz.zeroValue265
 t45:=Tryz.underlying299
 a45:=Tryz.isAgg299
 z45:=Tryz.sizeOf299
 v45:=Tryz.zeroValue299
 t46:=Tryz.underlying300
 a46:=Tryz.isAgg300
 z46:=Tryz.sizeOf300
 v46:=Tryz.zeroValue300
 t50:=Tryz.underlying245
 a50:=Tryz.isAgg245
 z50:=Tryz.sizeOf245
 v50:=Tryz.zeroValue245
 t53:=Tryz.underlying306
 a53:=Tryz.isAgg306
 z53:=Tryz.sizeOf306
 v53:=Tryz.zeroValue306
 t55:=Tryz.underlying267
 a55:=Tryz.isAgg267
 z55:=Tryz.sizeOf267
 v55:=Tryz.zeroValue267
 t66:=Tryz.underlying330
 a66:=Tryz.isAgg330
 z66:=Tryz.sizeOf330
 v66:=Tryz.zeroValue330
 t70:=Tryz.underlying334
 a70:=Tryz.isAgg334
 z70:=Tryz.sizeOf334
 v70:=Tryz.zeroValue334
 t76:=Tryz.underlying348
 a76:=Tryz.isAgg348
 z76:=Tryz.sizeOf348
 v76:=Tryz.zeroValue348
 t77:=Tryz.underlying287
 a77:=Tryz.isAgg287
 z77:=Tryz.sizeOf287
 v77:=Tryz.zeroValue287 }
end Go.Proofs
namespace Go
namespace Rt
open Go.RowKit Go.Sort Go.Shelf Go.Proofs
section
variable{α:Type}[Inhabited α]
theorem flat_get(enc:α->List Value)(k:Nat)(j:∀x,(enc x).length=k):∀(L:List α) (t:Nat),t<L.length*k->(L.map enc).flatten[t]? = (enc (L[t/k]?.getD default))[t%k]?
 | [],t,h=>by simp at h
 | x::L,t,h=>by
  have p:0<k:=by
   rcases qn k with m|m
   .subst m;simp at h
   .exact m
  rw[zB,qv];rcases qN t k with f|f
  .rw[zP (by rw[j];exact f),Nat.div_eq_of_lt f,Nat.mod_eq_of_lt f];rfl
  .obtain⟨u,rfl⟩:∃u,t=u+k:=⟨t-k,by omega⟩;rw[zi (by rw[j];omega),j,jH,Nat.add_div_right _ p,Nat.add_mod_right,flat_get enc k j L u (by
    rw[qLc,zD]at h;omega)]
   rfl
theorem rr_(enc:α->List Value)(k:Nat)(m:∀x,(enc x).length=k)(d:Array α):flatK enc k d=(d.toList.map enc).flatten.toArray:=by
 have j:∀(xs:List α),(xs.map enc).flatten.length=xs.length*k:=λxs=>by
  induction xs with
  | nil=>simp
  | cons x xs y=>rw[zB,qv,qLa,m,y,qLc,zD,Nat.add_comm]
 refine Sort.ext_get! (by rw[size_flatK,←qk,←qk,List.toList_toArray,j]) λt f => ?_
 rw[size_flatK]at f;rw[get_flatK _ _ _ t f];have u:0<k:=by
  rcases qn k with q|q
  .subst q;simp at f
  .exact q
 have p:=flat_get enc k m d.toList t (by simpa using f);have s:t/k<d.size:=Nat.div_lt_of_lt_mul (by rwa [jQ]at f);have C:d.toList[t/k]?.getD default=d[t/k]! := by
  rw[getElem!_pos d _ s,Array.getElem?_toList,Array.getElem?_eq_getElem s];rfl
 rw[C]at p;have hm:t%k<(enc d[t/k]!).length:=by rw[m];exact jd _ u
 have h:t<(d.toList.map enc).flatten.length:=by rw[j];simpa using f
 rw[getElem!_pos (enc d[t/k]!) _ hm,getElem!_pos (d.toList.map enc).flatten.toArray t (by simpa using h)];rw[qQ hm,qQ h]at p;simpa using(qSj p).symm
end
section
variable{P:Program}{E:TE}{w:World}{t:Ty}{enc:Den E.S t->List Value}[Inhabited (Den E.S t)]
theorem RowQ.holdsK(s:EncOK E t enc){e:TypeId}{xs:List (Den E.S t)}{b cap:Nat}(h:RowQ E t enc w e xs (some ⟨b,0,none⟩) cap):HoldsK enc (E.size t) w b 0 xs.toArray/\xs.length<=cap/\cap<=maxLen/\b<w.heap.size:=by
 rcases h with⟨h,_⟩|⟨G,cs,j,m,D,C,F,y⟩
 .cases h
 .injection j with j;injection j with j;subst j;refine⟨?_,D,C,?_⟩
  .unfold HoldsK;rw[rr_ enc (E.size t) s.len];intro q x;have f:q<xs.length*E.size t:=by
    rw[←f1_ s xs];simpa using x
   refine⟨?_,by unfold World.frozen?;simp only[m];simp⟩;rw[qg,cell_of_row w b q _ e (0,0) m];have:(cs.take (xs.length*E.size t))[q]? = cs[q]? := by rw[zX,qV f]
   rw[jl,←this,y,getElem!_pos _ q x];have p:q<(xs.map enc).flatten.length:=by rw[f1_ s];exact f
   rw[qQ p];simp
  .rcases qN b w.heap.size with u|u
   .exact u
   .rw[zQ u]at m;cases m
def nD_{α:Type}(key:α->Int)(x y:α):Int:=Lib.compareInt (key x) (key y)
theorem on_{α:Type}(key:α->Int):ltOf (nD_ key)=λx y=>decide (key x<key y):=by
 funext x y
 unfold ltOf nD_ Lib.compareInt;by_cases f:key x<key y
 .simp[f]
 .by_cases h:key y<key x<;>simp[f,h]
theorem byKey_swo{α:Type}(key:α->Int):SWO (ltOf (nD_ key)) where
 irrefl x:=by rw[on_];simp
 trans x y z h f:=by rw[on_]at *;simp at *;omega
 ntrans x y z h f:=by rw[on_]at *;simp at *;omega
theorem sortF_run{ρ:Ren}(L:SlLaysF0.n6 P ρ)(p:EncOK E t enc)(aE:∀w,(isAgg (ρ.t 24)).run P w = .ok true w)(zE:∀w,(Go.sizeOf (ρ.t 24)).run P w = .ok (E.size t) w)(h1:∀x,∀v∈enc x,v.oneCell'=true)(key:Den E.S t->Int)(g:Nat)
  (eg:∀args w,(callFunc g args).run P w = .ok (.enter g args) w) (D:∀x y W,Calls P g #[.agg (enc x).toArray,.agg (enc y).toArray] W λe w'=>e = .returned (.int .i64 (nD_ key x y))/\∃q os,w'=grow (W.drewN q) os)
  {e:TypeId} {xs zs:List (Den E.S t)} {A:Option Addr} {cap:Nat} (F:RowQ E t enc w e xs A cap) (G:gF_ key xs=some zs) :
  Ret P (ρ.f 6) #[.slice A xs.length cap,.func (.func g) #[] #[]] w λv w'=>v = .tuple #[]/\zs.length=xs.length/\RowQ E t enc w' e zs A cap/\Grow w w'/\∀k,k<w.heap.size->¬cQ_ A k->w'.heap[k]? = w.heap[k]? := by
 unfold gF_ at G;split at G
 .rename_i J;obtain rfl:=qSj G;have C:(Sort.pdq (λx y=>decide (key x<key y)) xs.toArray 0 xs.length (Lib.bitLen xs.length) true true).size=xs.length:=by
   have h:=pdq_sorts (ltOf (nD_ key)) (byKey_swo key) xs.toArray 0 xs.length (Lib.bitLen xs.length) true true (zV _) (by simp) (Or.inl rfl);rw[on_]at h;simpa using h.1.1
  cases xs with
  | nil =>
   have U:(Sort.pdq (λx y=>decide (key x<key y)) ([]:List (Den E.S t)).toArray 0 ([]:List (Den E.S t)).length (Lib.bitLen ([]:List (Den E.S t)).length) true true).toList=[]:=zu.1 (by rw[qk,C];rfl);refine Calls.mono (AnyF.slices_SortFunc_none L A cap _ w) λe w' ⟨p,s⟩=>⟨_,p,rfl,by rw[U],?_,?_,λk _ _ => ?_⟩
   .subst s;rw[U];exact F
   .subst s;exact Grow.refl _
   .subst s;rfl
  | cons x xs =>
   obtain⟨b,rfl⟩:∃b,A=some ⟨b,0,none⟩:=by
    rcases F with⟨_,_,h⟩|⟨b,_,h,_⟩
    .cases h
    .exact⟨b,h⟩
   obtain⟨hH,h2,h3,hb⟩:=F.holdsK p;have hc:CmpLays P g #[] enc (E.size t) (nD_ key) b 0 (x::xs).toArray.size w:=λm os dk hs x y=>D x y _
   refine Calls.mono (AnyQ.slices_SortFunc_eq L (E.size t) aE zE enc p.len h1 (nD_ key) (byKey_swo key) g #[] b 0 cap (x::xs).toArray w eg hc hH hb (by simpa using J)) λe w' ⟨M,q,os,s⟩=>⟨_,M,rfl,?_⟩
   have O:Lib.bitLen (x::xs).toArray.size=Lib.bitLen (x::xs).length:=by simp
   rw[on_,O]at s;generalize hd:Sort.pdq (λx y=>decide (key x<key y)) (x::xs).toArray 0 (x::xs).length (Lib.bitLen (x::xs).length) true true=d at *
   have u:w'=grow (putRow id (Sort.ahead w q) b 0 (flatK enc (E.size t) d)) os:=by
    rw[s,←hd];rfl
   rw[rr_ enc (E.size t) p.len]at u;have j:d.toList.length=(x::xs).length:=by rw[qk,C]
   obtain⟨Z,Y,V⟩:=F.put (E:=E) (t:=t) (enc:=enc) (w':=w') (zs:=d.toList) (Nat.le_of_eq j) id (d.toList.map enc).flatten.toArray (by
    rw[jh,f1_ p,j]) (by
    rw[List.map_id,List.toList_toArray,qf];exact Nat.le_of_eq (f1_ p _)) q os u
   exact⟨j,Z,Y,λk hk hn=>V k hk λe=>hn ⟨_,rfl,e⟩⟩
 .cases G
end
end Rt
end Go
namespace Go.Proofs.YtebokaoegomboaaGreatDoor
open Go.RowKit Go.Rt Go.Sort
def encN(x:Xq):List Value:=[.int .i64 x.Id_,.int .i64 x.Xh,.int .i64 x.Xo,S x.Xg,.int .i64 x.Xk,S x.Yg,S x.Yj,S x.Ym,.int .i64 x.Yw,.int .i64 x.Xe,S x.Xl]
theorem encN_ok:EncOK te (.st nodeN) encN:=⟨λz x r h=>by
  obtain⟨V,J,h⟩:=RD.int_inv h;obtain⟨v2,G,h⟩:=RD.int_inv h;obtain⟨v3,F,h⟩:=RD.int_inv h;obtain⟨v4,D,h⟩:=RD.str_inv h;obtain⟨v5,C,h⟩:=RD.int_inv h;obtain⟨U,y,h⟩:=RD.str_inv h;obtain⟨O,u,h⟩:=RD.str_inv h;obtain⟨M,s,h⟩:=RD.str_inv h;obtain⟨v9,q,h⟩:=RD.int_inv h;obtain⟨p,j,h⟩:=RD.int_inv h;obtain⟨m,f,h⟩:=RD.str_inv h;rw[J,G,F,D,C,y,u,s,q,j,f,h.nil_inv];rfl,λz x => .int (.int (.int (.str (.int (.str (.str (.str (.int (.int (.str .nil))))))))))⟩
set_option maxHeartbeats 1000000 in
theorem nanI(x:Int)(W:World):Calls Tryz.prog 263 #[.int .i64 x] W λe w'=>e = .returned (.bool false)/\w'=W:=by
 go_enter Tryz.func263,Tryz.ntmps263
 go_wp2
 go_ret
 exact⟨rfl,rfl⟩
set_option maxHeartbeats 1000000 in
theorem compareI(x y:Int)(W:World):Calls Tryz.prog 192 #[.int .i64 x,.int .i64 y] W λe w'=>e = .returned (.int .i64 (Lib.compareInt x y))/\w'=W:=by
 go_enter Tryz.func192,Tryz.ntmps192
 go_wp2_with (go_at_call 263;refine(nanI _ _).mono ?_;rintro e w' ⟨rfl,f⟩;rw[f])
 all_goals (go_ret;refine⟨?_,rfl⟩;unfold Lib.compareInt;(repeat' split)<;>first|rfl|(exfalso;omega))
set_option maxHeartbeats 4000000 in
theorem closureN(x y:Xq)(W:World):Calls Tryz.prog 191 #[.agg (encN x).toArray,.agg (encN y).toArray] W λe w'=>e = .returned (.int .i64 (nD_ (λ(n:Xq)=>n.Id_) x y))/\∃q os,w'=grow (W.drewN q) os:=by
 unfold nD_;simp only;have f:=λW=>compareI x.Id_ y.Id_ W
 generalize Lib.compareInt x.Id_ y.Id_=r at f ⊢;unfold encN;cases x
 cases y
 go_enter Tryz.func191,Tryz.ntmps191
 go_wp2_with (go_at_call 192;refine(f _).mono ?_;rintro e w' ⟨rfl,rfl⟩)
 go_ret
 rw[alloc_eq_grow,alloc_eq_grow,grow_grow];exact⟨rfl,0,_,rfl⟩
def rs_:InlF te:=λH _ xs _ k=>match xs with
 | [.one (.own id),.one (.clo g [])]=>match Nat.beq g 191,H id with
  | true,some (.row e t f _)=>match Nat.beq e 81 with
   | true=>if h:t = .st nodeN then Option.bind (gF_ (λ(x:Xq)=>x.Id_) (gh_ (E:=te) h f)) λzs=>k (some (.tup [])) [(id,some (.row e (.st nodeN) zs []))]else none
   | false=>none
  | _,_=>none
 | _=>none
theorem ua_:InlOK Tryz.prog te 190 rs_/\dU_ Tryz.prog 190=true:=by
 refine⟨?_,by kernel_rfl⟩;intro z g nx H xs vs R k r Bs F0 w0 w D U m h;unfold rs_ at h;split at h
 .rename_i id fn;split at h
  .rename_i e t M foc hg hi;obtain rfl:=qNb hg;split at h
   .rename_i he;obtain rfl:=qNb he;split at h
    .rename_i ht;subst ht;obtain⟨zs,hs,h⟩:=bind_some h;have u:gF_ (λ(x:Xq)=>x.Id_) M=some zs:=hs;obtain⟨l0,J,O,c0,r0⟩:=rowQ_of encN_ok (U.hold _ _ hi);cases m with
     | cons Z m=>cases m with
      | cons v2 m =>
       cases m
       obtain⟨l1,Y,rfl⟩:=Z;rw[J]at Y;obtain rfl:=qSj Y;obtain⟨us,rfl,hu⟩:=v2;cases hu
       rw[O]
       letI:Inhabited (Den te.S (.st nodeN)):=(inferInstance:Inhabited Xq)
       have p:=sortF_run (P:=Tryz.prog) (E:=te) (t := .st nodeN) (enc:=encN) Tryz.laysSortF encN_ok Tryz.isAgg81 Tryz.sizeOf81 (λx v m=>by
        simp only[encN,qW,List.not_mem_nil,or_false]at m;rcases m with rfl|rfl|rfl|rfl|rfl|rfl|rfl|rfl|rfl|rfl|rfl<;>rfl) (λ(x:Xq)=>x.Id_) 191 (enters_of Tryz.func191 (by kernel_rfl) rfl) (λx y W=>closureN x y W) r0 u
       refine Ret.mono (f:=190) p λv w' ⟨s,q,C,G,F⟩ => ?_
       subst s;refine⟨.tup [],_,z,g,h,Fz.Le.refl z,Ga.Le.refl g,(λi hi=>D i (qt (by omega) (qt (nZ_ nx _) hi))),⟨[],rfl,.nil⟩,?_⟩;exact U.rowQ encN_ok (i:=id) (i':=id) (xs:=M) (zs:=zs) hi J (Ga.Le.refl g) J rfl (O.trans q.symm) c0 G F C λj o hj=>by
        rcases cg_ hj with h|⟨V,h2⟩
        .exact .inl h
        .exact .inr ⟨V,V,h2⟩
    .cases h
   .cases h
  .cases h
 .cases h
end Go.Proofs.YtebokaoegomboaaGreatDoor
namespace Go.Proofs.YtebokaoegomboaaGreatDoor
open Go.Rt Go.RowKit
noncomputable section
abbrev qI:Ty := .int .i64
abbrev qU:Ty := .int .u32
abbrev qJ:Ty×List (Option Nat):=(.int .i64,[])
abbrev qB:Ty×List (Option Nat):=(.bool,[])
def qp:Nat->Pl->Pl | 0,x=>x|n+1,x => .s .p (qp n x)
def qd(n:Nat):Pl := .dr (List.replicate n 0) [] false []
def qu2{α β ω τ:Type}(f:α->β->τ)(a:α×β×ω):τ:=f a.1 a.2.1
def qu3{α β γ ω τ:Type}(f:α->β->γ->τ)(a:α×β×γ×ω):τ:=f a.1 a.2.1 a.2.2.1
def qu4{α β γ δ ω τ:Type}(f:α->β->γ->δ->τ)(a:α×β×γ×δ×ω):τ:=f a.1 a.2.1 a.2.2.1 a.2.2.2.1
def qu5{α β γ δ ε ω τ:Type}(f:α->β->γ->δ->ε->τ)(a:α×β×γ×δ×ε×ω):τ:=f a.1 a.2.1 a.2.2.1 a.2.2.2.1 a.2.2.2.2.1
def qu6{α β γ δ ε ζ ω τ:Type}(f:α->β->γ->δ->ε->ζ->τ)(a:α×β×γ×δ×ε×ζ×ω):τ:=f a.1 a.2.1 a.2.2.1 a.2.2.2.1 a.2.2.2.2.1 a.2.2.2.2.2.1
def qu7{α β γ δ ε ζ η ω τ:Type}(f:α->β->γ->δ->ε->ζ -> η -> τ)(a:α×β×γ×δ×ε×ζ × η × ω):τ:=f a.1 a.2.1 a.2.2.1 a.2.2.2.1 a.2.2.2.2.1 a.2.2.2.2.2.1 a.2.2.2.2.2.2.1
def qu8{α β γ δ ε ζ η θ ω τ:Type}(f:α->β->γ->δ->ε->ζ -> η -> θ -> τ)(a:α×β×γ×δ×ε×ζ × η × θ × ω):τ:=f a.1 a.2.1 a.2.2.1 a.2.2.2.1 a.2.2.2.2.1 a.2.2.2.2.2.1 a.2.2.2.2.2.2.1 a.2.2.2.2.2.2.2.1
def c_10:Con te:=aj_ te [.d (.st 8)] [qB] false λa=>iR_ a.1
theorem aA{tab:Tab te}{i:FuncId}{fn:Func}{ps:List Pm}{rs:Rs}{ali:Bool}{f:PA te ps->Option (Tp te.S (rs.ts++bo_ ps))}(t:tab.OK Tryz.prog te)(hf:Tryz.prog.funcs[i]?=some fn)(hn:(!(fn.name== "runtime.NumGoroutine")&&!fn.body.isNone&&(ali||(ki_ te rs&&fJ_ te ps)))=true)(pl:Pl)(h:∀a,f a=evFun Tryz.prog te eqL tab fn ps rs pl a):OKF i (aj_ te ps rs ali f):=by
 simp only[Bool.and_eq_true] at hn
 exact ⟨ad_ ah_ t hf hn.2 (pl:=pl) h,by unfold dU_;rw[hf];simp only[Bool.and_eq_true];exact hn.1⟩
theorem ok_10:OKF 10 c_10:=aA af_ Tryz.func10 (by kernel_rfl) (qp 3 (.s (.s .p (.lp ⟨[(49,.d qI)],[],[1,3,48],[0,5],[],27022⟩ ⟨[],[],[1,3],[0,5],[],27022⟩ true .p)) (.s (.s .p (.lp ⟨[(65,.d qI)],[],[1,3,64],[0,5],[],27027⟩ ⟨[],[],[1],[0],[],27027⟩ true .p)) (.s (.s .p (.lp ⟨[(93,.d qI)],[],[1,92],[0],[],27032⟩ ⟨[],[],[1],[0],[],27032⟩ true .p)) (.s (.s .p (.lp ⟨[(120,.d qI)],[],[1,119],[0],[],27036⟩ ⟨[],[],[],[],[],27036⟩ true .p)) .p))))) λ_=>by kernel_rfl
def c_83:Con te:=aj_ te [.d .str] [qB] false λa=>cR_ a.1
theorem ok_83:OKF 83 c_83:=aA af_ Tryz.func83 (by kernel_rfl) (qp 2 (.s (.s .p (.lp ⟨[(3,.d qI)],[],[0],[],[],4006⟩ ⟨[],[],[],[],[],4006⟩ true .p)) .p)) λ_=>by kernel_rfl
def c_203:Con te:=aj_ te [.d (.sl (.st 0)),.d .str] [qJ] false (qu2 jI_)
theorem ok_203:OKF 203 c_203:=aA af_ Tryz.func203 (by kernel_rfl) (.s .p (.s (.s .p (.lp ⟨[(8,.d qI)],[],[0,1,7],[],[],4⟩ ⟨[],[],[],[],[],4⟩ true .p)) .p)) λ_=>by kernel_rfl
def c_146:Con te:=aj_ te [.d (.sl (.st 0)),.d qI] [qJ] false (qu2 h7_)
theorem ok_146:OKF 146 c_146:=aA (ac_ ok_203 (ac_ ok_83 af_)) Tryz.func146 (by kernel_rfl) (qp 3 (.s (.s .p (.lp ⟨[(37,.d qI)],[],[0,5,36],[5],[],6030⟩ ⟨[],[],[],[],[],6030⟩ true (qp 2 (.s (.s .p (.s (qd 26) .p)) .p)))) .p)) λ_=>by kernel_rfl
def c_81:Con te:=aj_ te [.d (.sl (.st 0))] [qJ] false λa=>lW_ a.1
theorem ok_81:OKF 81 c_81:=aA (ac_ ok_146 af_) Tryz.func81 (by kernel_rfl) (qp 2 (.s (.s .p (.lp ⟨[(10,.d qI)],[],[0,9],[],[],7⟩ ⟨[],[],[],[],[],7⟩ true .p)) .p)) λ_=>by kernel_rfl
def c_82:Con te:=aj_ te [.d (.sl (.st 1))] [qJ] false λa=>lX_ a.1
theorem ok_82:OKF 82 c_82:=aA (ac_ ok_83 af_) Tryz.func82 (by kernel_rfl) (qp 2 (.s (.s .p (.lp ⟨[(3,.d qI)],[],[0],[],[],5⟩ ⟨[],[],[],[],[],5⟩ true (.s .p (.s (qp 2 (.s (.s (qd 13) .p) .p)) .p)))) .p)) λ_=>by kernel_rfl
def c_172:Con te:=aj_ te [.d qI] [qB] false λa=>h8_ a.1
theorem ok_172:OKF 172 c_172:=aA af_ Tryz.func172 (by kernel_rfl) .p λ_=>by kernel_rfl
def c_108:Con te:=aj_ te [.d qI] [qB] false λa=>bh_ a.1
theorem mC_:OKF 108 c_108:=aA af_ Tryz.func108 (by kernel_rfl) .p λ_=>by kernel_rfl
def c_106:Con te:=aj_ te [.d (.st 2)] [qB] false λa=>hw_ a.1
theorem ok_106:OKF 106 c_106:=aA (ac_ mC_ (ac_ ok_172 af_)) Tryz.func106 (by kernel_rfl) .p λ_=>by kernel_rfl
def c_107:Con te:=aj_ te [.d .str] [qB] false λa=>dZ_ a.1
theorem p1_:OKF 107 c_107:=aA af_ Tryz.func107 (by kernel_rfl) (.s .p (.s (.s .p (.lp ⟨[(3,.d (.int .i64))],[],[0],[],[],2⟩ ⟨[],[],[0],[],[],2⟩ true .p)) .p)) λ_=>by kernel_rfl
def c_40:Con te:=aj_ te [.d (.st 3)] [qB] false λa=>cS_ a.1
theorem ok_40:OKF 40 c_40:=aA (ac_ mC_ (ac_ p1_ (ac_ ok_106 af_))) Tryz.func40 (by kernel_rfl) (qp 3 (.s (.s (qd 15) .p) (.s (.s .p (.lp ⟨[(4,.d qI)],[],[3],[],[],38027⟩ ⟨[],[],[],[],[],38027⟩ true (.s .p (.s (.s (.s (qd 42) .p) (.s .p (.s (.s .p (.lp ⟨[(5,.d .bool),(6,.d qI)],[],[3,4],[],[],65048⟩ ⟨[(5,.d .bool)],[],[3,4],[],[],65048⟩ true (.s .p (.s (.s (qd 23) (.s (qd 28) .p)) .p)))) .p))) .p)))) .p))) λ_=>by kernel_rfl
def c_139:Con te:=aj_ te [.d (.st 3),.d qI] [qJ] false (qu2 pr_)
theorem ok_139:OKF 139 c_139:=aA af_ Tryz.func139 (by kernel_rfl) (.s .p (.s (.s .p (.lp ⟨[(5,.d qI)],[],[1,2],[0],[],4⟩ ⟨[],[],[],[],[],4⟩ true .p)) .p)) λ_=>by kernel_rfl
def c_68:Con te:=aj_ te [.d (.st 3),.d qI] [(.st 2,[]),qB] false (qu2 aP_)
theorem d3_:OKF 68 c_68:=aA (ac_ ok_139 af_) Tryz.func68 (by kernel_rfl) .p λ_=>by kernel_rfl
def c_98:Con te:=aj_ te [.d qI,.d qI] [qB] false (qu2 aW_)
theorem kT_:OKF 98 c_98:=aA af_ Tryz.func98 (by kernel_rfl) .p λ_=>by kernel_rfl
def c_37:Con te:=aj_ te [.d (.st 4)] [qB] false λa=>lY_ a.1
theorem ok_37:OKF 37 c_37:=aA (ac_ kT_ (ac_ d3_ (ac_ ok_40 (ac_ ok_82 (ac_ ok_81 af_))))) Tryz.func37 (by kernel_rfl) (qp 2 (.s (.s .p (.lp ⟨[(25,.d qI)],[],[1,24],[0],[],10013⟩ ⟨[],[],[],[],[],10013⟩ true (qp 2 (.s (.s .p (.s (.dr [0,0,0,0,0,0,0,0,0,0,4,1,2,4] [10] false []) (.s (qd 26) .p))) .p)))) .p)) λ_=>by kernel_rfl
def c_99:Con te:=aj_ te [.d qI] [qB] false λa=>nq_ a.1
theorem ok_99:OKF 99 c_99:=aA af_ Tryz.func99 (by kernel_rfl) .p λ_=>by kernel_rfl
def c_100:Con te:=aj_ te [.d (.sl (.st 5)),.d .str] [qJ] false (qu2 lz_)
theorem ok_100:OKF 100 c_100:=aA af_ Tryz.func100 (by kernel_rfl) (.s .p (.s (.s .p (.lp ⟨[(5,.d qI)],[],[0,1],[],[],2⟩ ⟨[],[],[],[],[],2⟩ true .p)) .p)) λ_=>by kernel_rfl
def c_38:Con te:=aj_ te [.d (.st 6)] [qB] false λa=>iS_ a.1
theorem ok_38:OKF 38 c_38:=aA (ac_ ok_100 (ac_ ok_99 af_)) Tryz.func38 (by kernel_rfl) (qp 2 (.s (.s .p (.lp ⟨[(3,.d qI)],[],[1],[0],[],11009⟩ ⟨[],[],[],[],[],11009⟩ true (.s .p (.s (.s .p (.s (qd 26) .p)) .p)))) .p)) λ_=>by kernel_rfl
def c_337:Con te:=aj_ te [.d (.int .u64),.d qI] [(.str,[])] false (qu2 hx_)
theorem ok_337:OKF 337 c_337:=aA af_ Tryz.func337 (by kernel_rfl) (qp 2 (.s (.s .p (.lp ⟨[(0,.d (.int .u64)),(5,.d .str),(6,.d qI)],[],[1],[],[],3⟩ ⟨[(5,.d .str)],[],[],[],[],3⟩ false .p)) .p)) λ_=>by kernel_rfl
def c_335:Con te:=aj_ te [.d .str] [(.str,[])] false λa=>ko_ a.1
theorem ok_335:OKF 335 c_335:=aA (ac_ ok_337 af_) Tryz.func335 (by kernel_rfl) (qp 2 (.s (.lp ⟨[(3,.d .str)],[],[0],[],[],4⟩ ⟨[(3,.d .str)],[],[0],[],[],4⟩ false .p) .p)) λ_=>by kernel_rfl
def c_358:Con te:=aj_ te [] [(.sl qU,[some 306])] false λ_=>oT_
theorem ok_358:OKF 358 c_358:=aA af_ Tryz.func358 (by kernel_rfl) .p λ_=>by kernel_rfl
def c_360:Con te:=aj_ te [.d qU,.d qI] [(qU,[])] false (qu2 bi_)
theorem ok_360:OKF 360 c_360:=aA af_ Tryz.func360 (by kernel_rfl) (.s .p (.s (qd 9) .p)) λ_=>by kernel_rfl
def c_359:Con te:=aj_ te [.d .str] [(.sl qU,[some 306])] false λa=>ib_ a.1
theorem ok_359:OKF 359 c_359:=aA (ac_ ok_360 af_) Tryz.func359 (by kernel_rfl) (qp 2 (.s (.s .p (.lp ⟨[(3,.one (.own 3)),(4,.d qI)],[(3,false,.row 306 qU [])],[0],[],[],4⟩ ⟨[(3,.one (.own 3))],[(3,false,.row 306 qU [])],[],[],[],4⟩ false (.s .p (.s (.dr [0,0,0,0,0,0,0,0,0,0,0,0,0,0,0,0,0,0,0,0,0,0,0,0,0,0,0,0,0,0,1,2,4] [] false []) .p)))) (.s (.s .p (.lp ⟨[(3,.one (.own 5)),(5,.d qI)],[(5,false,.row 306 qU [])],[],[],[],6⟩ ⟨[(3,.one (.own 5))],[(5,false,.row 306 qU [])],[],[],[],6⟩ false (.s .p (.s (.s (qd 12) (qp 2 (.dr [0,0,0,0,0,0,0,0,0,0,0,0,0,0,0,0,1,2,4] [] false []))) .p)))) .p))) λ_=>by kernel_rfl
def c_336:Con te:=aj_ te [.d (.sl qU),.d .str] [(.sl qU,[some 306])] false (qu2 l0_)
theorem ok_336:OKF 336 c_336:=aA (ac_ ok_360 (ac_ ok_359 (ac_ ok_358 af_))) Tryz.func336 (by kernel_rfl) (qp 2 (.s (qd 16) (.s (qd 16) (.s (.s .p (.lp ⟨[(7,.d qU),(8,.d qU),(9,.d qU),(10,.d qU),(11,.d qU),(12,.d qU),(13,.d qU),(14,.d qU),(15,.d qI)],[(1,true,.row 306 qU []),(4,true,.row 306 qU [])],[0,5,6],[],[],41⟩ ⟨[(7,.d qU),(8,.d qU),(9,.d qU),(10,.d qU),(11,.d qU),(12,.d qU),(13,.d qU),(14,.d qU)],[],[0],[],[],41⟩ false (.s .p (.s (.s (qd 30) .p) .p)))) (.s (.dr [0,0,0,0,0,0,0,0,0,0,0,0,0,0,0,0,0,0,0,0,0,0,0,0,0,0,0,0,0,0,0,0,0,0,0,0,0,0,0,0,1,4] [] false []) .p))))) λ_=>by kernel_rfl
def c_296:Con te:=aj_ te [.d .str] [(.str,[])] false λa=>oU_ a.1
theorem ok_296:OKF 296 c_296:=aA (ac_ ok_337 (ac_ ok_336 (ac_ ok_335 af_))) Tryz.func296 (by kernel_rfl) (qp 3 (.s (.s .p (.lp ⟨[(3,.one (.own 8)),(5,.d qI)],[(8,false,.row 306 qU [])],[4],[],[],9⟩ ⟨[(3,.one (.own 8))],[(8,false,.row 306 qU [])],[],[],[],9⟩ false .p)) (.s .p (.s (.s .p (.lp ⟨[(6,.d .str),(7,.d qI)],[(8,true,.row 306 qU [])],[3],[],[],11⟩ ⟨[(6,.d .str)],[],[],[],[],11⟩ false .p)) .p)))) λ_=>by kernel_rfl
def c_237:Con te:=aj_ te [.d qI,.d .str] [(.str,[])] false (qu2 iT_)
theorem ok_237:OKF 237 c_237:=aA (ac_ ok_296 af_) Tryz.func237 (by kernel_rfl) .p λ_=>by kernel_rfl
def c_168:Con te:=aj_ te [.d (.st 6),.d .str,.d qI] [(.str,[]),qJ] false (qu3 oV_)
theorem ok_168:OKF 168 c_168:=aA (ac_ ok_237 (ac_ ok_100 af_)) Tryz.func168 (by kernel_rfl) .p λ_=>by kernel_rfl
def c_101:Con te:=aj_ te [.d (.st 6),.d .str,.d qI] [(.str,[]),qJ] false (qu3 gQ_)
theorem ok_101:OKF 101 c_101:=aA (ac_ ok_168 af_) Tryz.func101 (by kernel_rfl) .p λ_=>by kernel_rfl
def c_102:Con te:=aj_ te [.b 135 (.st 9),.d qI] [qJ] false (qu2 aD_)
theorem ok_102:OKF 102 c_102:=aA af_ Tryz.func102 (by kernel_rfl) (.s .p (.s (.s (qd 18) .p) (.s .p (.s (.s .p (.lp ⟨[(5,.d qI),(6,.d qI)],[],[0,1],[0],[],13011⟩ ⟨[(5,.d qI)],[],[0,1],[0],[],13011⟩ true (.s .p (.s (.s .p (qd 16)) .p)))) .p)))) λ_=>by kernel_rfl
def c_169:Con te:=aj_ te [.b 135 (.st 9),.d qI] [(.str,[])] false (qu2 bY_)
theorem ok_169:OKF 169 c_169:=aA af_ Tryz.func169 (by kernel_rfl) (.s .p (.s (.s (qd 18) .p) (.s .p (.s (qd 16) .p)))) λ_=>by kernel_rfl
def c_103:Con te:=aj_ te [.b 135 (.st 9)] [(.st 2,[]),(.st 10,[])] false λa=>eV_ a.1
theorem ok_103:OKF 103 c_103:=aA (ac_ ok_169 (ac_ ok_102 af_)) Tryz.func103 (by kernel_rfl) (qp 14 (.s (.dr [0,0,1,1] [] true [1,3]) .p)) λ_=>by kernel_rfl
def c_238:Con te:=aj_ te [.d qI] [qJ] false λa=>kq_ a.1
theorem ok_238:OKF 238 c_238:=aA af_ Tryz.func238 (by kernel_rfl) (qp 3 (.s (.lp ⟨[(3,.d qI),(4,.d qI)],[],[],[],[],8⟩ ⟨[(4,.d qI)],[],[],[],[],8⟩ false .p) .p)) λ_=>by kernel_rfl
def c_170:Con te:=aj_ te [.d (.st 10)] [qB] false λa=>iU_ a.1
theorem ok_170:OKF 170 c_170:=aA (ac_ ok_238 af_) Tryz.func170 (by kernel_rfl) (.s .p (.s (qd 23) .p)) λ_=>by kernel_rfl
def c_297:Con te:=aj_ te [.d qI] [qJ] false λa=>ic_ a.1
theorem ok_297:OKF 297 c_297:=aA af_ Tryz.func297 (by kernel_rfl) (qp 2 (.s (.s .p (.lp ⟨[(3,.d qI),(4,.d qI)],[],[0],[],[],3⟩ ⟨[(3,.d qI)],[],[],[],[],3⟩ false .p)) .p)) λ_=>by kernel_rfl
def cS_239(f:Xx->Str->Int->Int->Int->Int->Int->Bool->Option (Str×Int)):Con te:=aj_ te [.d (.st 6),.d .str,.d qI,.d qI,.d qI,.d qI,.d qI,.d .bool] [(.str,[]),qJ] false (qu8 f)
theorem okS_239(f:Xx->Str->Int->Int->Int->Int->Int->Bool->Option (Str×Int))(h:OKF 239 (cS_239 f)):OKF 239 (cS_239 (fO_ f)):=aA (ac_ ok_297 (ac_ ok_101 (ac_ h af_))) Tryz.func239 (by kernel_rfl) (qp 8 (.s (.s .p (.lp ⟨[(24,.d .str),(25,.d qI)],[],[2,3,4,5,6,7,8,20,22,23],[0],[],34⟩ ⟨[(24,.d .str)],[],[],[],[],34⟩ true (.s .p (.j ⟨[(24,.d .str)],[],[2,3,4,5,6,7,8,20,22,23,25],[0],[],37⟩ true (qp 3 (.s (qd 21) .p)) .p)))) .p)) λ_=>by kernel_rfl
theorem okN_239:∀n,OKF 239 (cS_239 (fj_ n))
 | 0=>⟨h1_ λ_=>rfl,by kernel_rfl⟩
 | n+1=>okS_239 _ (okN_239 n)
def c_239:Con te:=cS_239 (fj_ BIG)
theorem ok_239:OKF 239 c_239:=okN_239 BIG
def c_171:Con te:=aj_ te [.d (.st 6),.d qI,.d (.st 10)] [(.str,[]),qJ] false (qu3 dN_)
theorem ok_171:OKF 171 c_171:=aA (ac_ ok_239 (ac_ ok_170 af_)) Tryz.func171 (by kernel_rfl) .p λ_=>by kernel_rfl
def cS_104(f:Xx->Xq->Xb->Int->Option ((List Xq)×Int)):Con te:=aj_ te [.d (.st 6),.d (.st 2),.d (.st 10),.d qI] [(.sl (.st 2),[]),qJ] true (qu4 f)
theorem okS_104(f:Xx->Xq->Xb->Int->Option ((List Xq)×Int))(h:OKF 104 (cS_104 f)):OKF 104 (cS_104 (dr_ f)):=aA (ac_ ok_103 (ac_ ok_171 (ac_ mC_ (ac_ ok_170 (ac_ h af_))))) Tryz.func104 (by kernel_rfl) (qp 8 (.s (.lp ⟨[(14,.one (.own 4032)),(15,.one (.own 4033))],[(4032,false,.row 81 (.st 2) []),(4033,false,.row 137 (.st 10) []),(4029,true,.box 135 (.st 9))],[3,4,5,12,16],[0,2],[],4034⟩ ⟨[(14,.one (.own 4032)),(15,.one (.own 4033))],[(4032,false,.row 81 (.st 2) []),(4033,false,.row 137 (.st 10) [])],[3,4,5],[0,2],[],4034⟩ true .p) (.s .p (.s (.s .p (.lp ⟨[(19,.one (.own 4039)),(20,.d qI)],[(4032,true,.row 81 (.st 2) []),(4033,true,.row 137 (.st 10) []),(4039,false,.row 81 (.st 2) [])],[3,4,14,15],[0],[],4040⟩ ⟨[(19,.one (.own 4039))],[(4039,false,.row 81 (.st 2) [])],[],[],[],4040⟩ true (.s .p (.s (.s (.dr [0,0,0,0,0,0,0,0,0,0,0,0,0,1,4,4,4,4,4] [] false []) .p) .p)))) .p)))) λ_=>by kernel_rfl
theorem okN_104:∀n,OKF 104 (cS_104 (cW_ n))
 | 0=>⟨h1_ λ_=>rfl,by kernel_rfl⟩
 | n+1=>okS_104 _ (okN_104 n)
def c_104:Con te:=cS_104 (cW_ BIG)
theorem ok_104:OKF 104 c_104:=okN_104 BIG
def c_105:Con te:=aj_ te [.d (.sl (.st 2))] [(.sl (.st 2),[])] true λa=>kr_ a.1
theorem ok_105:OKF 105 c_105:=aA af_ Tryz.func105 (by kernel_rfl) (qp 2 (.s (.s .p (.lp ⟨[(3,.d (.sl (.st 2))),(4,.d qI)],[],[0],[],[],3⟩ ⟨[(3,.d (.sl (.st 2)))],[],[],[],[],3⟩ false (.s .p (.s (.s .p (.s (.lp ⟨[(5,.d qI)],[],[0,3,4],[],[],8⟩ ⟨[(5,.d qI)],[],[0,3,4],[],[],8⟩ false (.s (.s (qd 17) .p) .p)) .p)) .p)))) .p)) λ_=>by kernel_rfl
def c_39:Con te:=aj_ te [.d (.st 6),.d .str] [(.st 3,[]),qJ] true (qu2 er_)
theorem ok_39:OKF 39 c_39:=aA (ac_ ok_40 (ac_ ok_105 (ac_ ok_104 (ac_ ok_103 (ac_ ok_102 (ac_ ok_101 af_)))))) Tryz.func39 (by kernel_rfl) .p λ_=>by kernel_rfl
def c_11:Con te:=aj_ te [.d (.st 8)] [qB] false λa=>iV_ a.1
theorem ok_11:OKF 11 c_11:=aA (ac_ ok_40 (ac_ ok_39 (ac_ ok_38 (ac_ ok_37 af_)))) Tryz.func11 (by kernel_rfl) (qp 2 (.s (.s .p (.lp ⟨[(26,.d qI)],[],[1,25],[0],[],10013⟩ ⟨[],[],[],[],[],10013⟩ true (qp 2 (.s (qp 2 (.s (.s (qd 24) .p) .p)) .p)))) .p)) λ_=>by kernel_rfl
def c_75:Con te:=aj_ te [.d .str] [qB] false λa=>gl_ a.1
theorem ok_75:OKF 75 c_75:=aA af_ Tryz.func75 (by kernel_rfl) (qp 2 (.s (.s .p (.lp ⟨[(16,.d qI)],[],[0,15],[],[],4007⟩ ⟨[],[],[],[],[],4007⟩ true .p)) .p)) λ_=>by kernel_rfl
def c_143:Con te:=aj_ te [.mp 154 .str qI,.d (.sl .str)] [qJ] false (qu2 ks_)
theorem ok_143:OKF 143 c_143:=aA af_ Tryz.func143 (by kernel_rfl) (.s .p (.s (.s .p (.lp ⟨[(9,.d qI)],[],[0,1,7,8],[0],[],5⟩ ⟨[],[],[],[0],[],5⟩ true .p)) .p)) λ_=>by kernel_rfl
def c_73:Con te:=aj_ te [.d (.sl (.st 0))] [qJ] false λa=>kt_ a.1
theorem ok_73:OKF 73 c_73:=aA (ac_ ok_143 (ac_ ok_75 af_)) Tryz.func73 (by kernel_rfl) (qp 3 (.s (.s .p (.lp ⟨[(17,.d qI)],[(4,true,.map 154 .str qI)],[0,3,4,15,16],[6],[],13⟩ ⟨[],[(4,true,.map 154 .str qI)],[0,3,4],[6],[],13⟩ false .p)) (.s (.s .p (.lp ⟨[(29,.d qI)],[(4,true,.map 154 .str qI),(6,true,.map 154 .str qI)],[3,4,27,28],[],[],16⟩ ⟨[],[],[],[],[],16⟩ true .p)) .p))) λ_=>by kernel_rfl
def c_74:Con te:=aj_ te [.d (.sl (.st 1))] [qJ] false λa=>iW_ a.1
theorem ok_74:OKF 74 c_74:=aA (ac_ ok_75 af_) Tryz.func74 (by kernel_rfl) (qp 2 (.s (.s .p (.lp ⟨[(10,.d qI)],[],[0,8,9],[],[],7⟩ ⟨[],[],[],[],[],7⟩ true (qp 2 (.s (qp 3 (.s (qd 14) .p)) .p)))) .p)) λ_=>by kernel_rfl
def c_76:Con te:=aj_ te [.d (.sl (.st 0))] [(.sl (.st 0),[some 79])] true λa=>bT_ a.1
theorem ok_76:OKF 76 c_76:=⟨ad_ ah_ af_ Tryz.func76 (by kernel_rfl) (pl := .p) λa=>(congrFun ld_ a.1).symm.trans (by kernel_rfl),by kernel_rfl⟩
def c_77:Con te:=aj_ te [.d (.sl (.st 1))] [(.sl (.st 1),[some 120])] false λa=>bJ_ a.1
theorem ok_77:OKF 77 c_77:=⟨ad_ ah_ af_ Tryz.func77 (by kernel_rfl) (pl := .p) λa=>(congrFun kd_ a.1).symm.trans (by kernel_rfl),by kernel_rfl⟩
def c_79:Con te:=aj_ te [.d qI] [qJ] false λa=>cX_ a.1
theorem ok_79:OKF 79 c_79:=aA af_ Tryz.func79 (by kernel_rfl) .p λ_=>by kernel_rfl
def c_144:Con te:=aj_ te [.d .str] [(.str,[])] false λa=>eG_ a.1
theorem ok_144:OKF 144 c_144:=aA af_ Tryz.func144 (by kernel_rfl) .p λ_=>by kernel_rfl
def c_145:Con te:=aj_ te [.d qI] [qJ] false λa=>gm_ a.1
theorem ok_145:OKF 145 c_145:=aA af_ Tryz.func145 (by kernel_rfl) .p λ_=>by kernel_rfl
def c_78:Con te:=aj_ te [.d .str,.d qI,.d qI] [(.st 3,[none,some 81])] false (qu3 tree_New)
theorem ok_78:OKF 78 c_78:=aA (ac_ ok_145 (ac_ ok_144 af_)) Tryz.func78 (by kernel_rfl) .p λ_=>by kernel_rfl
def c_80:Con te:=aj_ te [.d (.sl .str)] [(.sl .str,[some 9])] false λa=>bM_ a.1
theorem ok_80:OKF 80 c_80:=⟨ad_ ah_ af_ Tryz.func80 (by kernel_rfl) (pl := .p) λa=>(congrFun mz_ a.1).symm.trans (by kernel_rfl),by kernel_rfl⟩
def c_31:Con te:=aj_ te [.d (.sl (.st 0)),.d (.sl (.st 1)),.d .str,.d qI] [(.st 4,[some 79,some 120,none,some 81]),qJ] true (qu4 tw_)
theorem ok_31:OKF 31 c_31:=aA (ac_ ok_80 (ac_ ok_78 (ac_ ok_79 (ac_ ok_77 (ac_ ok_76 (ac_ ok_75 (ac_ ok_74 (ac_ ok_73 af_)))))))) Tryz.func31 (by kernel_rfl) (qp 5 (.s (.s .p (.lp ⟨[(42,.d qI)],[(17,true,.row 79 (.st 0) [])],[8,12,41],[0,20,25,28],[],36⟩ ⟨[],[(17,true,.row 79 (.st 0) [])],[8,12],[0,20,25,28],[],36⟩ false (qp 2 (.s (.s .p (.dr [0,0,0,0,0,0,0,0,0,1,1,4,2] [] false [])) .p)))) .p)) λ_=>by kernel_rfl
def c_126:Con te:=aj_ te [.d (.sl (.st 2))] [(.sl (.st 2),[some 81])] false λa=>ce_ a.1
theorem ok_126:OKF 126 c_126:=⟨ad_ ah_ af_ Tryz.func126 (by kernel_rfl) (pl := .p) λa=>(congrFun lf_ a.1).symm.trans (by kernel_rfl),by kernel_rfl⟩
def c_127:Con te:=aj_ te [.d (.sl qI)] [(.sl qI,[some 3])] false λa=>cs_ a.1
theorem ok_127:OKF 127 c_127:=⟨ad_ ah_ af_ Tryz.func127 (by kernel_rfl) (pl := .p) λa=>(congrFun pW_ a.1).symm.trans (by kernel_rfl),by kernel_rfl⟩
def c_50:Con te:=aj_ te [.d (.st 4)] [(.st 4,[some 79,some 120,none,some 81,some 3])] true λa=>ds_ a.1
theorem ok_50:OKF 50 c_50:=aA (ac_ ok_127 (ac_ ok_126 (ac_ ok_77 (ac_ ok_80 (ac_ ok_76 af_))))) Tryz.func50 (by kernel_rfl) (qp 3 (.s (.s .p (.lp ⟨[(13,.d qI)],[(11,true,.row 79 (.st 0) [])],[1,2,3,12],[0,2,5],[],20⟩ ⟨[],[(11,true,.row 79 (.st 0) [])],[1,2,3],[0,2,5],[],20⟩ false (qp 2 (.s (.s .p (.dr [0,0,0,0,0,0,0,0,0,1,1,4,2] [] false [])) .p)))) .p)) λ_=>by kernel_rfl
def c_51:Con te:=aj_ te [.d qI] [(.st 6,[])] true λa=>block_New a.1
theorem ok_51:OKF 51 c_51:=aA af_ Tryz.func51 (by kernel_rfl) .p λ_=>by kernel_rfl
def c_20:Con te:=aj_ te [.d (.st 4),.d qI] [(.st 8,[])] true (qu2 r7_)
theorem ok_20:OKF 20 c_20:=aA (ac_ ok_51 (ac_ ok_50 af_)) Tryz.func20 (by kernel_rfl) .p λ_=>by kernel_rfl
def c_249:Con te:=aj_ te [.d (.st 3),.f1 (.st 2) .bool] [qJ] false (qu2 oW_)
theorem ok_249:OKF 249 c_249:=aA af_ Tryz.func249 (by kernel_rfl) (.s .p (.s (.s .p (.lp ⟨[(10,.d qI)],[],[1,8,9],[],[],7⟩ ⟨[],[],[],[],[],7⟩ true .p)) .p)) λ_=>by kernel_rfl
def c_250:Con te:=aj_ te [.d (.st 2),.p qI] [qB] false (qu2 r8_)
theorem ok_250:OKF 250 c_250:=aA af_ Tryz.func250 (by kernel_rfl) .p λ_=>by kernel_rfl
def c_184:Con te:=aj_ te [.d (.st 3),.d qI] [qJ] false (qu2 dt_)
theorem p2_:OKF 184 c_184:=aA (ac_ ok_250 (ac_ ok_249 af_)) Tryz.func184 (by kernel_rfl) .p λ_=>by kernel_rfl
def c_114:Con te:=aj_ te [.d (.st 3),.d qI] [(.st 2,[]),qB] false (qu2 dc_)
theorem kU_:OKF 114 c_114:=aA (ac_ p2_ af_) Tryz.func114 (by kernel_rfl) .p λ_=>by kernel_rfl
def c_178:Con te:=aj_ te [.d (.st 4),.d .str,.d qI] [(.st 2,[]),qJ] false (qu3 d8_)
theorem ok_178:OKF 178 c_178:=aA (ac_ kU_ (ac_ ok_75 af_)) Tryz.func178 (by kernel_rfl) .p λ_=>by kernel_rfl
def c_118:Con te:=aj_ te [.d qI,.d qI] [qB] false (qu2 aB_)
theorem gL_:OKF 118 c_118:=aA af_ Tryz.func118 (by kernel_rfl) .p λ_=>by kernel_rfl
def c_129:Con te:=aj_ te [.d (.st 4),.d .str,.d qI] [(.st 2,[]),qJ] false (qu3 ez_)
theorem ok_129:OKF 129 c_129:=aA (ac_ gL_ (ac_ ok_178 af_)) Tryz.func129 (by kernel_rfl) (qp 2 (.j ⟨[(9,.d qI)],[],[6,8],[2,12],[],17⟩ false .p .p)) λ_=>by kernel_rfl
def c_251:Con te:=aj_ te [.d (.sl (.st 0)),.d .str] [(.st 0,[none,none,some 9]),qB] false (qu2 oX_)
theorem ok_251:OKF 251 c_251:=aA (ac_ ok_80 af_) Tryz.func251 (by kernel_rfl) (.s .p (.s (.s .p (.lp ⟨[(10,.d qI)],[],[1,4,8,9],[0],[],6⟩ ⟨[],[],[4],[0],[],6⟩ true .p)) .p)) λ_=>by kernel_rfl
def c_306:Con te:=aj_ te [.d (.sl .str),.d .str] [qJ] false (qu2 eH_)
theorem ok_306:OKF 306 c_306:=aA af_ Tryz.func306 (by kernel_rfl) (.s .p (.s (.s .p (.lp ⟨[(8,.d qI)],[],[0,1,7],[],[],4⟩ ⟨[],[],[],[],[],4⟩ true .p)) .p)) λ_=>by kernel_rfl
def c_252:Con te:=aj_ te [.d (.sl .str),.d .str] [qB] false (qu2 cK_)
theorem ok_252:OKF 252 c_252:=aA (ac_ ok_306 af_) Tryz.func252 (by kernel_rfl) .p λ_=>by kernel_rfl
def c_185:Con te:=aj_ te [.d (.sl (.st 0)),.d .str,.d .str] [qB] false (qu3 gR_)
theorem ok_185:OKF 185 c_185:=aA (ac_ ok_252 (ac_ ok_251 af_)) Tryz.func185 (by kernel_rfl) .p λ_=>by kernel_rfl
def c_115:Con te:=aj_ te [.d (.sl (.st 0)),.d .str,.d .str,.d .str,.d qI,.d qI] [qB] false (qu6 iX_)
theorem ok_115:OKF 115 c_115:=aA (ac_ ok_185 af_) Tryz.func115 (by kernel_rfl) (qp 3 (.j ⟨[(13,.d qI)],[],[1,2,4,5],[],[],6008⟩ false .p (.j ⟨[(13,.d qI)],[],[5],[],[],6008⟩ false .p .p))) λ_=>by kernel_rfl
def c_130:Con te:=aj_ te [.d (.st 4),.d .str,.d (.st 2),.d qI] [qB] false (qu4 eL_)
theorem ok_130:OKF 130 c_130:=aA (ac_ ok_115 af_) Tryz.func130 (by kernel_rfl) .p λ_=>by kernel_rfl
def c_121:Con te:=aj_ te [.d qI] [qB] false λa=>bN_ a.1
theorem ok_121:OKF 121 c_121:=aA af_ Tryz.func121 (by kernel_rfl) .p λ_=>by kernel_rfl
def c_142:Con te:=aj_ te [.d (.st 3),.d qI] [qJ] false (qu2 gS_)
theorem ok_142:OKF 142 c_142:=aA (ac_ ok_121 (ac_ kU_ af_)) Tryz.func142 (by kernel_rfl) .p λ_=>by kernel_rfl
def c_264:Con te:=aj_ te [.d (.st 2),.p qI,.p .str] [qB] false (qu3 r9_)
theorem ok_264:OKF 264 c_264:=aA af_ Tryz.func264 (by kernel_rfl) .p λ_=>by kernel_rfl
def c_195:Con te:=aj_ te [.d (.st 3),.d qI,.d .str] [qJ] false (qu3 ie_)
theorem ok_195:OKF 195 c_195:=aA (ac_ ok_264 (ac_ ok_249 af_)) Tryz.func195 (by kernel_rfl) .p λ_=>by kernel_rfl
def c_131:Con te:=aj_ te [.d (.st 3),.d qI,.d .str] [qJ,qJ] false (qu3 j4_)
theorem ok_131:OKF 131 c_131:=aA (ac_ ok_195 (ac_ kU_ (ac_ ok_142 af_))) Tryz.func131 (by kernel_rfl) .p λ_=>by kernel_rfl
def c_54:Con te:=aj_ te [.d (.st 4),.d .str,.d qI,.d .str] [qJ,qJ] false (qu4 hy_)
theorem ok_54:OKF 54 c_54:=aA (ac_ ok_131 (ac_ ok_130 (ac_ ok_129 af_))) Tryz.func54 (by kernel_rfl) .p λ_=>by kernel_rfl
def c_128:Con te:=aj_ te [.d (.st 8),.d .str] [qB] false (qu2 if_)
theorem ok_128:OKF 128 c_128:=aA (ac_ ok_54 af_) Tryz.func128 (by kernel_rfl) .p λ_=>by kernel_rfl
def c_294:Con te:=aj_ te [.d (.sl (.st 5)),.f1 (.st 5) .bool] [qJ] false (qu2 cT_)
theorem ok_294:OKF 294 c_294:=aA af_ Tryz.func294 (by kernel_rfl) (.s .p (.s (.s .p (.lp ⟨[(8,.d qI)],[],[0,1,7],[],[],4⟩ ⟨[],[],[],[],[],4⟩ true .p)) .p)) λ_=>by kernel_rfl
def c_295:Con te:=aj_ te [.d (.st 5),.p .str] [qB] false (qu2 mR_)
theorem ok_295:OKF 295 c_295:=aA af_ Tryz.func295 (by kernel_rfl) .p λ_=>by kernel_rfl
def c_234:Con te:=aj_ te [.d (.st 6),.d .str] [qJ] false (qu2 iY_)
theorem ok_234:OKF 234 c_234:=aA (ac_ ok_295 (ac_ ok_294 af_)) Tryz.func234 (by kernel_rfl) .p λ_=>by kernel_rfl
theorem e_356(a:PA te [.d .str]):of_ a.1=evFun Tryz.prog te eqL (ti 343 (inlF Tryz.prog te eqL tnil Tryz.f343 (.p:Pl)) (ti 368 (inlF Tryz.prog te eqL (ti 365 jy_ tnil) Tryz.f368 (.p:Pl)) (ti 342 (inlF Tryz.prog te eqL (ti 365 jy_ tnil) Tryz.f342 (.p:Pl)) (ti 344 qZ_ tnil)))) Tryz.f356 [.d .str] [(.str,[])] (qp 4 (.s (.lp ⟨[],[(1,true,.cells 323 [.sbp 1,.own 443]),(443,false,.row 5 (.int .u8) [])],[0,3],[],[],444⟩ ⟨[],[(1,true,.cells 323 [.sbp 1,.own 443]),(443,false,.row 5 (.int .u8) [])],[0,3],[],[],444⟩ false .p) (.s .p (.s (.s .p (.lp ⟨[(5,.d qI)],[(1,true,.cells 323 [.sbp 1,.own 450]),(450,false,.row 5 (.int .u8) [])],[3,4],[],[],451⟩ ⟨[],[(1,true,.cells 323 [.sbp 1,.own 450]),(450,false,.row 5 (.int .u8) [])],[3],[],[],451⟩ false .p)) .p)))) a:=by kernel_rfl
def c_356:Con te:=aj_ te [.d .str] [(.str,[])] false λa=>of_ a.1
theorem ok_356:OKF 356 c_356:=⟨ad_ ah_ (ti_ok ⟨s6_ ah_ af_ Tryz.func343,by kernel_rfl⟩ (ti_ok ⟨s6_ ah_ (ti_ok om_ af_) Tryz.func368,by kernel_rfl⟩ (ti_ok ⟨s6_ ah_ (ti_ok om_ af_) Tryz.func342,by kernel_rfl⟩ (ti_ok yv_ af_)))) Tryz.func356 (by kernel_rfl) e_356,by kernel_rfl⟩
def c_373:Con te:=aj_ te [.d .str] [(qU,[])] false λa=>oY_ a.1
theorem ok_373:OKF 373 c_373:=aA af_ Tryz.func373 (by kernel_rfl) (.s .p (.s (qd 19) .p)) λ_=>by kernel_rfl
def c_374:Con te:=aj_ te [.d qU,.d qI] [(qU,[])] false (qu2 m7_)
theorem ok_374:OKF 374 c_374:=aA af_ Tryz.func374 (by kernel_rfl) .p λ_=>by kernel_rfl
def c_370:Con te:=aj_ te [.d qU,.d qI] [(qU,[])] false (qu2 bz_)
theorem ok_370:OKF 370 c_370:=aA (ac_ ok_374 af_) Tryz.func370 (by kernel_rfl) .p λ_=>by kernel_rfl
def c_369:Con te:=aj_ te [.d .str] [(.st 14,[])] false λa=>jf_ a.1
theorem ok_369:OKF 369 c_369:=aA (ac_ ok_370 (ac_ ok_373 af_)) Tryz.func369 (by kernel_rfl) (qp 2 (.s (.s .p (.lp ⟨[(9,.d qI)],[(2,true,.box 353 (.st 14))],[0,2,3],[0],[],5⟩ ⟨[],[(2,true,.box 353 (.st 14))],[2,3],[0],[],5⟩ false (qp 2 (.j ⟨[],[(2,true,.box 353 (.st 14))],[0,2,3,9],[0],[],6⟩ false (qp 2 (.s (qd 10) (qp 2 (.dr [0,0,0,0,0,0,0,0,0,0,0,0,0,0,0,2] [] false [])))) .p)))) .p)) λ_=>by kernel_rfl
def c_357:Con te:=aj_ te [.d (.st 13),.d .str] [(.st 13,[])] false (qu2 qR_)
theorem ok_357:OKF 357 c_357:=aA (ac_ ok_370 (ac_ ok_369 af_)) Tryz.func357 (by kernel_rfl) (qp 3 (.s (.s .p (.lp ⟨[(20,.d qI)],[(11,true,.box 337 (.st 13))],[2,4,5,6],[0,2,6],[],16⟩ ⟨[],[(11,true,.box 337 (.st 13))],[2,4,6],[0,2],[],16⟩ false (qp 2 (.s (.s .p (.s (qd 18) (.s (qd 29) .p))) .p)))) (.s (.s .p (.lp ⟨[(98,.d qI)],[(0,true,.box 337 (.st 13))],[2,4,6],[2,11],[],17⟩ ⟨[],[(0,true,.box 337 (.st 13))],[2,4],[2],[],17⟩ false (qp 2 (.s (.s .p (.dr [0,0,0,0,0,0,0,0,2] [] false [])) .p)))) .p))) λ_=>by kernel_rfl
def c_334:Con te:=aj_ te [.d .str] [(.str,[])] false λa=>qS_ a.1
theorem ok_334:OKF 334 c_334:=aA (ac_ ok_357 (ac_ ok_356 af_)) Tryz.func334 (by kernel_rfl) (qp 2 (.s (.s .p (.lp ⟨[(4,.d .str)],[(2,true,.box 337 (.st 13))],[3],[],[],9⟩ ⟨[],[(2,true,.box 337 (.st 13))],[3],[],[],9⟩ false (.s .p (.s (.dr [0,0,0,0,2] [] false []) .p)))) (.s .p (.s (.s .p (.lp ⟨[(5,.one (.own 14)),(21,.d qI)],[(14,false,.row 5 (.int .u8) [])],[20],[],[],15⟩ ⟨[(5,.one (.own 14))],[(14,false,.row 5 (.int .u8) [])],[],[],[],15⟩ false .p)) .p)))) λ_=>by kernel_rfl
def c_293:Con te:=aj_ te [.d qI,.d .str] [(.str,[])] false (qu2 nr_)
theorem ok_293:OKF 293 c_293:=aA (ac_ ok_334 af_) Tryz.func293 (by kernel_rfl) .p λ_=>by kernel_rfl
def c_233:Con te:=aj_ te [.d qI,.d .str] [(.st 5,[])] false (qu2 ku_)
theorem ok_233:OKF 233 c_233:=aA (ac_ ok_293 af_) Tryz.func233 (by kernel_rfl) .p λ_=>by kernel_rfl
def c_253:Con te:=aj_ te [.d (.st 6),.d .str,.d qI] [(.str,[]),qJ] false (qu3 oZ_)
theorem ok_253:OKF 253 c_253:=aA (ac_ ok_233 (ac_ ok_234 af_)) Tryz.func253 (by kernel_rfl) (qp 2 (.s (qp 4 (.s (qd 15) .p)) .p)) λ_=>by kernel_rfl
def c_186:Con te:=aj_ te [.bm 205 (.st 12) [none,none,some 9] false,.d .str,.d qI] [(.str,[]),qJ] true (qu3 cL_)
theorem ok_186:OKF 186 c_186:=aA (ac_ ok_253 af_) Tryz.func186 (by kernel_rfl) (qp 2 (.j ⟨[(9,.d qI)],[],[0,1,8],[0,1],[],16⟩ false .p .p)) λ_=>by kernel_rfl
def c_254:Con te:=aj_ te [.d .str,.d qI,.d qI] [qJ,qJ,qJ] false (qu3 mA_)
theorem ok_254:OKF 254 c_254:=aA af_ Tryz.func254 (by kernel_rfl) (qp 4 (.s (.s .p (.lp ⟨[(9,.d (.int .u64)),(10,.d qI)],[],[0,1,2],[],[],11018⟩ ⟨[(9,.d (.int .u64))],[],[1,2],[],[],11018⟩ false .p)) .p)) λ_=>by kernel_rfl
def c_187:Con te:=aj_ te [.b 209 (.st 15),.d qI] [qJ] false (qu2 aG_)
theorem ok_187:OKF 187 c_187:=aA (ac_ ok_254 af_) Tryz.func187 (by kernel_rfl) (.s .p (.s (qd 17) .p)) λ_=>by kernel_rfl
def c_307:Con te:=aj_ te [.d .str,.d qI] [(.str,[]),qJ,qJ] false (qu2 jg_)
theorem ok_307:OKF 307 c_307:=aA (ac_ ok_254 af_) Tryz.func307 (by kernel_rfl) .p λ_=>by kernel_rfl
def c_255:Con te:=aj_ te [.b 209 (.st 15)] [(.str,[])] false λa=>cm_ a.1
theorem ok_255:OKF 255 c_255:=aA (ac_ ok_307 af_) Tryz.func255 (by kernel_rfl) (.s .p (.s (qd 16) .p)) λ_=>by kernel_rfl
def c_256:Con te:=aj_ te [.b 209 (.st 15)] [(.str,[])] false λa=>ek_ a.1
theorem ok_256:OKF 256 c_256:=aA af_ Tryz.func256 (by kernel_rfl) (.s .p (.s (.s (qd 17) .p) (.s .p (.s (qd 15) .p)))) λ_=>by kernel_rfl
def c_188:Con te:=aj_ te [.b 209 (.st 15)] [(.st 16,[])] false λa=>dd_ a.1
theorem ok_188:OKF 188 c_188:=aA (ac_ ok_256 (ac_ ok_255 (ac_ ok_187 af_))) Tryz.func188 (by kernel_rfl) .p λ_=>by kernel_rfl
def c_230:Con te:=aj_ te [.d (.st 2)] [qB] false λa=>cH_ a.1
theorem ok_230:OKF 230 c_230:=aA af_ Tryz.func230 (by kernel_rfl) .p λ_=>by kernel_rfl
def c_333:Con te:=aj_ te [.d qI,.d qI] [qJ] false (qu2 eW_)
theorem ok_333:OKF 333 c_333:=aA af_ Tryz.func333 (by kernel_rfl) (qp 2 (.s (.s .p (.lp ⟨[(5,.d qI),(12,.d qI)],[],[11],[],[],9⟩ ⟨[(5,.d qI)],[],[],[],[],9⟩ false .p)) .p)) λ_=>by kernel_rfl
def c_291:Con te:=aj_ te [.d qI] [qJ] false λa=>fP_ a.1
theorem ok_291:OKF 291 c_291:=aA (ac_ ok_333 af_) Tryz.func291 (by kernel_rfl) (qp 2 (.s (.lp ⟨[(3,.d qI)],[],[0],[],[],2⟩ ⟨[(3,.d qI)],[],[],[],[],2⟩ false .p) .p)) λ_=>by kernel_rfl
def c_308:Con te:=aj_ te [.d (.st 10)] [qB] false λa=>jh_ a.1
theorem ok_308:OKF 308 c_308:=aA (ac_ ok_291 af_) Tryz.func308 (by kernel_rfl) (.s .p (.s (qd 23) .p)) λ_=>by kernel_rfl
def c_345:Con te:=aj_ te [.d (.st 18),.d qI,.d qI] [qJ] false (qu3 cy_)
theorem ok_345:OKF 345 c_345:=aA (ac_ ok_333 af_) Tryz.func345 (by kernel_rfl) .p λ_=>by kernel_rfl
def c_346:Con te:=aj_ te [.d qI] [qJ] false λa=>cI_ a.1
theorem ok_346:OKF 346 c_346:=aA af_ Tryz.func346 (by kernel_rfl) (qp 2 (.s (.s .p (.lp ⟨[(3,.d qI),(5,.d qI)],[],[4],[],[],4⟩ ⟨[(3,.d qI)],[],[],[],[],4⟩ false .p)) .p)) λ_=>by kernel_rfl
def cS_309(f:Xm->Zq->Str->Int->Int->Option (Str×Int×Xm)):Con te:=aj_ te [.bm 205 (.st 12) [none,none,some 9] false,.d (.st 18),.d .str,.d qI,.d qI] [(.str,[]),qJ] true (qu5 f)
theorem okS_309(f:Xm->Zq->Str->Int->Int->Option (Str×Int×Xm))(h:OKF 309 (cS_309 f)):OKF 309 (cS_309 (cz_ f)):=aA (ac_ ok_346 (ac_ ok_345 (ac_ ok_186 (ac_ h af_)))) Tryz.func309 (by kernel_rfl) (qp 2 (.j ⟨[(12,.d qI)],[],[0,2,3,4,6],[0,1,2],[],7⟩ false .p (qp 6 (.s (.s .p (.lp ⟨[(16,.d .str),(66,.d qI)],[(0,true,.cells 205 [.v qI,.v (.sl (.st 5)),.own 41]),(41,false,.row 9 .str [])],[0,3,4,6,13,65],[2],[],42⟩ ⟨[(16,.d .str)],[(0,true,.cells 205 [.v qI,.v (.sl (.st 5)),.own 41]),(41,false,.row 9 .str [])],[],[],[],42⟩ true (qp 2 (.j ⟨[(16,.d .str)],[(0,true,.cells 205 [.v qI,.v (.sl (.st 5)),.own 43]),(43,false,.row 9 .str [])],[0,3,4,6,13,65,66],[2],[],44⟩ true (qp 3 (.s (.s (qd 14) .p) (.s (.dr [0,0,0,0,0,0,0,0,0,0,0,0,2,4,4,4,4,4] [] false []) .p))) .p)))) .p)))) λ_=>by kernel_rfl
theorem okN_309:∀n,OKF 309 (cS_309 (b6_ n))
 | 0=>⟨h1_ λ_=>rfl,by kernel_rfl⟩
 | n+1=>okS_309 _ (okN_309 n)
def c_309:Con te:=cS_309 (b6_ BIG)
theorem ok_309:OKF 309 c_309:=okN_309 BIG
def c_257:Con te:=aj_ te [.bm 205 (.st 12) [none,none,some 9] false,.d (.st 10),.d qI] [(.str,[]),qJ] true (qu3 dF_)
theorem ok_257:OKF 257 c_257:=aA (ac_ ok_309 (ac_ ok_186 (ac_ ok_308 af_))) Tryz.func257 (by kernel_rfl) (qp 2 (.s (.s .p (.s (.s .p (.j ⟨[(9,.d qI)],[],[],[0,16],[],26⟩ false .p .p)) .p)) .p)) λ_=>by kernel_rfl
def c_258:Con te:=aj_ te [.d .str] [(.sl (.st 16),[some 184]),qB] false λa=>hf_ a.1
theorem ok_258:OKF 258 c_258:=aA (ac_ ok_188 af_) Tryz.func258 (by kernel_rfl) (qp 3 (.s (.lp ⟨[(5,.one (.own 8))],[(4,true,.box 209 (.st 15)),(8,false,.row 184 (.st 16) [])],[0,4],[],[],9⟩ ⟨[(5,.one (.own 8))],[(4,true,.box 209 (.st 15)),(8,false,.row 184 (.st 16) [])],[4],[],[],9⟩ false .p) (.s (qd 8) .p))) λ_=>by kernel_rfl
def c_310:Con te:=aj_ te [.d (.sl (.st 16)),.f1 (.st 16) .bool] [qJ] false (qu2 cd_)
theorem ok_310:OKF 310 c_310:=aA af_ Tryz.func310 (by kernel_rfl) (.s .p (.s (.s .p (.lp ⟨[(8,.d qI)],[],[0,1,7],[],[],4⟩ ⟨[],[],[],[],[],4⟩ true .p)) .p)) λ_=>by kernel_rfl
def c_259:Con te:=aj_ te [.d (.sl (.st 16)),.f1 (.st 16) .bool] [qB] false (qu2 aZ_)
theorem ok_259:OKF 259 c_259:=aA (ac_ ok_310 af_) Tryz.func259 (by kernel_rfl) .p λ_=>by kernel_rfl
def c_260:Con te:=aj_ te [.d (.st 16),.p (.st 16)] [qB] false (qu2 cD_)
theorem ok_260:OKF 260 c_260:=aA af_ Tryz.func260 (by kernel_rfl) .p λ_=>by kernel_rfl
def cS_189(f:Xu->Xm->Xs->Option (Int×Xu×Xm)):Con te:=aj_ te [.bm 213 (.st 17) [some 81] true,.bm 205 (.st 12) [none,none,some 9] false,.d (.st 16)] [qJ] true (qu3 f)
theorem okS_189(f:Xu->Xm->Xs->Option (Int×Xu×Xm))(h:OKF 189 (cS_189 f)):OKF 189 (cS_189 (bE_ f)):=aA (ac_ ok_260 (ac_ ok_259 (ac_ ok_258 (ac_ ok_257 (ac_ ok_230 (ac_ h af_)))))) Tryz.func189 (by kernel_rfl) (.s .p (.s (.s (qd 10) .p) (.s .p (.j ⟨[(5,.d qI)],[],[0,3],[0,1,2,3,4],[],18⟩ false .p (.s (.dr [0,0,0,0,0,0,0,2,4,4,4,4,4] [] false []) (.s .p (.s (.s .p (.s (.s .p (.s (.dr [4,0,0,0,0,0,0,1,2,4,4,2] [0,1,2,3,4,5,6] false []) .p)) .p)) (.s (.dr [4,0,0,0,0,0,0,1,2,4,4,2] [0,1,2,3,4,5,6] false []) (qp 2 (.s (.s .p (.lp ⟨[(83,.d qI)],[(0,true,.cells 213 [.ptr 2,.own 4072,.v qI]),(2,true,.cells 205 [.v qI,.v (.sl (.st 5)),.own 4071]),(4071,false,.row 9 .str []),(4072,false,.row 81 (.st 2) []),(58,true,.row 184 (.st 16) [])],[0,81,82],[],[],4073⟩ ⟨[],[(0,true,.cells 213 [.ptr 2,.own 4072,.v qI]),(2,true,.cells 205 [.v qI,.v (.sl (.st 5)),.own 4071]),(4071,false,.row 9 .str []),(4072,false,.row 81 (.st 2) [])],[],[],[],4073⟩ true .p)) .p)))))))))) λ_=>by kernel_rfl
theorem okN_189:∀n,OKF 189 (cS_189 (bq_ n))
 | 0=>⟨h1_ λ_=>rfl,by kernel_rfl⟩
 | n+1=>okS_189 _ (okN_189 n)
def c_189:Con te:=cS_189 (bq_ BIG)
theorem ok_189:OKF 189 c_189:=okN_189 BIG
def c_193:Con te:=aj_ te [.d qI] [qB] false λa=>ig_ a.1
theorem ok_193:OKF 193 c_193:=aA af_ Tryz.func193 (by kernel_rfl) (qp 2 (.s (.s .p (.j ⟨[(9,.d .bool)],[],[],[],[],7⟩ false .p .p)) .p)) λ_=>by kernel_rfl
def c_120:Con te:=aj_ te [.d (.st 2)] [qB] false λa=>kv_ a.1
theorem ok_120:OKF 120 c_120:=aA (ac_ ok_121 (ac_ ok_145 (ac_ ok_193 af_))) Tryz.func120 (by kernel_rfl) (.s .p (.s (.s (qd 30) .p) .p)) λ_=>by kernel_rfl
def c_122:Con te:=aj_ te [.d .str] [qB] false λa=>du_ a.1
theorem p3_:OKF 122 c_122:=aA af_ Tryz.func122 (by kernel_rfl) (.s .p (.s .p (.s (.s .p (.lp ⟨[(21,.d (.int .i64))],[],[0,20],[],[],10009⟩ ⟨[],[],[],[],[],10009⟩ true .p)) .p))) λ_=>by kernel_rfl
def c_47:Con te:=aj_ te [.d (.st 3)] [qB] false λa=>dv_ a.1
theorem ok_47:OKF 47 c_47:=⟨ad_ ah_ (ac_ p3_ (ac_ ok_121 (ac_ ok_120 af_))) Tryz.func47 (by kernel_rfl) (pl:=qp 3 (.s (.s .p (.lp ⟨[(27,.d qI)],[(9009,true,.map 155 qI qI),(9011,true,.map 156 (.st 19) qI)],[1,3,4,25,26],[0],[],9019⟩ ⟨[],[],[],[],[],9019⟩ true (qp 2 (.j ⟨[],[(9009,true,.map 155 qI qI),(9011,true,.map 156 (.st 19) qI)],[1,3,4,25,26,27],[0],[],9020⟩ true (.s .p (.s (.s (qd 26) .p) (.j ⟨[],[],[1,3,4,5,6,25,26,27],[0,9009,9011,9023],[],30033⟩ true .p (.j ⟨[],[(9011,true,.map 156 (.st 19) qI)],[1,3,4,6,25,26,27],[0,9009,9023],[],30033⟩ false (.s .p (.s (.ot 6 (.alt 6 (.free 7 (.alt 8 (.free 9 (.alt 10 .nil .nil)) .nil)) (.alt 8 (.free 9 (.alt 6 (.free 7 (.alt 10 .nil .nil)) .nil)) .nil))) .p)) .p)))) .p)))) .p)) λa=>(congrFun e_tree_Right a.1).symm.trans (by kernel_rfl),by kernel_rfl⟩
def c_117:Con te:=aj_ te [.bm 205 (.st 12) [none,none,some 9] false,.d .str] [(.st 3,[none,some 81]),qJ] true (qu2 ct_)
theorem ok_117:OKF 117 c_117:=aA (ac_ ok_47 (ac_ ok_189 (ac_ ok_188 (ac_ ok_187 (ac_ ok_186 (ti_ok ua_ af_)))))) Tryz.func117 (by kernel_rfl) .p λ_=>by kernel_rfl
theorem e_44(a:PA te [.d (.st 6),.d .str]):b0_ a.1 a.2.1=evFun Tryz.prog te eqL (ti 116 (inlF Tryz.prog te eqL tnil Tryz.f116 (.p:Pl)) (tb 117 c_117 tnil)) Tryz.f44 [.d (.st 6),.d .str] [(.st 3,[none,some 81]),qJ] (.p:Pl) a:=by kernel_rfl
def c_44:Con te:=aj_ te [.d (.st 6),.d .str] [(.st 3,[none,some 81]),qJ] false (qu2 b0_)
theorem ok_44:OKF 44 c_44:=⟨ad_ ah_ (ti_ok ⟨s6_ ah_ af_ Tryz.func116,by kernel_rfl⟩ (ac_ ok_117 af_)) Tryz.func44 (by kernel_rfl) e_44,by kernel_rfl⟩
def c_61:Con te:=aj_ te [.d (.st 8),.d qI] [(.st 11,[]),qB] true (qu2 cn_)
theorem ok_61:OKF 61 c_61:=aA (ac_ kU_ (ac_ ok_44 af_)) Tryz.func61 (by kernel_rfl) (qp 5 (.j ⟨[],[(10022,true,.cells 96 [.v (.sl (.st 0)),.v (.sl (.st 1)),.v qI,.v (.sl (.st 2)),.v (.sl qI),.v qI,.v qI])],[4,7,8],[2],[],10026⟩ true (.s .p (.s (.s (.df [0,0,0,0,0,0,0,0,0,1,4,4,4,1,2,4] [] 4) .p) .p)) .p)) λ_=>by kernel_rfl
def c_53:Con te:=aj_ te [.d (.st 8),.d .str,.d qI] [(.st 11,[]),qJ] true (qu3 b9_)
theorem ok_53:OKF 53 c_53:=aA (ac_ ok_61 (ac_ ok_128 af_)) Tryz.func53 (by kernel_rfl) .p λ_=>by kernel_rfl
def c_161:Con te:=aj_ te [.d (.sl (.st 5))] [(.sl (.st 5),[some 83])] false λa=>bK_ a.1
theorem ok_161:OKF 161 c_161:=⟨ad_ ah_ af_ Tryz.func161 (by kernel_rfl) (pl := .p) λa=>(congrFun kf_ a.1).symm.trans (by kernel_rfl),by kernel_rfl⟩
def c_162:Con te:=aj_ te [.d (.sl (.st 7))] [(.sl (.st 7),[some 39])] false λa=>cP_ a.1
theorem ok_162:OKF 162 c_162:=⟨ad_ ah_ af_ Tryz.func162 (by kernel_rfl) (pl := .p) λa=>(congrFun lh_ a.1).symm.trans (by kernel_rfl),by kernel_rfl⟩
def c_96:Con te:=aj_ te [.d (.st 8)] [(.st 8,[some 79,some 120,none,some 81,some 3,none,some 83,some 39])] true λa=>au_ a.1
theorem ok_96:OKF 96 c_96:=aA (ac_ ok_162 (ac_ ok_161 (ac_ ok_50 af_))) Tryz.func96 (by kernel_rfl) (.s .p (.s (.dr [0,0,1,0,0,0,0,0,0,1,4,0,0,1,4,2] [3,6,11,4,7,12,5,8] false []) .p)) λ_=>by kernel_rfl
def c_173:Con te:=aj_ te [.d (.st 4)] [(.st 4,[some 79,some 120,none,some 81,some 3])] true λa=>cZ_ a.1
theorem p4_:OKF 173 c_173:=aA (ac_ ok_127 (ac_ ok_77 (ac_ ok_126 (ac_ ok_80 (ac_ ok_76 af_))))) Tryz.func173 (by kernel_rfl) (.s .p (.s .p (.s (.s .p (.lp ⟨[(11,.d (.int .i64))],[(6,true,.row 79 (.st 0) [])],[1,2,3,10],[0,2],[],12⟩ ⟨[],[(6,true,.row 79 (.st 0) [])],[1,2,3],[0,2],[],12⟩ false .p)) (.s (.df [0,0,0,0,0,0,1,4,1,2] [] 2) (.s (.dr [0,0,0,1,0,0,0,1,4,2] [4,5,6] false []) .p))))) λ_=>by kernel_rfl
def c_240:Con te:=aj_ te [.d qI] [qB] false λa=>eA_ a.1
theorem ok_240:OKF 240 c_240:=aA af_ Tryz.func240 (by kernel_rfl) .p λ_=>by kernel_rfl
def c_183:Con te:=aj_ te [.d qI,.d qI] [qB] false (qu2 jK_)
theorem ok_183:OKF 183 c_183:=aA af_ Tryz.func183 (by kernel_rfl) .p λ_=>by kernel_rfl
def c_113:Con te:=aj_ te [.d qI] [qJ,qJ] false λa=>d9_ a.1
theorem ok_113:OKF 113 c_113:=aA (ac_ ok_183 af_) Tryz.func113 (by kernel_rfl) (qp 2 (.j ⟨[(4,.d qI)],[],[0],[],[],4⟩ false .p (.j ⟨[(4,.d qI)],[],[0],[],[],4⟩ false .p (qp 2 (.j ⟨[(5,.d qI)],[],[],[],[],3014⟩ false .p .p))))) λ_=>by kernel_rfl
def c_298:Con te:=aj_ te [.d (.sl (.st 1)),.d .str] [(.st 1,[]),qB] false (qu2 qT_)
theorem ok_298:OKF 298 c_298:=aA af_ Tryz.func298 (by kernel_rfl) (.s .p (.s (.s .p (.lp ⟨[(10,.d qI)],[],[1,4,8,9],[0],[],6⟩ ⟨[],[],[4],[0],[],6⟩ true .p)) .p)) λ_=>by kernel_rfl
def c_299:Con te:=aj_ te [.d (.st 3),.d .str] [qJ,qJ] false (qu2 ns_)
theorem ok_299:OKF 299 c_299:=aA af_ Tryz.func299 (by kernel_rfl) (qp 2 (.s (.s .p (.lp ⟨[(6,.d qI),(7,.d qI),(13,.d qI)],[],[1,11,12],[],[],10⟩ ⟨[(6,.d qI),(7,.d qI)],[],[],[],[],10⟩ false (qp 2 (.j ⟨[(6,.d qI),(7,.d qI)],[],[1,11,12,13],[],[],11⟩ false .p .p)))) .p)) λ_=>by kernel_rfl
def c_241:Con te:=aj_ te [.d (.sl (.st 1)),.d (.st 3),.d .str,.d qI,.d qI] [qB] false (qu5 kx_)
theorem ok_241:OKF 241 c_241:=aA (ac_ ok_299 (ac_ ok_298 af_)) Tryz.func241 (by kernel_rfl) .p λ_=>by kernel_rfl
def c_174:Con te:=aj_ te [.d (.st 4),.d .str,.d (.st 2),.d .str,.d qI,.d qI] [qJ] false (qu6 jj_)
theorem ok_174:OKF 174 c_174:=aA (ac_ ok_241 (ac_ ok_131 (ac_ ok_130 (ac_ gL_ (ac_ ok_113 (ac_ ok_240 (ac_ p3_ af_))))))) Tryz.func174 (by kernel_rfl) .p λ_=>by kernel_rfl
def c_175:Con te:=aj_ te [.d qI,.d qI] [qJ] false (qu2 fQ_)
theorem ok_175:OKF 175 c_175:=aA (ac_ ok_183 af_) Tryz.func175 (by kernel_rfl) (qp 3 (.j ⟨[(5,.d qI)],[],[0,1],[],[],3005⟩ false .p .p)) λ_=>by kernel_rfl
def c_242:Con te:=aj_ te [.d (.st 3)] [(.st 3,[none,some 81])] false λa=>aH_ a.1
theorem p5_:OKF 242 c_242:=aA af_ Tryz.func242 (by kernel_rfl) .p λ_=>by kernel_rfl
def c_243:Con te:=aj_ te [.l (.st 3) [none,some 81],.d qI,.d .str,.d qI] [] false (qu4 dl_)
theorem ok_243:OKF 243 c_243:=aA (ac_ ok_144 (ac_ ok_145 af_)) Tryz.func243 (by kernel_rfl) (qp 3 (.j ⟨[],[(0,true,.row 81 (.st 2) [(6,8)])],[2,3,8],[],[6],18⟩ false .p .p)) λ_=>by kernel_rfl
def c_176:Con te:=aj_ te [.d (.st 3),.d qI,.d .str,.d qI,.d .str,.d .str,.d qI] [(.st 3,[none,some 81]),qJ,qJ] false (qu7 l2_)
theorem ok_176:OKF 176 c_176:=aA (ac_ ok_144 (ac_ ok_145 (ac_ ok_243 (ac_ p2_ (ac_ ok_195 (ac_ ok_193 (ac_ p3_ (ac_ p5_ (ac_ ok_142 af_))))))))) Tryz.func176 (by kernel_rfl) (qp 4 (.s (.dr [0,0,0,0,0,0,2] [] false []) (.s .p (.s (.dr [0,0,0,0,0,0,0,0,0,0,0,0,0,0,0,0,1,2,4,2] [] false []) (.s .p (.s (.dr [0,0,0,1,4,4] [] true [2]) .p)))))) λ_=>by kernel_rfl
def c_263:Con te:=aj_ te [.d qI] [qB] false λa=>cmp_isNaN_int a.1
theorem ok_263:OKF 263 c_263:=aA af_ Tryz.func263 (by kernel_rfl) .p λ_=>by kernel_rfl
def c_300:Con te:=aj_ te [.d qI,.d qI] [qB] false (qu2 cmp_Less_int)
theorem ok_300:OKF 300 c_300:=aA (ac_ ok_263 af_) Tryz.func300 (by kernel_rfl) .p λ_=>by kernel_rfl
def c_301:Con te:=aj_ te [.d qI] [qB] false λa=>c5_ a.1
theorem ok_301:OKF 301 c_301:=aA af_ Tryz.func301 (by kernel_rfl) .p λ_=>by kernel_rfl
def c_244:Con te:=aj_ te [.d (.sl qI),.d qI] [qJ,qB] false (qu2 co_)
theorem ok_244:OKF 244 c_244:=aA (ac_ ok_301 (ac_ ok_300 af_)) Tryz.func244 (by kernel_rfl) (qp 3 (.s (.lp ⟨[(7,.d qI),(8,.d qI)],[],[0,1,6],[],[],8⟩ ⟨[(7,.d qI)],[],[0,1,6],[],[],8⟩ false .p) .p)) λ_=>by kernel_rfl
def c_177:Con te:=aj_ te [.d (.st 4),.d qI] [(.st 4,[])] true (qu2 hA_)
theorem ok_177:OKF 177 c_177:=aA (ac_ qY_ (ac_ ok_127 (ac_ ok_244 af_))) Tryz.func177 (by kernel_rfl) (.s .p (.j ⟨[],[(0,true,.cells 29 [.v (.sl (.st 0)),.v (.sl (.st 1)),.v qI,.v (.sl (.st 2)),.v (.sl qI)])],[2,4],[2],[],4⟩ false .p .p)) λ_=>by kernel_rfl
def c_109:Con te:=aj_ te [.d (.st 4),.d .str,.d qI,.d .str,.d qI,.d qI,.d qI] [(.st 4,[]),qJ,qJ] true (qu7 ih_)
theorem ok_109:OKF 109 c_109:=aA (ac_ ok_177 (ac_ gL_ (ac_ ok_176 (ac_ ok_79 (ac_ ok_175 (ac_ ok_174 (ac_ ok_129 (ac_ p4_ af_)))))))) Tryz.func109 (by kernel_rfl) (qp 3 (.j ⟨[(19,.d qI)],[],[1,2,3,4,6,14,17,18],[2,7,8,9,10,12,23],[],28⟩ false .p (qp 2 (.s (.df [0,0,0,0,0,0,0,0,0,0,1,4,4,4,4,1,2,4,4] [] 5) (qp 2 (.j ⟨[],[(12,true,.cells 29 [.v (.sl (.st 0)),.v (.sl (.st 1)),.v qI,.v (.sl (.st 2)),.v (.sl qI)])],[14,17,22],[2],[],67⟩ false .p .p)))))) λ_=>by kernel_rfl
def c_110:Con te:=aj_ te [.d (.st 8),.d (.st 4)] [(.st 8,[none,none,none,none,none,none,some 83,some 39])] true (qu2 c0_)
theorem p6_:OKF 110 c_110:=aA (ac_ ok_96 af_) Tryz.func110 (by kernel_rfl) .p λ_=>by kernel_rfl
def c_41:Con te:=aj_ te [.d (.st 8),.d .str,.d qI,.d .str,.d qI,.d qI,.d qI] [(.st 8,[none,none,none,none,none,none,some 83,some 39]),qJ,qJ] true (qu7 fk_)
theorem ok_41:OKF 41 c_41:=aA (ac_ p6_ (ac_ ok_109 (ac_ ok_96 (ac_ ok_53 af_)))) Tryz.func41 (by kernel_rfl) .p λ_=>by kernel_rfl
def c_62:Con te:=aj_ te [.d (.st 11)] [qB] false λa=>dQ_ a.1
theorem ok_62:OKF 62 c_62:=aA (ac_ kU_ af_) Tryz.func62 (by kernel_rfl) .p λ_=>by kernel_rfl
def c_179:Con te:=aj_ te [.d (.st 4),.d (.st 2),.d qI] [qB] false (qu3 gH_)
theorem ok_179:OKF 179 c_179:=aA (ac_ ok_241 af_) Tryz.func179 (by kernel_rfl) .p λ_=>by kernel_rfl
def c_197:Con te:=aj_ te [.d (.st 3),.d qI] [qJ,qJ] false (qu2 j5_)
theorem ok_197:OKF 197 c_197:=aA (ac_ ok_121 (ac_ p2_ af_)) Tryz.func197 (by kernel_rfl) .p λ_=>by kernel_rfl
def c_246:Con te:=aj_ te [.d qI] [qB] false λa=>og_ a.1
theorem ok_246:OKF 246 c_246:=aA af_ Tryz.func246 (by kernel_rfl) .p λ_=>by kernel_rfl
def c_247:Con te:=aj_ te [.d .str,.d qI] [(.str,[])] false (qu2 oh_)
theorem ok_247:OKF 247 c_247:=aA (ac_ pY_ af_) Tryz.func247 (by kernel_rfl) .p λ_=>by kernel_rfl
def c_180:Con te:=aj_ te [.d (.st 3),.d qI,.d qI,.d .str,.d .str,.d qI] [(.st 3,[none,some 81]),qJ,qJ] false (qu6 nt_)
theorem ok_180:OKF 180 c_180:=aA (ac_ ok_243 (ac_ ok_247 (ac_ ok_246 (ac_ p5_ (ac_ ok_197 af_))))) Tryz.func180 (by kernel_rfl) (qp 6 (.j ⟨[(2,.d qI)],[],[3,4,5,6,12,15,17],[0,2],[],27⟩ false .p (qp 2 (.s (.dr [0,0,0,0,0,0,0,0,0,0,0,0,0,0,0,0,0,0,0,0,2] [] false []) .p)))) λ_=>by kernel_rfl
def c_111:Con te:=aj_ te [.d (.st 4),.d .str,.d qI,.d qI,.d .str,.d qI] [(.st 4,[some 79,some 120,none,some 81,some 3]),qJ,qJ] true (qu6 jk_)
theorem ok_111:OKF 111 c_111:=aA (ac_ ok_180 (ac_ ok_79 (ac_ ok_179 (ac_ gL_ (ac_ ok_178 (ac_ p4_ af_)))))) Tryz.func111 (by kernel_rfl) (qp 4 (.j ⟨[(3,.d qI)],[],[1,2,4,5,6,12,15,16],[0,2,7,8,9,10,12,23],[],41⟩ false .p (qp 2 (.s (.df [0,0,0,0,0,0,0,0,1,4,4,4,4,1,2,4,4] [] 5) .p)))) λ_=>by kernel_rfl
def c_42:Con te:=aj_ te [.d (.st 8),.d .str,.d qI,.d qI,.d .str,.d qI] [(.st 8,[none,none,none,none,none,none,some 83,some 39]),qJ,qJ] true (qu6 fR_)
theorem ok_42:OKF 42 c_42:=aA (ac_ p6_ (ac_ ok_111 (ac_ ok_62 (ac_ ok_96 (ac_ ok_53 af_))))) Tryz.func42 (by kernel_rfl) .p λ_=>by kernel_rfl
def c_163:Con te:=aj_ te [.d (.st 6)] [(.st 6,[none,some 83])] false λa=>gT_ a.1
theorem ok_163:OKF 163 c_163:=aA (ac_ ok_161 af_) Tryz.func163 (by kernel_rfl) .p λ_=>by kernel_rfl
def c_71:Con te:=aj_ te [.d (.st 3),.d qI] [(.sl qI,[some 3])] false (qu2 gI_)
theorem ok_71:OKF 71 c_71:=aA (ac_ ok_142 af_) Tryz.func71 (by kernel_rfl) (qp 3 (.s (.s .p (.lp ⟨[(5,.one (.own 12)),(15,.d qI)],[(12,false,.row 3 qI [])],[1,13,14],[],[],13⟩ ⟨[(5,.one (.own 12))],[(12,false,.row 3 qI [])],[],[],[],13⟩ false (qp 2 (.j ⟨[(5,.one (.own 14))],[(14,false,.row 3 qI [])],[1,13,14,15],[],[],15⟩ false .p .p)))) .p)) λ_=>by kernel_rfl
def c_165:Con te:=aj_ te [.d qI,.d qI] [(.str,[]),qJ] false (qu2 gd_)
theorem ok_165:OKF 165 c_165:=aA af_ Tryz.func165 (by kernel_rfl) (qp 4 (.s (.s .p (.lp ⟨[(31,.d qI)],[(13009,true,.row 5 (.int .u8) [])],[0,6,30],[],[],13015⟩ ⟨[],[(13009,true,.row 5 (.int .u8) [])],[6],[],[],13015⟩ false .p)) .p)) λ_=>by kernel_rfl
def c_235:Con te:=aj_ te [.d qI,.d qI,.b 9 .str] [] false (qu3 bQ_)
theorem ok_235:OKF 235 c_235:=aA (ac_ ok_165 af_) Tryz.func235 (by kernel_rfl) .p λ_=>by kernel_rfl
def c_236:Con te:=aj_ te [.d .str] [(.str,[]),qJ] false λa=>gJ_ a.1
theorem ok_236:OKF 236 c_236:=aA (ac_ ok_165 af_) Tryz.func236 (by kernel_rfl) .p λ_=>by kernel_rfl
def c_167:Con te:=aj_ te [.d (.st 16)] [(.str,[])] false λa=>fS_ a.1
theorem ok_167:OKF 167 c_167:=aA (ac_ ok_236 (ac_ ok_235 af_)) Tryz.func167 (by kernel_rfl) (qp 4 (.s (.s .p (.lp ⟨[(25,.d qI)],[(3,true,.box 9 .str),(23,true,.row 3 qI [])],[1,3,4,5,23,24],[0,11],[],27⟩ ⟨[],[(3,true,.box 9 .str)],[1,3,4,5],[0,11],[],27⟩ false .p)) (qp 2 (.s (.s .p (.lp ⟨[(51,.d qI)],[(3,true,.box 9 .str),(47,true,.row 9 .str [])],[1,3,4,49,50],[0],[],51⟩ ⟨[],[(3,true,.box 9 .str)],[1,3,4],[0],[],51⟩ false .p)) .p)))) λ_=>by kernel_rfl
def c_292:Con te:=aj_ te [.d .str,.d qI] [(.sl .str,[some 9])] false (qu2 fT_)
theorem ok_292:OKF 292 c_292:=aA af_ Tryz.func292 (by kernel_rfl) (qp 2 (.s (.lp ⟨[(0,.d .str),(5,.one (.own 4))],[(4,false,.row 9 .str [])],[1],[],[],5⟩ ⟨[(0,.d .str),(5,.one (.own 4))],[(4,false,.row 9 .str [])],[],[],[],5⟩ false .p) .p)) λ_=>by kernel_rfl
def c_232:Con te:=aj_ te [.d (.st 6)] [(.st 6,[none,some 83])] false λa=>tz_ a.1
theorem ok_232:OKF 232 c_232:=aA (ac_ ok_161 af_) Tryz.func232 (by kernel_rfl) .p λ_=>by kernel_rfl
def c_119:Con te:=aj_ te [.d qI] [qB] false λa=>l3_ a.1
theorem ok_119:OKF 119 c_119:=aA af_ Tryz.func119 (by kernel_rfl) .p λ_=>by kernel_rfl
def c_166:Con te:=aj_ te [.d (.st 6),.d qI,.d .str] [(.st 6,[none,some 83]),(.str,[]),qJ] false (qu3 mB_)
theorem ok_166:OKF 166 c_166:=aA (ac_ ok_234 (ac_ ok_233 (ac_ ok_119 (ac_ ok_232 af_)))) Tryz.func166 (by kernel_rfl) (qp 4 (.s (qp 2 (.s (.s (.s (qd 7) .p) (.s (.dr [0,0,0,1,4,4] [] true [2]) .p)) .p)) (qp 2 (.s (.dr [0,0,0,1,4,4] [] true [2]) .p)))) λ_=>by kernel_rfl
def c_231:Con te:=aj_ te [.d (.st 6),.d qI,.d .str] [(.st 6,[]),(.st 10,[]),qJ] true (qu3 gU_)
theorem ok_231:OKF 231 c_231:=aA (ac_ ok_166 (ac_ ok_292 (ac_ ok_291 af_))) Tryz.func231 (by kernel_rfl) (qp 3 (.lp ⟨[(1,.d qI),(10,.one (.own 21))],[(0,true,.box 32 (.st 6)),(13,true,.box 137 (.st 10)),(21,false,.row 9 .str [])],[3,6,7,9],[2,4],[],22⟩ ⟨[],[],[],[],[],21⟩ true (.s .p (.s (.s .p (.lp ⟨[(11,.d .str),(27,.d qI)],[(0,true,.cells 32 [.v qI,.v (.sl (.st 5))]),(13,true,.box 137 (.st 10)),(21,true,.row 9 .str [])],[1,3,6,7,9,10,25,26],[2,4],[],26⟩ ⟨[(11,.d .str)],[(0,true,.box 32 (.st 6)),(13,true,.box 137 (.st 10)),(21,true,.row 9 .str [])],[3,6,7,9,10],[2,4],[],26⟩ true .p)) (.s (.s .p (.s (.s (.dr [0,0,1,1,4] [] true [2,4]) .p) .p)) .p))))) λ_=>by kernel_rfl
def cS_164(f:Xx->Xv->Int->Option (Xx×Xs×Int)):Con te:=aj_ te [.d (.st 6),.d (.st 3),.d qI] [(.st 6,[]),(.st 16,[]),qJ] true (qu3 f)
theorem okS_164(f:Xx->Xv->Int->Option (Xx×Xs×Int))(h:OKF 164 (cS_164 f)):OKF 164 (cS_164 (fF_ f)):=aA (ac_ ok_231 (ac_ ok_167 (ac_ ok_71 (ac_ ok_230 (ac_ kU_ (ac_ h af_)))))) Tryz.func164 (by kernel_rfl) (qp 2 (.s (qd 4) (.s .p (.j ⟨[(11,.d qI),(12,.d .str)],[(0,true,.box 32 (.st 6))],[3,6,7,9],[4,6,15],[],27⟩ true (.s .p (.s (qp 2 (.lp ⟨[(12,.d .str),(36,.d qI)],[(0,true,.box 32 (.st 6)),(33,true,.row 3 qI [])],[3,4,6,7,9,11,34,35],[2,4,6,15],[],37⟩ ⟨[(12,.d .str)],[(0,true,.box 32 (.st 6))],[3,6,7,9,11],[4,6,15],[],37⟩ true .p)) .p)) (.s .p (.s (.dr [0,0,0,0,0,1,1,4] [] true [4,6]) .p)))))) λ_=>by kernel_rfl
theorem okN_164:∀n,OKF 164 (cS_164 (dw_ n))
 | 0=>⟨h1_ λ_=>rfl,by kernel_rfl⟩
 | n+1=>okS_164 _ (okN_164 n)
def c_164:Con te:=cS_164 (dw_ BIG)
theorem ok_164:OKF 164 c_164:=okN_164 BIG
def c_97:Con te:=aj_ te [.d (.st 6),.d (.st 3)] [(.st 6,[none,some 83]),(.str,[]),qJ] false (qu2 hg_)
theorem ok_97:OKF 97 c_97:=aA (ac_ ok_166 (ac_ ok_167 (ac_ ok_165 (ac_ ok_164 (ac_ ok_163 (ac_ ok_47 af_)))))) Tryz.func97 (by kernel_rfl) (qp 6 (.s (.dr [0,0,0,0,0,0,0,1,4,4,4,4,2,4,4] [] false []) .p)) λ_=>by kernel_rfl
def c_36:Con te:=aj_ te [.d (.st 8),.d qI] [(.st 8,[some 79,some 120,none,some 81,some 3,none,some 83,some 39]),qJ] true (qu2 cp_)
theorem ok_36:OKF 36 c_36:=aA (ac_ ok_97 (ac_ ok_96 af_)) Tryz.func36 (by kernel_rfl) .p λ_=>by kernel_rfl
def c_55:Con te:=aj_ te [.d qI] [qJ] false λa=>oi_ a.1
theorem ok_55:OKF 55 c_55:=aA af_ Tryz.func55 (by kernel_rfl) .p λ_=>by kernel_rfl
def c_132:Con te:=aj_ te [.d qI] [qB] false λa=>num_known a.1
theorem ok_132:OKF 132 c_132:=aA af_ Tryz.func132 (by kernel_rfl) .p λ_=>by kernel_rfl
def c_56:Con te:=aj_ te [.d qI,.d qI] [(.str,[])] false (qu2 num_Text)
theorem ok_56:OKF 56 c_56:=aA (ac_ ol_ (ac_ ok_132 af_)) Tryz.func56 (by kernel_rfl) .p λ_=>by kernel_rfl
def c_22:Con te:=aj_ te [.d (.st 8),.d .str,.d qI,.d .str] [qJ,qJ] false (qu4 ro_)
theorem ok_22:OKF 22 c_22:=aA (ac_ ok_56 (ac_ ok_55 (ac_ ok_54 (ac_ ok_53 af_)))) Tryz.func22 (by kernel_rfl) (qp 7 (.s (.s .p (.lp ⟨[(75,.d qI)],[],[2,3,73,74],[],[],6033⟩ ⟨[],[],[],[],[],6033⟩ true .p)) .p)) λ_=>by kernel_rfl
def c_136:Con te:=aj_ te [.d (.st 3),.d qI,.d qI,.d qI] [(.str,[]),qJ] false (qu4 tree_Read)
theorem ok_136:OKF 136 c_136:=aA (ac_ ok_197 af_) Tryz.func136 (by kernel_rfl) .p λ_=>by kernel_rfl
def c_63:Con te:=aj_ te [.d (.st 4),.d qI,.d qI,.d qI] [(.str,[]),qJ] false (qu4 sb_)
theorem ok_63:OKF 63 c_63:=aA (ac_ ok_136 af_) Tryz.func63 (by kernel_rfl) .p λ_=>by kernel_rfl
def c_24:Con te:=aj_ te [.d (.st 8),.d qI,.d qI,.d qI] [(.str,[]),qJ] false (qu4 rp_)
theorem ok_24:OKF 24 c_24:=aA (ac_ ok_63 (ac_ ok_62 (ac_ ok_61 af_))) Tryz.func24 (by kernel_rfl) .p λ_=>by kernel_rfl
def c_205:Con te:=aj_ te [.d (.st 4),.d .str,.d (.st 2)] [qB] false (qu3 e8_)
theorem ok_205:OKF 205 c_205:=aA (ac_ ok_130 (ac_ kU_ af_)) Tryz.func205 (by kernel_rfl) .p λ_=>by kernel_rfl
def c_305:Con te:=aj_ te [.d (.sl qI),.d qI] [qJ] false (qu2 g6_)
theorem ok_305:OKF 305 c_305:=aA af_ Tryz.func305 (by kernel_rfl) (.s .p (.s (.s .p (.lp ⟨[(8,.d qI)],[],[0,1,7],[],[],4⟩ ⟨[],[],[],[],[],4⟩ true .p)) .p)) λ_=>by kernel_rfl
def c_248:Con te:=aj_ te [.d (.sl qI),.d qI] [qB] false (qu2 d1_)
theorem ok_248:OKF 248 c_248:=aA (ac_ ok_305 af_) Tryz.func248 (by kernel_rfl) .p λ_=>by kernel_rfl
def c_181:Con te:=aj_ te [.d (.st 4),.d .str,.d (.st 2),.d qI] [qJ] false (qu4 jl_)
theorem ok_181:OKF 181 c_181:=aA (ac_ ok_248 (ac_ ok_205 (ac_ ok_130 (ac_ gL_ (ac_ ok_113 af_))))) Tryz.func181 (by kernel_rfl) .p λ_=>by kernel_rfl
def c_182:Con te:=aj_ te [.d (.st 3),.d qI,.d qI,.d .str,.d qI] [(.st 3,[none,some 81]),qJ] false (qu5 iZ_)
theorem ok_182:OKF 182 c_182:=aA (ac_ ok_243 (ac_ ok_247 (ac_ p5_ (ac_ ok_197 af_)))) Tryz.func182 (by kernel_rfl) (qp 4 (.s (.dr [0,0,0,0,0,0,0,0,0,0,0,0,0,2] [] false []) .p)) λ_=>by kernel_rfl
def c_112:Con te:=aj_ te [.d (.st 4),.d .str,.d qI,.d qI,.d qI] [(.st 4,[]),qJ] true (qu5 ky_)
theorem ok_112:OKF 112 c_112:=aA (ac_ ok_177 (ac_ ok_182 (ac_ ok_79 (ac_ gL_ (ac_ ok_181 (ac_ ok_178 (ac_ p4_ af_))))))) Tryz.func112 (by kernel_rfl) (qp 5 (.j ⟨[],[(11,true,.cells 29 [.own 6,.own 7,.v qI,.own 37,.own 9]),(6,true,.row 79 (.st 0) []),(7,true,.row 120 (.st 1) []),(37,false,.row 81 (.st 2) []),(9,true,.row 3 qI [])],[2,10,12,13],[2,22],[],38⟩ false (.s .p (.s (.dr [0,0,0,0,0,0,1,4,4,4,4,2] [] false []) .p)) (.j ⟨[],[(11,true,.cells 29 [.v (.sl (.st 0)),.v (.sl (.st 1)),.v qI,.v (.sl (.st 2)),.v (.sl qI)])],[10,12],[2],[],38⟩ false .p .p))) λ_=>by kernel_rfl
def c_43:Con te:=aj_ te [.d (.st 8),.d .str,.d qI,.d qI,.d qI] [(.st 8,[none,none,none,none,none,none,some 83,some 39]),qJ] true (qu5 gK_)
theorem ok_43:OKF 43 c_43:=aA (ac_ ok_115 (ac_ kU_ (ac_ ok_62 (ac_ ok_113 (ac_ p6_ (ac_ ok_112 (ac_ ok_96 (ac_ ok_53 af_)))))))) Tryz.func43 (by kernel_rfl) .p λ_=>by kernel_rfl
theorem okS_12(q:(List Xc)->(List Yq)->Str->Int->Option (Xj×Int))(f20:Xj->Int->Option Xw)(j:Xw->Str->Int->Str->Int->Int->Int->Option (Xw×Int×Int))(h:Xw->Str->Int->Int->Str->Int->Option (Xw×Int×Int))(m:Xw->Int->Option (Xw×Int))(f22:Xw->Str->Int->Str->Option (Int×Int))(f24:Xw->Int->Int->Int->Option (Str×Int))(f:Xw->Str->Int->Int->Int->Option (Xw×Int))(C:OKF 31 (aj_ te [.d (.sl (.st 0)),.d (.sl (.st 1)),.d .str,.d qI] [(.st 4,[some 79,some 120,none,some 81]),qJ] true λa=>q a.1 a.2.1 a.2.2.1 a.2.2.2.1))(G:OKF 20 (aj_ te [.d (.st 4),.d qI] [(.st 8,[])] true λa=>f20 a.1 a.2.1))(x:OKF 41 (aj_ te [.d (.st 8),.d .str,.d qI,.d .str,.d qI,.d qI,.d qI] [(.st 8,[none,none,none,none,none,none,some 83,some 39]),qJ,qJ] true λa=>j a.1 a.2.1 a.2.2.1 a.2.2.2.1 a.2.2.2.2.1 a.2.2.2.2.2.1 a.2.2.2.2.2.2.1))(u:OKF 42 (aj_ te [.d (.st 8),.d .str,.d qI,.d qI,.d .str,.d qI] [(.st 8,[none,none,none,none,none,none,some 83,some 39]),qJ,qJ] true λa=>h a.1 a.2.1 a.2.2.1 a.2.2.2.1 a.2.2.2.2.1 a.2.2.2.2.2.1))(y:OKF 36 (aj_ te [.d (.st 8),.d qI] [(.st 8,[some 79,some 120,none,some 81,some 3,none,some 83,some 39]),qJ] true λa=>m a.1 a.2.1))(F:OKF 22 (aj_ te [.d (.st 8),.d .str,.d qI,.d .str] [qJ,qJ] false λa=>f22 a.1 a.2.1 a.2.2.1 a.2.2.2.1))(D:OKF 24 (aj_ te [.d (.st 8),.d qI,.d qI,.d qI] [(.str,[]),qJ] false λa=>f24 a.1 a.2.1 a.2.2.1 a.2.2.2.1))(s:OKF 43 (aj_ te [.d (.st 8),.d .str,.d qI,.d qI,.d qI] [(.st 8,[none,none,none,none,none,none,some 83,some 39]),qJ] true λa=>f a.1 a.2.1 a.2.2.1 a.2.2.2.1 a.2.2.2.2.1)):OKF 12 (aj_ te [] [qB] false λ_=>rq_ q f20 j h m f22 f24 f):=aA (ac_ s (ac_ D (ac_ F (ac_ y (ac_ u (ac_ x (ac_ G (ac_ C af_)))))))) Tryz.func12 (by kernel_rfl) .p λ_=>by kernel_rfl
def c_12:Con te:=aj_ te [] [qB] false λ_=>l4_
theorem ok_12:OKF 12 c_12:=okS_12 _ _ _ _ _ _ _ _ ok_31 ok_20 ok_41 ok_42 ok_36 ok_22 ok_24 ok_43
def c_17:Con te:=aj_ te [.d (.st 3),.d (.st 3)] [qB] false (qu2 ij_)
theorem ok_17:OKF 17 c_17:=aA af_ Tryz.func17 (by kernel_rfl) (qp 2 (.s (.s .p (.lp ⟨[(23,.d qI)],[],[2,3,22],[0,2],[],8015⟩ ⟨[],[],[],[],[],8015⟩ true (qp 2 (.s (.s .p (.s (qd 11) .p)) .p)))) .p)) λ_=>by kernel_rfl
def c_45:Con te:=aj_ te [.d (.st 4)] [qB] false λa=>jm_ a.1
theorem ok_45:OKF 45 c_45:=aA (ac_ gL_ (ac_ kU_ (ac_ ok_47 (ac_ ok_74 (ac_ ok_73 af_))))) Tryz.func45 (by kernel_rfl) (qp 3 (.s (.s .p (.lp ⟨[(3,.d qI),(27,.d qI)],[],[1,25,26],[0],[],10014⟩ ⟨[],[],[],[],[],10014⟩ true .p)) .p)) λ_=>by kernel_rfl
def c_46:Con te:=aj_ te [.d (.st 6)] [qB] false λa=>l5_ a.1
theorem ok_46:OKF 46 c_46:=aA (ac_ ok_119 af_) Tryz.func46 (by kernel_rfl) (qp 3 (.s (.s .p (.lp ⟨[(26,.d qI)],[(11008,true,.map 154 .str qI)],[3,24,25],[],[],11015⟩ ⟨[],[],[],[],[],11015⟩ true .p)) .p)) λ_=>by kernel_rfl
def c_18:Con te:=aj_ te [.d (.st 8)] [qB] false λa=>ik_ a.1
theorem ok_18:OKF 18 c_18:=aA (ac_ ok_47 (ac_ ok_44 (ac_ ok_46 (ac_ ok_45 af_)))) Tryz.func18 (by kernel_rfl) (qp 3 (.s (.s .p (.lp ⟨[(3,.d qI),(27,.d qI)],[],[1,25,26],[0],[],10014⟩ ⟨[],[],[],[],[],10014⟩ true .p)) .p)) λ_=>by kernel_rfl
def c_194:Con te:=aj_ te [.d (.sl .str),.d (.sl .str)] [qB] false (qu2 hh_)
theorem ok_194:OKF 194 c_194:=aA af_ Tryz.func194 (by kernel_rfl) (qp 2 (.s (.s .p (.lp ⟨[(13,.d qI)],[],[0,1,12],[],[],9⟩ ⟨[],[],[],[],[],9⟩ true (qp 2 (.s (.s .p (.s (qd 9) .p)) .p)))) .p)) λ_=>by kernel_rfl
def c_123:Con te:=aj_ te [.d (.sl (.st 0)),.d (.sl (.st 0))] [qB] false (qu2 hj_)
theorem ok_123:OKF 123 c_123:=aA (ac_ ok_194 af_) Tryz.func123 (by kernel_rfl) (qp 2 (.s (.s .p (.lp ⟨[(13,.d qI)],[],[0,1,12],[],[],9⟩ ⟨[],[],[],[],[],9⟩ true (qp 2 (.s (.s .p (.s (qd 38) .p)) .p)))) .p)) λ_=>by kernel_rfl
def c_124:Con te:=aj_ te [.d (.sl (.st 1)),.d (.sl (.st 1))] [qB] false (qu2 gp_)
theorem ok_124:OKF 124 c_124:=aA af_ Tryz.func124 (by kernel_rfl) (qp 2 (.s (.s .p (.lp ⟨[(13,.d qI)],[],[0,1,12],[],[],9⟩ ⟨[],[],[],[],[],9⟩ true (qp 2 (.s (.s .p (.s (qd 9) .p)) .p)))) .p)) λ_=>by kernel_rfl
def c_125:Con te:=aj_ te [.d (.sl qI),.d (.sl qI)] [qB] false (qu2 il_)
theorem ok_125:OKF 125 c_125:=aA af_ Tryz.func125 (by kernel_rfl) (qp 2 (.s (.s .p (.lp ⟨[(13,.d qI)],[],[0,1,12],[],[],9⟩ ⟨[],[],[],[],[],9⟩ true (qp 2 (.s (.s .p (.s (qd 9) .p)) .p)))) .p)) λ_=>by kernel_rfl
def c_48:Con te:=aj_ te [.d (.st 4),.d (.st 4)] [qB] false (qu2 nu_)
theorem ok_48:OKF 48 c_48:=aA (ac_ ok_125 (ac_ ok_17 (ac_ ok_124 (ac_ ok_123 af_)))) Tryz.func48 (by kernel_rfl) .p λ_=>by kernel_rfl
def c_49:Con te:=aj_ te [.d (.st 6),.d (.st 6)] [qB] false (qu2 kz_)
theorem ok_49:OKF 49 c_49:=aA af_ Tryz.func49 (by kernel_rfl) (qp 2 (.s (.s .p (.lp ⟨[(23,.d qI)],[],[2,3,22],[0,2],[],8015⟩ ⟨[],[],[],[],[],8015⟩ true (qp 2 (.s (.s .p (.s (qd 11) .p)) .p)))) .p)) λ_=>by kernel_rfl
def c_19:Con te:=aj_ te [.d (.st 8),.d (.st 8)] [qB] false (qu2 kA_)
theorem ok_19:OKF 19 c_19:=aA (ac_ ok_49 (ac_ ok_48 af_)) Tryz.func19 (by kernel_rfl) (qp 2 (.s (.s .p (.lp ⟨[(32,.d qI)],[],[2,3,31],[0,2],[],15017⟩ ⟨[],[],[],[],[],15017⟩ true (qp 2 (.s (.s .p (.s (qd 11) .p)) .p)))) .p)) λ_=>by kernel_rfl
def c_60:Con te:=aj_ te [.d (.st 8),.d qI] [(.st 4,[])] true (qu2 cE_)
theorem ok_60:OKF 60 c_60:=aA (ac_ ok_39 af_) Tryz.func60 (by kernel_rfl) (qp 2 (.s (.df [0,0,0,0,0,0,0,0,0,1,4,4,4,1,2,4] [] 4) .p)) λ_=>by kernel_rfl
def c_64:Con te:=aj_ te [.d (.st 8),.d qI] [qB] false (qu2 cU_)
theorem ok_64:OKF 64 c_64:=aA (ac_ d3_ (ac_ ok_60 af_)) Tryz.func64 (by kernel_rfl) .p λ_=>by kernel_rfl
def c_57:Con te:=aj_ te [.d (.st 8),.d .str,.d qI] [qJ] false (qu3 dm_)
theorem ok_57:OKF 57 c_57:=aA (ac_ ok_64 (ac_ ok_83 af_)) Tryz.func57 (by kernel_rfl) .p λ_=>by kernel_rfl
def c_215:Con te:=aj_ te [.d qI,.d qI] [qB] false (qu2 ge_)
theorem ok_215:OKF 215 c_215:=aA af_ Tryz.func215 (by kernel_rfl) .p λ_=>by kernel_rfl
def c_281:Con te:=aj_ te [.d (.sl (.st 0)),.d .str] [(.st 0,[]),qB] true (qu2 kB_)
theorem ok_281:OKF 281 c_281:=aA (ac_ ok_203 af_) Tryz.func281 (by kernel_rfl) .p λ_=>by kernel_rfl
def c_216:Con te:=aj_ te [.d (.sl (.st 0)),.d .str,.d .str] [qB] false (qu3 fV_)
theorem ok_216:OKF 216 c_216:=aA (ac_ ok_281 af_) Tryz.func216 (by kernel_rfl) (qp 3 (.s (.s .p (.lp ⟨[(22,.d qI)],[],[1,7,21],[10],[],19⟩ ⟨[],[],[],[],[],19⟩ true .p)) .p)) λ_=>by kernel_rfl
def c_154:Con te:=aj_ te [.d (.sl (.st 0)),.d .str,.d .str,.d .str,.d qI,.d qI] [qB] false (qu6 hE_)
theorem ok_154:OKF 154 c_154:=aA (ac_ ok_216 (ac_ ok_215 af_)) Tryz.func154 (by kernel_rfl) (qp 2 (.s (.s .p (.lp ⟨[(13,.d qI)],[],[0,1,2,3,4,5],[],[],6006⟩ ⟨[],[],[],[],[],6006⟩ true .p)) .p)) λ_=>by kernel_rfl
def c_134:Con te:=aj_ te [.d (.st 4),.d .str,.d qI,.d qI] [qB] false (qu4 eM_)
theorem ok_134:OKF 134 c_134:=aA (ac_ ok_154 (ac_ d3_ af_)) Tryz.func134 (by kernel_rfl) .p λ_=>by kernel_rfl
def c_135:Con te:=aj_ te [.d (.st 3),.d qI,.d .str] [qJ,qJ] false (qu3 gq_)
theorem ok_135:OKF 135 c_135:=aA (ac_ mC_ (ac_ d3_ af_)) Tryz.func135 (by kernel_rfl) (qp 5 (.s (.s .p (.lp ⟨[(10,.d qI)],[],[1,2,3],[0],[],24⟩ ⟨[],[],[],[],[],24⟩ true .p)) .p)) λ_=>by kernel_rfl
def c_137:Con te:=aj_ te [.d qI,.d qI] [qB] false (qu2 eb_)
theorem ok_137:OKF 137 c_137:=aA af_ Tryz.func137 (by kernel_rfl) .p λ_=>by kernel_rfl
def c_65:Con te:=aj_ te [.d (.st 8),.d qI] [qB] false (qu2 el_)
theorem ok_65:OKF 65 c_65:=aA (ac_ ok_137 (ac_ d3_ (ac_ ok_60 af_))) Tryz.func65 (by kernel_rfl) .p λ_=>by kernel_rfl
def c_72:Con te:=aj_ te [.d (.st 3),.d qI] [(.sl qI,[some 3])] false (qu2 fW_)
theorem ok_72:OKF 72 c_72:=aA af_ Tryz.func72 (by kernel_rfl) (qp 2 (.s (.s .p (.lp ⟨[(5,.one (.own 5)),(6,.d qI)],[(5,false,.row 3 qI [])],[1,2],[0],[],6⟩ ⟨[(5,.one (.own 5))],[(5,false,.row 3 qI [])],[],[],[],6⟩ false (.s .p (.j ⟨[(5,.one (.own 11))],[(11,false,.row 3 qI [])],[1,2,6],[0],[],12⟩ false .p .p)))) .p)) λ_=>by kernel_rfl
def c_85:Con te:=aj_ te [.d qI] [qJ] false λa=>hF_ a.1
theorem ok_85:OKF 85 c_85:=aA af_ Tryz.func85 (by kernel_rfl) .p λ_=>by kernel_rfl
def c_147:Con te:=aj_ te [.d .str] [(.str,[])] false λa=>eN_ a.1
theorem ok_147:OKF 147 c_147:=aA af_ Tryz.func147 (by kernel_rfl) .p λ_=>by kernel_rfl
def c_148:Con te:=aj_ te [.d qI] [qJ] false λa=>nv_ a.1
theorem ok_148:OKF 148 c_148:=aA af_ Tryz.func148 (by kernel_rfl) .p λ_=>by kernel_rfl
def c_33:Con te:=aj_ te [.d (.st 22)] [qB] false λa=>tA_ a.1
theorem ok_33:OKF 33 c_33:=aA af_ Tryz.func33 (by kernel_rfl) .p λ_=>by kernel_rfl
def c_204:Con te:=aj_ te [.d (.st 4),.d qI] [(.st 4,[])] true (qu2 eS_)
theorem ok_204:OKF 204 c_204:=aA (ac_ qX_ (ac_ ok_127 (ac_ ok_244 af_))) Tryz.func204 (by kernel_rfl) (.s .p (.j ⟨[],[(0,true,.cells 29 [.v (.sl (.st 0)),.v (.sl (.st 1)),.v qI,.v (.sl (.st 2)),.v (.sl qI)])],[2,4],[2],[],4⟩ false .p .p)) λ_=>by kernel_rfl
def c_206:Con te:=aj_ te [.d (.st 3),.d qI,.d .str,.d qI] [(.st 3,[none,some 81]),qJ] false (qu4 l6_)
theorem ok_206:OKF 206 c_206:=aA (ac_ ok_243 (ac_ ok_71 (ac_ p5_ (ac_ p2_ af_)))) Tryz.func206 (by kernel_rfl) (qp 4 (.s (.dr [0,0,0,0,0,0,0,0,0,0,0,2] [] false []) (.s (.dr [0,0,0,0,0,0,0,0,0,2,4,2] [] false []) .p))) λ_=>by kernel_rfl
def c_150:Con te:=aj_ te [.d (.st 4),.d .str,.d qI,.d qI] [(.st 4,[]),qJ] true (qu4 fX_)
theorem ok_150:OKF 150 c_150:=aA (ac_ ok_204 (ac_ ok_206 (ac_ ok_79 (ac_ ok_205 (ac_ ok_178 (ac_ p4_ af_)))))) Tryz.func150 (by kernel_rfl) (qp 5 (.s (.df [0,0,0,0,0,0,1,4,4,4,1,2,4] [] 4) .p)) λ_=>by kernel_rfl
def c_149:Con te:=aj_ te [.d (.st 4),.d .str,.d qI,.d qI,.d qI] [(.st 4,[])] true (qu5 jp_)
theorem ok_149:OKF 149 c_149:=aA (ac_ ok_150 (ac_ gL_ (ac_ ok_204 (ac_ p4_ af_)))) Tryz.func149 (by kernel_rfl) (qp 2 (.j ⟨[],[],[10,11],[2,16],[],20⟩ true .p .p)) λ_=>by kernel_rfl
def c_86:Con te:=aj_ te [.d (.st 8),.d .str,.d qI,.d qI,.d qI] [(.st 8,[none,none,none,none,none,none,some 83,some 39])] true (qu5 im_)
theorem ok_86:OKF 86 c_86:=aA (ac_ p6_ (ac_ ok_149 (ac_ ok_96 (ac_ ok_61 af_)))) Tryz.func86 (by kernel_rfl) (qp 3 (.s (.dr [0,0,0,0,0,0,0,0,1,1,2] [] false []) .p)) λ_=>by kernel_rfl
def c_87:Con te:=aj_ te [.d (.st 8),.d .str,.d qI,.d qI] [(.st 8,[none,none,none,none,none,none,some 83,some 39]),qJ] true (qu4 hk_)
theorem ok_87:OKF 87 c_87:=aA (ac_ p6_ (ac_ ok_150 (ac_ ok_96 (ac_ ok_53 af_)))) Tryz.func87 (by kernel_rfl) (qp 2 (.j ⟨[(11,.d qI)],[],[1,3,4,8,10],[0,2,12],[],17⟩ false .p .p)) λ_=>by kernel_rfl
def c_325:Con te:=aj_ te [.d (.st 21)] [(.sl (.st 23),[some 313])] false λa=>oj_ a.1
theorem ok_325:OKF 325 c_325:=aA af_ Tryz.func325 (by kernel_rfl) .p λ_=>by kernel_rfl
def c_326:Con te:=aj_ te [.d qI,.d qI] [qB] false (qu2 i0_)
theorem ok_326:OKF 326 c_326:=aA af_ Tryz.func326 (by kernel_rfl) .p λ_=>by kernel_rfl
def c_270:Con te:=aj_ te [.d (.st 21)] [qJ] false λa=>nw_ a.1
theorem ok_270:OKF 270 c_270:=aA (ac_ p3_ (ac_ ok_326 (ac_ ok_325 af_))) Tryz.func270 (by kernel_rfl) (.s .p (.s (.s .p (.lp ⟨[(8,.d qI)],[(4,true,.row 313 (.st 23) [])],[1,6,7],[0],[],8⟩ ⟨[],[],[1],[0],[],8⟩ true .p)) .p)) λ_=>by kernel_rfl
def c_271:Con te:=aj_ te [] [(.st 21,[])] false λ_=>stat_None
theorem ok_271:OKF 271 c_271:=aA af_ Tryz.func271 (by kernel_rfl) .p λ_=>by kernel_rfl
def c_272:Con te:=aj_ te [.d (.st 4),.d .str,.d (.st 2),.d .str] [qJ] false (qu4 hl_)
theorem ok_272:OKF 272 c_272:=aA (ac_ ok_131 (ac_ ok_205 (ac_ p3_ af_))) Tryz.func272 (by kernel_rfl) .p λ_=>by kernel_rfl
def c_209:Con te:=aj_ te [.d (.st 2)] [qJ] false λa=>fY_ a.1
theorem ok_209:OKF 209 c_209:=aA (ac_ gL_ af_) Tryz.func209 (by kernel_rfl) .p λ_=>by kernel_rfl
def c_273:Con te:=aj_ te [.d (.st 4),.d .str,.d (.st 2),.d qI] [qJ] false (qu4 hm_)
theorem ok_273:OKF 273 c_273:=aA (ac_ ok_179 (ac_ ok_130 (ac_ gL_ (ac_ ok_209 af_)))) Tryz.func273 (by kernel_rfl) .p λ_=>by kernel_rfl
def c_274:Con te:=aj_ te [.d (.sl (.st 0)),.d .str,.d .str] [qB] false (qu3 in_)
theorem ok_274:OKF 274 c_274:=aA (ac_ ok_185 (ac_ ok_251 af_)) Tryz.func274 (by kernel_rfl) .p λ_=>by kernel_rfl
def c_275:Con te:=aj_ te [.d (.st 4),.d .str,.d (.st 2),.d .str] [qJ] false (qu4 gr_)
theorem ok_275:OKF 275 c_275:=aA (ac_ ok_274 (ac_ ok_185 af_)) Tryz.func275 (by kernel_rfl) .p λ_=>by kernel_rfl
def c_207:Con te:=aj_ te [.d (.st 4),.d .str,.d (.st 2),.d (.st 21)] [qJ] false (qu4 hn_)
theorem ok_207:OKF 207 c_207:=aA (ac_ ok_275 (ac_ ok_240 (ac_ gL_ (ac_ ok_274 (ac_ ok_273 (ac_ ok_272 (ac_ ok_271 (ac_ ok_270 af_)))))))) Tryz.func207 (by kernel_rfl) (qp 7 (.j ⟨[],[],[1,4,6,7,13],[0,2,4],[],33051⟩ true (.s .p (.s (qp 2 (.s (qd 8) .p)) .p)) .p)) λ_=>by kernel_rfl
def c_208:Con te:=aj_ te [.d (.st 3),.d qI,.d .str,.d .str,.d qI] [(.st 3,[none,some 81]),qJ] false (qu5 l7_)
theorem ok_208:OKF 208 c_208:=aA (ac_ ok_243 (ac_ ok_195 (ac_ p3_ (ac_ p5_ (ac_ p2_ af_))))) Tryz.func208 (by kernel_rfl) (qp 2 (.s (qp 8 (.s (qd 11) .p)) (qp 2 (.s (.dr [0,0,0,0,0,0,0,0,0,0,0,2] [] false []) .p)))) λ_=>by kernel_rfl
def c_210:Con te:=aj_ te [.d (.st 3),.d qI,.d qI,.d .str,.d qI] [(.st 3,[none,some 81]),qJ] false (qu5 nx_)
theorem ok_210:OKF 210 c_210:=aA (ac_ ok_144 (ac_ ok_145 (ac_ ok_121 (ac_ ok_193 (ac_ p5_ (ac_ p2_ af_)))))) Tryz.func210 (by kernel_rfl) (qp 2 (.s (qp 2 (.s (qd 20) .p)) (qp 2 (.j ⟨[],[(21021,true,.row 81 (.st 2) [(21030,14)])],[3,4,10,13,14],[2,21023],[21030],21033⟩ false .p (.j ⟨[],[(21021,true,.row 81 (.st 2) [(21030,14)])],[4,10,13,14],[2,21023],[21030],21033⟩ false .p (.j ⟨[],[(21021,true,.row 81 (.st 2) [])],[10,13],[2,21023],[],21033⟩ false .p .p)))))) λ_=>by kernel_rfl
def c_151:Con te:=aj_ te [.d (.st 4),.d .str,.d qI,.d (.st 21),.d qI] [(.st 4,[]),qJ] true (qu5 jq_)
theorem ok_151:OKF 151 c_151:=aA (ac_ ok_204 (ac_ gL_ (ac_ ok_210 (ac_ ok_182 (ac_ ok_209 (ac_ ok_208 (ac_ ok_79 (ac_ ok_207 (ac_ ok_178 (ac_ p4_ af_)))))))))) Tryz.func151 (by kernel_rfl) (qp 3 (.j ⟨[(14,.d qI)],[],[1,2,4,8,10,12,13],[2,4,8,9,10,11,13,24],[],29⟩ false .p (.s .p (.j ⟨[],[(13,true,.cells 29 [.own 8,.own 9,.v qI,.own 31,.own 11]),(8,true,.row 79 (.st 0) []),(9,true,.row 120 (.st 1) []),(31,false,.row 81 (.st 2) []),(11,true,.row 3 qI [])],[1,2,4,8,10,12,13],[2,4,24],[],32⟩ false (.s .p (.s (.dr [0,0,0,0,0,0,0,0,1,4,4,4,4,2] [] false []) .p)) (.j ⟨[],[(13,true,.cells 29 [.own 8,.own 9,.v qI,.own 32,.own 11]),(8,true,.row 79 (.st 0) []),(9,true,.row 120 (.st 1) []),(32,false,.row 81 (.st 2) []),(11,true,.row 3 qI [])],[2,8,10,12,13],[2,4,24],[],33⟩ false (.s (qd 10) (.s (.dr [0,0,0,0,0,0,0,0,1,4,4,4,4,2] [] false []) .p)) (.s .p (.j ⟨[(15,.d .str)],[],[2,8,10,12],[2,4,8,9,11,13,32],[],36⟩ false .p (.j ⟨[],[(13,true,.cells 29 [.own 8,.own 9,.v qI,.own 36,.own 11]),(8,true,.row 79 (.st 0) []),(9,true,.row 120 (.st 1) []),(36,false,.row 81 (.st 2) []),(11,true,.row 3 qI [])],[2,8,10,12],[2,4],[],37⟩ false .p (.j ⟨[],[(13,true,.cells 29 [.v (.sl (.st 0)),.v (.sl (.st 1)),.v qI,.v (.sl (.st 2)),.v (.sl qI)])],[10,12],[4],[],37⟩ false .p .p))))))))) λ_=>by kernel_rfl
def c_88:Con te:=aj_ te [.d (.st 8),.d .str,.d qI,.d (.st 21),.d qI] [(.st 8,[none,none,none,none,none,none,some 83,some 39]),qJ] true (qu5 io_)
theorem ok_88:OKF 88 c_88:=aA (ac_ p6_ (ac_ ok_151 (ac_ ok_96 (ac_ ok_53 af_)))) Tryz.func88 (by kernel_rfl) (qp 2 (.j ⟨[(13,.d qI)],[],[1,4,5,8,10,12],[0,2,4,14],[],19⟩ false .p .p)) λ_=>by kernel_rfl
def c_34:Con te:=aj_ te [.d (.st 8),.d (.st 22)] [(.st 8,[]),qJ,qJ] true (qu2 o0_)
theorem ok_34:OKF 34 c_34:=aA (ac_ ok_36 (ac_ ok_88 (ac_ ok_87 (ac_ ok_86 (ac_ ok_42 (ac_ ok_41 (ac_ ok_43 af_))))))) Tryz.func34 (by kernel_rfl) (qp 2 (.j ⟨[(7,.d qI),(8,.d qI)],[(0,true,.cells 35 [.v (.sl (.st 0)),.v (.sl (.st 1)),.v qI,.v (.sl (.st 2)),.v (.sl qI),.v qI,.v (.sl (.st 5)),.v (.sl (.st 7))])],[2,4],[4],[],10⟩ false .p .p)) λ_=>by kernel_rfl
def c_214:Con te:=aj_ te [.d qI] [qJ,qB,qB] false λa=>kE_ a.1
theorem ok_214:OKF 214 c_214:=aA af_ Tryz.func214 (by kernel_rfl) (.s .p (.s (.s .p (.lp ⟨[(5,.d qI)],[],[0],[],[],4⟩ ⟨[],[],[],[],[],4⟩ true .p)) .p)) λ_=>by kernel_rfl
def c_153:Con te:=aj_ te [.d qI] [qJ,qJ] false λa=>gs_ a.1
theorem ok_153:OKF 153 c_153:=aA (ac_ ok_214 af_) Tryz.func153 (by kernel_rfl) (qp 4 (.j ⟨[(7,.d qI)],[],[4,5],[],[],5016⟩ false .p (.j ⟨[(7,.d qI)],[],[4,5],[],[],5016⟩ false .p (.j ⟨[(7,.d qI)],[],[5],[],[],5016⟩ false .p (.j ⟨[(7,.d qI)],[],[],[],[],5016⟩ false .p .p))))) λ_=>by kernel_rfl
def c_276:Con te:=aj_ te [.d (.sl qI),.d qI] [qB] false (qu2 qU_)
theorem ok_276:OKF 276 c_276:=aA af_ Tryz.func276 (by kernel_rfl) (.s .p (.s (.s .p (.lp ⟨[(8,.d qI)],[],[0,1,7],[],[],4⟩ ⟨[],[],[],[],[],4⟩ true .p)) .p)) λ_=>by kernel_rfl
def c_211:Con te:=aj_ te [.d (.st 4),.d .str,.d qI,.d qI] [qJ] false (qu4 l8_)
theorem ok_211:OKF 211 c_211:=aA (ac_ ok_276 (ac_ ok_134 (ac_ kT_ (ac_ ok_153 (ac_ ok_83 (ac_ d3_ af_)))))) Tryz.func211 (by kernel_rfl) .p λ_=>by kernel_rfl
def c_277:Con te:=aj_ te [.d (.st 3),.d qI] [(.st 2,[]),qJ] false (qu2 kF_)
theorem ok_277:OKF 277 c_277:=aA (ac_ mC_ (ac_ d3_ af_)) Tryz.func277 (by kernel_rfl) .p λ_=>by kernel_rfl
def c_278:Con te:=aj_ te [.d qI] [(.str,[])] false λa=>i1_ a.1
theorem ok_278:OKF 278 c_278:=aA af_ Tryz.func278 (by kernel_rfl) .p λ_=>by kernel_rfl
def c_280:Con te:=aj_ te [.d (.st 2),.d .str,.d qI] [(.st 2,[])] false (qu3 fa_)
theorem ok_280:OKF 280 c_280:=aA (ac_ ok_147 (ac_ ok_148 af_)) Tryz.func280 (by kernel_rfl) .p λ_=>by kernel_rfl
def c_279:Con te:=aj_ te [.d (.st 3),.d (.st 2)] [(.st 3,[none,some 81])] false (qu2 fm_)
theorem ok_279:OKF 279 c_279:=aA af_ Tryz.func279 (by kernel_rfl) (qp 2 (.s (.s .p (.lp ⟨[(6,.d qI)],[(9,true,.cells 26 [.v qI,.own 14]),(14,false,.row 81 (.st 2) [])],[2,3,4,5],[0,2,4],[],15⟩ ⟨[],[(9,true,.cells 26 [.v qI,.own 14]),(14,false,.row 81 (.st 2) [])],[4,5],[4],[],15⟩ false (.s .p (.j ⟨[],[(9,true,.cells 26 [.v qI,.own 20]),(20,false,.row 81 (.st 2) [])],[2,3,4,5,6],[0,2,4],[],21⟩ false (.s (qd 9) (.s .p (.dr [0,0,0,0,0,0,0,1,2,4,2] [] false []))) .p)))) .p)) λ_=>by kernel_rfl
def c_212:Con te:=aj_ te [.d (.st 3),.d qI,.d qI,.d .str,.d qI] [(.st 3,[]),qJ] true (qu5 hG_)
theorem ok_212:OKF 212 c_212:=aA (ac_ ok_279 (ac_ ok_280 (ac_ ok_278 (ac_ ok_277 af_)))) Tryz.func212 (by kernel_rfl) (qp 6 (.s (.dr [0,0,0,0,0,0,0,0,0,0,0,0,0,0,0,0,2] [] false []) (.s (.dr [0,0,0,0,0,1,2,4] [] false []) .p))) λ_=>by kernel_rfl
def c_213:Con te:=aj_ te [.d (.sl qI),.d qI] [(.sl qI,[some 3])] false (qu2 kG_)
theorem ok_213:OKF 213 c_213:=aA af_ Tryz.func213 (by kernel_rfl) (qp 3 (.s (.s .p (.lp ⟨[(5,.one (.own 6)),(6,.d .bool),(10,.d qI)],[(6,false,.row 3 qI [])],[0,1,9],[],[],7⟩ ⟨[(5,.one (.own 6)),(6,.d .bool)],[(6,false,.row 3 qI [])],[1],[],[],7⟩ false (qp 2 (.j ⟨[(5,.one (.own 8)),(6,.d .bool)],[(8,false,.row 3 qI [])],[0,1,9,10],[],[],9⟩ false (.s .p (.j ⟨[(5,.one (.own 10)),(6,.d .bool)],[(10,false,.row 3 qI [])],[0,1,7,9,10],[],[],11⟩ false .p .p)) .p)))) (.j ⟨[(5,.one (.own 7))],[(7,false,.row 3 qI [])],[],[],[],8⟩ false .p .p))) λ_=>by kernel_rfl
def c_152:Con te:=aj_ te [.d (.st 4),.d .str,.d qI,.d qI,.d qI] [(.st 4,[]),qJ] true (qu5 ny_)
theorem ok_152:OKF 152 c_152:=aA (ac_ ok_213 (ac_ ok_212 (ac_ ok_85 (ac_ kT_ (ac_ d3_ (ac_ ok_211 af_)))))) Tryz.func152 (by kernel_rfl) (qp 3 (.j ⟨[],[(0,true,.box 29 (.st 4))],[2,5,10,13],[2,20],[],25⟩ false (.s .p (.s (.dr [0,0,0,0,0,0,1,4,4,4,4,2] [] false []) .p)) (.j ⟨[],[(0,true,.cells 29 [.v (.sl (.st 0)),.v (.sl (.st 1)),.v qI,.v (.sl (.st 2)),.v (.sl qI)])],[5,10],[2],[],25⟩ false .p .p))) λ_=>by kernel_rfl
def c_89:Con te:=aj_ te [.d (.st 8),.d .str,.d qI,.d qI,.d qI] [(.st 8,[]),qJ] true (qu5 nz_)
theorem ok_89:OKF 89 c_89:=aA (ac_ ok_154 (ac_ d3_ (ac_ ok_60 (ac_ ok_137 (ac_ ok_65 (ac_ ok_153 (ac_ ok_152 (ac_ ok_57 af_)))))))) Tryz.func89 (by kernel_rfl) .p λ_=>by kernel_rfl
def c_282:Con te:=aj_ te [.d qI] [qB] false λa=>kH_ a.1
theorem ok_282:OKF 282 c_282:=aA (ac_ kT_ af_) Tryz.func282 (by kernel_rfl) .p λ_=>by kernel_rfl
def c_327:Con te:=aj_ te [.d (.sl (.st 1)),.d .str] [(.st 1,[]),qB] false (qu2 qV_)
theorem ok_327:OKF 327 c_327:=aA af_ Tryz.func327 (by kernel_rfl) (.s .p (.s (.s .p (.lp ⟨[(6,.d qI)],[],[0,1,4],[0],[],4⟩ ⟨[],[],[4],[0],[],4⟩ true .p)) .p)) λ_=>by kernel_rfl
def c_328:Con te:=aj_ te [.d (.st 3),.d .str] [qJ,qJ] false (qu2 nA_)
theorem ok_328:OKF 328 c_328:=aA af_ Tryz.func328 (by kernel_rfl) (qp 2 (.s (.s .p (.lp ⟨[(6,.d qI),(7,.d qI),(8,.d qI)],[],[1,2],[0],[],7⟩ ⟨[(6,.d qI),(7,.d qI)],[],[],[],[],7⟩ false (.s .p (.j ⟨[(6,.d qI),(7,.d qI)],[],[1,2,8],[0],[],12⟩ false .p .p)))) .p)) λ_=>by kernel_rfl
def c_283:Con te:=aj_ te [.d (.sl (.st 1)),.d (.st 3),.d .str,.d qI,.d qI] [qB] false (qu5 kI_)
theorem ok_283:OKF 283 c_283:=aA (ac_ ok_328 (ac_ ok_327 af_)) Tryz.func283 (by kernel_rfl) .p λ_=>by kernel_rfl
def c_217:Con te:=aj_ te [.d (.st 4),.d .str,.d qI,.d .str,.d qI,.d qI] [qJ] false (qu6 jr_)
theorem ok_217:OKF 217 c_217:=aA (ac_ ok_283 (ac_ ok_134 (ac_ ok_135 (ac_ ok_153 (ac_ ok_282 (ac_ p1_ (ac_ kT_ (ac_ ok_83 (ac_ d3_ af_))))))))) Tryz.func217 (by kernel_rfl) .p λ_=>by kernel_rfl
def c_218:Con te:=aj_ te [.d qI,.d qI] [qJ] false (qu2 es_)
theorem ok_218:OKF 218 c_218:=aA (ac_ ok_215 af_) Tryz.func218 (by kernel_rfl) (qp 3 (.s (.s .p (.lp ⟨[(5,.d qI),(6,.d qI)],[],[0,1],[],[],3007⟩ ⟨[(5,.d qI)],[],[],[],[],3007⟩ false (.s .p (.j ⟨[(5,.d qI)],[],[0,1,6],[],[],3009⟩ false .p .p)))) .p)) λ_=>by kernel_rfl
def c_284:Con te:=aj_ te [.d (.st 3),.d qI,.d .str,.d qI] [(.st 3,[none,some 81])] false (qu4 gV_)
theorem ok_284:OKF 284 c_284:=aA (ac_ ok_279 (ac_ ok_280 (ac_ d3_ af_))) Tryz.func284 (by kernel_rfl) (qp 2 (.s (.dr [0,0,0,0,0,1,2] [] false []) .p)) λ_=>by kernel_rfl
def c_219:Con te:=aj_ te [.d (.st 3),.d qI,.d .str,.d qI,.d .str,.d .str,.d qI] [(.st 3,[]),qJ,qJ] true (qu7 kJ_)
theorem ok_219:OKF 219 c_219:=aA (ac_ ok_284 (ac_ ok_148 (ac_ ok_147 (ac_ ok_135 (ac_ ok_172 (ac_ p1_ (ac_ mC_ (ac_ d3_ af_)))))))) Tryz.func219 (by kernel_rfl) (qp 8 (.s (.dr [0,0,0,0,0,0,0,0,0,0,0,0,0,0,0,0,1,2] [] false []) (qp 3 (.s (.dr [0,0,0,1,4,4] [] true [2]) .p)))) λ_=>by kernel_rfl
def c_155:Con te:=aj_ te [.d (.st 4),.d .str,.d qI,.d .str,.d qI,.d qI,.d qI] [(.st 4,[]),qJ,qJ] true (qu7 kK_)
theorem ok_155:OKF 155 c_155:=aA (ac_ ok_213 (ac_ kT_ (ac_ ok_219 (ac_ ok_85 (ac_ ok_218 (ac_ d3_ (ac_ ok_217 af_))))))) Tryz.func155 (by kernel_rfl) (qp 4 (.s (.df [0,0,0,0,0,0,0,0,0,0,1,4,4,4,4,1,2,4,4] [] 5) (qp 2 (.j ⟨[],[(0,true,.cells 29 [.v (.sl (.st 0)),.v (.sl (.st 1)),.v qI,.v (.sl (.st 2)),.v (.sl qI)])],[7,14,22],[2],[],60⟩ false .p .p)))) λ_=>by kernel_rfl
def c_90:Con te:=aj_ te [.d (.st 8),.d .str,.d qI,.d .str,.d qI,.d qI,.d qI] [(.st 8,[]),qJ,qJ] true (qu7 kL_)
theorem ok_90:OKF 90 c_90:=aA (ac_ ok_155 (ac_ ok_57 af_)) Tryz.func90 (by kernel_rfl) .p λ_=>by kernel_rfl
def c_220:Con te:=aj_ te [.d (.st 4),.d (.st 2),.d qI] [qB] false (qu3 i2_)
theorem ok_220:OKF 220 c_220:=aA (ac_ ok_283 af_) Tryz.func220 (by kernel_rfl) .p λ_=>by kernel_rfl
def c_221:Con te:=aj_ te [.d (.st 3),.d qI,.d qI,.d .str,.d .str,.d qI] [(.st 3,[]),qJ,qJ] true (qu6 l9_)
theorem ok_221:OKF 221 c_221:=aA (ac_ ok_279 (ac_ ok_280 (ac_ ok_278 (ac_ ok_277 af_)))) Tryz.func221 (by kernel_rfl) (qp 5 (.j ⟨[(2,.d qI)],[],[3,4,5,6,12,15],[0,2,12],[],23⟩ false .p (qp 4 (.s (.dr [0,0,0,0,0,1,4,4,2,4,4] [6,7] false []) .p)))) λ_=>by kernel_rfl
def c_156:Con te:=aj_ te [.d (.st 4),.d .str,.d qI,.d qI,.d .str,.d qI] [(.st 4,[]),qJ,qJ] true (qu6 ma_)
theorem ok_156:OKF 156 c_156:=aA (ac_ ok_221 (ac_ ok_85 (ac_ ok_220 (ac_ kT_ (ac_ ok_83 (ac_ d3_ af_)))))) Tryz.func156 (by kernel_rfl) (qp 3 (.j ⟨[(3,.d qI)],[],[1,2,4,5,6,12,15],[0,2,13],[],35⟩ false .p (qp 2 (.s (.dr [0,0,0,0,0,0,0,0,1,4,4,4,4,4,2] [] false []) .p)))) λ_=>by kernel_rfl
def c_91:Con te:=aj_ te [.d (.st 8),.d .str,.d qI,.d qI,.d .str,.d qI] [(.st 8,[]),qJ,qJ] true (qu6 mb_)
theorem ok_91:OKF 91 c_91:=aA (ac_ ok_156 (ac_ ok_65 (ac_ ok_57 af_))) Tryz.func91 (by kernel_rfl) .p λ_=>by kernel_rfl
def c_222:Con te:=aj_ te [.d (.sl qI),.d qI] [(.sl qI,[some 3])] false (qu2 et_)
theorem ok_222:OKF 222 c_222:=aA af_ Tryz.func222 (by kernel_rfl) (qp 2 (.s (.s .p (.lp ⟨[(5,.one (.own 5)),(9,.d qI)],[(5,false,.row 3 qI [])],[0,1,8],[],[],6⟩ ⟨[(5,.one (.own 5))],[(5,false,.row 3 qI [])],[],[],[],6⟩ false (qp 2 (.j ⟨[(5,.one (.own 7))],[(7,false,.row 3 qI [])],[0,1,8,9],[],[],8⟩ false .p .p)))) .p)) λ_=>by kernel_rfl
def c_223:Con te:=aj_ te [.d (.st 3),.d qI,.d .str,.d qI] [(.st 3,[]),qJ] true (qu4 kN_)
theorem ok_223:OKF 223 c_223:=aA (ac_ ok_284 (ac_ ok_72 (ac_ d3_ af_))) Tryz.func223 (by kernel_rfl) (qp 6 (.s (.s .p (.lp ⟨[(13,.d qI)],[(29,true,.cells 26 [.v qI,.own 34]),(34,false,.row 81 (.st 2) [])],[1,2,3,4,8,10,12],[0,2,11],[],35⟩ ⟨[],[(29,true,.cells 26 [.v qI,.own 34]),(34,false,.row 81 (.st 2) [])],[2,3,8,10,12],[2,11],[],35⟩ false (.s .p (.j ⟨[],[(29,true,.cells 26 [.v qI,.own 40]),(40,false,.row 81 (.st 2) [])],[1,2,3,4,8,10,12,13],[0,2,11],[],41⟩ false (.s .p (.s (.dr [0,0,0,0,0,0,0,1,2,4,2] [] false []) .p)) .p)))) .p)) λ_=>by kernel_rfl
def c_158:Con te:=aj_ te [.d (.st 4),.d .str,.d qI,.d qI] [(.st 4,[]),qJ] true (qu4 hH_)
theorem ok_158:OKF 158 c_158:=aA (ac_ ok_222 (ac_ ok_223 (ac_ ok_85 (ac_ ok_134 (ac_ ok_83 (ac_ d3_ af_)))))) Tryz.func158 (by kernel_rfl) (qp 3 (.s (.df [0,0,0,0,0,0,1,4,4,4,1,2,4] [] 4) (.s .p (.s (.dr [0,0,0,0,1,0,2,4,2] [5] false []) .p)))) λ_=>by kernel_rfl
def c_157:Con te:=aj_ te [.d (.st 4),.d .str,.d qI,.d qI,.d qI] [(.st 4,[])] true (qu5 mc_)
theorem ok_157:OKF 157 c_157:=aA (ac_ ok_158 (ac_ kT_ (ac_ ok_222 af_))) Tryz.func157 (by kernel_rfl) (qp 2 (.j ⟨[],[(0,true,.cells 29 [.v (.sl (.st 0)),.v (.sl (.st 1)),.v qI,.v (.sl (.st 2)),.v (.sl qI)])],[5,10],[2],[],12⟩ false .p .p)) λ_=>by kernel_rfl
def c_92:Con te:=aj_ te [.d (.st 8),.d .str,.d qI,.d qI,.d qI] [(.st 8,[])] true (qu5 md_)
theorem ok_92:OKF 92 c_92:=aA (ac_ ok_157 af_) Tryz.func92 (by kernel_rfl) (.s .p (.j ⟨[],[(0,true,.box 35 (.st 8))],[5,10],[2],[],4⟩ false .p .p)) λ_=>by kernel_rfl
def c_93:Con te:=aj_ te [.d (.st 8),.d .str,.d qI,.d qI] [(.st 8,[]),qJ] true (qu4 kO_)
theorem ok_93:OKF 93 c_93:=aA (ac_ ok_158 (ac_ ok_57 af_)) Tryz.func93 (by kernel_rfl) .p λ_=>by kernel_rfl
def c_354:Con te:=aj_ te [.d qI,.d qI] [qB] false (qu2 o1_)
theorem ok_354:OKF 354 c_354:=aA af_ Tryz.func354 (by kernel_rfl) .p λ_=>by kernel_rfl
def c_355:Con te:=aj_ te [.d qI,.d qI] [qB] false (qu2 gu_)
theorem ok_355:OKF 355 c_355:=aA af_ Tryz.func355 (by kernel_rfl) .p λ_=>by kernel_rfl
def c_329:Con te:=aj_ te [.d (.st 21)] [qB] false λa=>js_ a.1
theorem ok_329:OKF 329 c_329:=aA (ac_ ok_355 (ac_ ok_354 af_)) Tryz.func329 (by kernel_rfl) .p λ_=>by kernel_rfl
def c_285:Con te:=aj_ te [.d (.st 21)] [qJ] false λa=>me_ a.1
theorem ok_285:OKF 285 c_285:=aA (ac_ p1_ (ac_ ok_329 af_)) Tryz.func285 (by kernel_rfl) .p λ_=>by kernel_rfl
def c_286:Con te:=aj_ te [.d (.st 4),.d .str,.d (.st 2),.d .str] [qJ] false (qu4 jt_)
theorem ok_286:OKF 286 c_286:=aA (ac_ ok_134 (ac_ p1_ (ac_ ok_135 af_))) Tryz.func286 (by kernel_rfl) .p λ_=>by kernel_rfl
def c_287:Con te:=aj_ te [.d (.st 4),.d .str,.d (.st 2),.d qI] [qJ] false (qu4 ju_)
theorem ok_287:OKF 287 c_287:=aA (ac_ ok_220 (ac_ ok_134 (ac_ kT_ af_))) Tryz.func287 (by kernel_rfl) .p λ_=>by kernel_rfl
def c_331:Con te:=aj_ te [.d (.sl (.st 0)),.d .str,.d .str] [qB] false (qu3 gW_)
theorem ok_331:OKF 331 c_331:=aA (ac_ ok_216 (ac_ ok_281 af_)) Tryz.func331 (by kernel_rfl) .p λ_=>by kernel_rfl
def c_330:Con te:=aj_ te [.d (.st 4),.d .str,.d (.st 2)] [qB] false (qu3 qW_)
theorem ok_330:OKF 330 c_330:=aA (ac_ ok_331 af_) Tryz.func330 (by kernel_rfl) .p λ_=>by kernel_rfl
def c_288:Con te:=aj_ te [.d (.st 4),.d .str,.d (.st 2),.d (.st 21)] [qJ] false (qu4 nB_)
theorem ok_288:OKF 288 c_288:=aA (ac_ ok_331 (ac_ ok_216 (ac_ ok_282 (ac_ kT_ (ac_ ok_330 af_))))) Tryz.func288 (by kernel_rfl) (qp 2 (.s (qp 2 (.s (qd 13) .p)) .p)) λ_=>by kernel_rfl
def c_224:Con te:=aj_ te [.d (.st 4),.d .str,.d qI,.d (.st 21)] [qJ] false (qu4 jv_)
theorem ok_224:OKF 224 c_224:=aA (ac_ ok_288 (ac_ ok_287 (ac_ ok_286 (ac_ ok_285 (ac_ ok_83 (ac_ d3_ af_)))))) Tryz.func224 (by kernel_rfl) .p λ_=>by kernel_rfl
def c_225:Con te:=aj_ te [.d (.st 3),.d qI,.d .str,.d .str,.d qI] [(.st 3,[]),qJ] true (qu5 kP_)
theorem ok_225:OKF 225 c_225:=aA (ac_ ok_284 (ac_ ok_279 (ac_ ok_135 (ac_ p1_ (ac_ d3_ af_))))) Tryz.func225 (by kernel_rfl) (qp 8 (.s (.dr [0,0,1,0,0,0,0,1,2,4] [3,5,6,4] false []) .p)) λ_=>by kernel_rfl
def c_226:Con te:=aj_ te [.d (.st 3),.d qI,.d qI,.d .str,.d qI] [(.st 3,[]),qJ] true (qu5 mf_)
theorem ok_226:OKF 226 c_226:=aA (ac_ ok_279 (ac_ ok_147 (ac_ mC_ (ac_ ok_172 (ac_ d3_ af_))))) Tryz.func226 (by kernel_rfl) (qp 3 (.s (.s (qd 15) .p) (.s .p (.j ⟨[],[(11,true,.box 81 (.st 2))],[3,4,5,10,12],[0,2],[],19024⟩ false .p (.j ⟨[],[(11,true,.box 81 (.st 2))],[4,5,10,12],[0,2],[],19024⟩ false .p (.j ⟨[],[(11,true,.box 81 (.st 2))],[5,10,12],[0,2],[],19024⟩ false .p .p)))))) λ_=>by kernel_rfl
def c_159:Con te:=aj_ te [.d (.st 4),.d .str,.d qI,.d (.st 21),.d qI] [(.st 4,[]),qJ] true (qu5 mg_)
theorem ok_159:OKF 159 c_159:=aA (ac_ ok_222 (ac_ kT_ (ac_ ok_226 (ac_ ok_212 (ac_ ok_225 (ac_ ok_85 (ac_ d3_ (ac_ ok_224 af_)))))))) Tryz.func159 (by kernel_rfl) (qp 3 (.j ⟨[],[(0,true,.box 29 (.st 4))],[1,2,4,5,8,10,13],[2,4,22],[],27⟩ false (.s .p (.s (.dr [0,0,0,0,0,0,0,0,1,4,4,4,4,2] [] false []) .p)) (.j ⟨[],[(0,true,.box 29 (.st 4))],[2,5,8,10,13],[2,4,22],[],27⟩ false (.s .p (.s (.dr [0,0,0,0,0,0,0,0,1,4,4,4,4,2] [] false []) .p)) (.s .p (.j ⟨[(15,.d .str)],[],[2,5,8,10],[0,2,4],[],30⟩ false .p (.j ⟨[],[(0,true,.box 29 (.st 4))],[2,5,10],[4],[],30⟩ false .p (.j ⟨[],[(0,true,.cells 29 [.v (.sl (.st 0)),.v (.sl (.st 1)),.v qI,.v (.sl (.st 2)),.v (.sl qI)])],[5,10],[4],[],30⟩ false .p .p))))))) λ_=>by kernel_rfl
def c_94:Con te:=aj_ te [.d (.st 8),.d .str,.d qI,.d (.st 21),.d qI] [(.st 8,[]),qJ] true (qu5 mh_)
theorem ok_94:OKF 94 c_94:=aA (ac_ ok_159 (ac_ ok_57 af_)) Tryz.func94 (by kernel_rfl) .p λ_=>by kernel_rfl
def c_228:Con te:=aj_ te [.d (.st 6),.d qI,.d .str] [(.st 6,[]),(.str,[]),qJ] true (qu3 j6_)
theorem ok_228:OKF 228 c_228:=aA (ac_ ok_100 (ac_ ok_237 (ac_ ok_99 af_))) Tryz.func228 (by kernel_rfl) (qp 4 (.s (qp 2 (.s (.s (.s (qd 7) .p) (.s (.dr [0,0,0,1,4,4] [] true [2]) .p)) .p)) (qp 3 (.s (.dr [0,0,0,0,0,0,1,4,4] [] true [2]) .p)))) λ_=>by kernel_rfl
def c_289:Con te:=aj_ te [.d (.st 6),.d qI,.d .str] [(.st 6,[]),(.st 10,[]),qJ] true (qu3 hL_)
theorem ok_289:OKF 289 c_289:=aA (ac_ ok_228 af_) Tryz.func289 (by kernel_rfl) (qp 4 (.s (.s .p (.lp ⟨[(10,.one (.own 17)),(11,.d qI)],[(11,true,.box 32 (.st 6)),(17,false,.row 9 .str [])],[1,2,3,6,7,9],[0,2,4],[],18⟩ ⟨[(10,.one (.own 17))],[(11,true,.box 32 (.st 6)),(17,false,.row 9 .str [])],[2,3,6,7,9],[0,2,4],[],18⟩ true (.s .p (.s (.s (.df [0,0,0,0,0,0,0,0,0,0,1,4,4,4,4,1,2,4,4] [] 5) .p) .p)))) (.s .p (.s (.lp ⟨[(10,.one (.own 19)),(15,.d qI)],[(11,true,.box 32 (.st 6)),(19,false,.row 9 .str [])],[2,3,6,7,9],[0,2,4],[],20⟩ ⟨[(10,.one (.own 19)),(15,.d qI)],[(11,true,.box 32 (.st 6)),(19,false,.row 9 .str [])],[2,6,7,9],[2,4],[],20⟩ true (qp 2 (.s (.s .p (.lp ⟨[(16,.one (.own 25)),(17,.d qI)],[(11,true,.box 32 (.st 6)),(19,true,.row 9 .str []),(25,false,.row 9 .str [])],[2,3,6,7,9,10,15],[0,2,4],[],26⟩ ⟨[(16,.one (.own 25))],[(11,true,.box 32 (.st 6)),(25,false,.row 9 .str [])],[2,3,6,7,9,15],[0,2,4],[],26⟩ true (.s .p (.s (.s .p (.s (.s .p (.lp ⟨[(18,.d .str),(19,.d qI)],[(19,true,.row 9 .str [])],[2,3,6,7,9,10,15,16,17],[0,2,4,11,25],[],33⟩ ⟨[(18,.d .str)],[(19,true,.row 9 .str [])],[2,3,6,7,9,10,15,16,17],[0,2,4,11,25],[],33⟩ false .p)) .p)) .p)))) .p))) (.s (.ot 0 (.free 1 (.free 4 (.free 5 (.free 6 (.alt 0 (.alt 2 (.alt 3 (.free 7 (.alt 8 (.alt 9 (.free 10 .nil) .nil) .nil)) (.alt 8 (.alt 3 (.free 7 (.alt 9 (.free 10 .nil) .nil)) .nil) .nil)) (.alt 8 (.alt 2 (.alt 3 (.free 7 (.alt 9 (.free 10 .nil) .nil)) .nil) .nil) .nil)) (.alt 2 (.alt 0 (.alt 3 (.free 7 (.alt 8 (.alt 9 (.free 10 .nil) .nil) .nil)) (.alt 8 (.alt 3 (.free 7 (.alt 9 (.free 10 .nil) .nil)) .nil) .nil)) (.alt 3 (.free 7 (.alt 0 (.alt 8 (.alt 9 (.free 10 .nil) .nil) .nil) .nil)) .nil)) .nil))))))) .p))))) λ_=>by kernel_rfl
def c_229:Con te:=aj_ te [.d qI,.d qI] [(.str,[])] false (qu2 fZ_)
theorem ok_229:OKF 229 c_229:=aA af_ Tryz.func229 (by kernel_rfl) (qp 2 (.s (.s .p (.lp ⟨[(5,.d .str),(6,.d qI)],[],[0,1],[],[],3⟩ ⟨[(5,.d .str)],[],[],[],[],3⟩ false .p)) .p)) λ_=>by kernel_rfl
theorem okS_332(f:Int->Int->Option Str)(h:OKF 229 (aj_ te [.d qI,.d qI] [(.str,[])] false λa=>f a.1 a.2.1)):OKF 332 (aj_ te [.d .str] [(.str,[])] false λa=>kR_ f a.1):=aA (ac_ h af_) Tryz.func332 (by kernel_rfl) .p λ_=>by kernel_rfl
def c_332:Con te:=aj_ te [.d .str] [(.str,[])] false λa=>jw_ a.1
theorem ok_332:OKF 332 c_332:=okS_332 _ ok_229
theorem okS_290(h:Int->Int->Option Str)(f:Str->Option Str)(m:OKF 229 (aj_ te [.d qI,.d qI] [(.str,[])] false λa=>h a.1 a.2.1))(j:OKF 332 (aj_ te [.d .str] [(.str,[])] false λa=>f a.1)):OKF 290 (aj_ te [.d (.st 2),.d (.st 10)] [(.str,[])] false λa=>mY_ h f a.1 a.2.1):=aA (ac_ j (ac_ m af_)) Tryz.func290 (by kernel_rfl) (.s .p (.s (qd 24) (.s (qd 18) (.s (qd 13) .p)))) λ_=>by kernel_rfl
def c_290:Con te:=aj_ te [.d (.st 2),.d (.st 10)] [(.str,[])] false λa=>gX_ a.1 a.2.1
theorem ok_290:OKF 290 c_290:=okS_290 _ _ ok_229 ok_332
def cS_227(f:Xx->Xv->Xq->Option (Xx×Str×Int)):Con te:=aj_ te [.d (.st 6),.d (.st 3),.d (.st 2)] [(.st 6,[]),(.str,[]),qJ] true (qu3 f)
theorem okS_227(f:Xx->Xv->Xq->Option (Xx×Str×Int))(h:OKF 227 (cS_227 f)):OKF 227 (cS_227 (ho_ f)):=aA (ac_ d3_ (ac_ ok_72 (ac_ ok_290 (ac_ ok_289 (ac_ mC_ (ac_ h af_)))))) Tryz.func227 (by kernel_rfl) (.s .p (.s (.s .p (.s (.s .p (.s (.dr [0,0,0,0,4,2,4,4] [4] false []) .p)) .p)) (qp 2 (.s (.s .p (.lp ⟨[(13,.d .str),(14,.d qI)],[(0,true,.box 32 (.st 6)),(17,true,.row 3 qI [])],[3,4,5,6,12],[2,4,6],[],22⟩ ⟨[(13,.d .str)],[(0,true,.box 32 (.st 6))],[3,5,6],[4,6],[],22⟩ true (.s .p (.s (.s (.dr [0,0,0,0,0,0,0,0,4,1,2,4] [8] false []) .p) .p)))) (.s .p (.s (.dr [0,0,0,0,4,2,4,4] [4] false []) .p)))))) λ_=>by kernel_rfl
theorem okN_227:∀n,OKF 227 (cS_227 (eu_ n))
 | 0=>⟨h1_ λ_=>rfl,by kernel_rfl⟩
 | n+1=>okS_227 _ (okN_227 n)
def c_227:Con te:=cS_227 (eu_ BIG)
theorem ok_227:OKF 227 c_227:=okN_227 BIG
theorem okS_160(f:Int->Int->Option Str)(h:OKF 229 (aj_ te [.d qI,.d qI] [(.str,[])] false λa=>f a.1 a.2.1)):OKF 160 (aj_ te [.d (.st 6),.d (.st 3)] [(.st 6,[]),(.str,[]),qJ] true λa=>kS_ f a.1 a.2.1):=aA (ac_ ok_228 (ac_ h (ac_ ok_227 (ac_ ok_40 af_)))) Tryz.func160 (by kernel_rfl) (qp 2 (.s (.df [0,0,0,0,0,0,1,4,4,4,4,1,2,4,4] [] 5) (.s .p (.s (.df [0,0,0,0,0,0,0,0,0,0,0,1,4,4,4,4,1,2,4,4] [] 5) .p)))) λ_=>by kernel_rfl
def c_160:Con te:=aj_ te [.d (.st 6),.d (.st 3)] [(.st 6,[]),(.str,[]),qJ] true λa=>jx_ a.1 a.2.1
theorem ok_160:OKF 160 c_160:=okS_160 _ ok_229
def c_95:Con te:=aj_ te [.d (.st 8),.d qI] [(.st 8,[]),qJ] true (qu2 d2_)
theorem ok_95:OKF 95 c_95:=aA (ac_ ok_160 af_) Tryz.func95 (by kernel_rfl) .p λ_=>by kernel_rfl
def c_35:Con te:=aj_ te [.d (.st 8),.d (.st 22)] [(.st 8,[]),qJ,qJ] true (qu2 nC_)
theorem ok_35:OKF 35 c_35:=aA (ac_ ok_95 (ac_ ok_94 (ac_ ok_93 (ac_ ok_92 (ac_ ok_91 (ac_ ok_90 (ac_ ok_89 af_))))))) Tryz.func35 (by kernel_rfl) (qp 2 (.j ⟨[(7,.d qI),(8,.d qI)],[(0,true,.box 35 (.st 8))],[2,4],[4],[],10⟩ false .p .p)) λ_=>by kernel_rfl
def c_9:Con te:=aj_ te [.d (.st 8),.d (.st 22)] [qB] false (qu2 e2_)
theorem ok_9:OKF 9 c_9:=aA (ac_ ok_18 (ac_ ok_19 (ac_ ok_35 (ac_ ok_34 (ac_ ok_12 (ac_ ok_11 (ac_ ok_33 (ac_ ok_10 af_)))))))) Tryz.func9 (by kernel_rfl) .p λ_=>by kernel_rfl
end
end Go.Proofs.YtebokaoegomboaaGreatDoor
namespace Go
namespace Rt
theorem ao_{n:Int}(h:I64 n):w64 n=n:=by
 unfold w64;rw[IntKind.wrap_i64];omega
theorem dB_{n:Int}(h:I64 n):IntKind.i64.wrap n=n:=ao_ h
theorem wu8(n:Int):IntKind.u8.wrap n=n%256:=IntKind.wrap_u8 n
theorem wu64(n:Int):IntKind.u64.wrap n=n%18446744073709551616:=by simp[IntKind.wrap,IntKind.bits,IntKind.signed]
theorem gf_{a:Nat}(f:a<2^64):(BitVec.ofInt 64 (a:Int)).toNat=a:=by
 rw[BitVec.toNat_ofInt];have:((a:Int)%((2^64:Nat):Int))=((a%2^64:Nat):Int):=by omega
 rw[this];simp;omega
theorem lC_{a b:Nat}(h:a<2^63)(f:b<2^63):bL_ .i64 a b=((a&&&b:Nat):Int):=by
 have j:a&&&b<2^63:=Nat.and_lt_two_pow a f;show IntKind.i64.wrap (((BitVec.ofInt 64 (a:Int)&&&BitVec.ofInt 64 (b:Int)).toNat:Nat):Int)=_;rw[BitVec.toNat_and,gf_ (by omega),gf_ (by omega)];exact dB_ ⟨by omega,by omega⟩
theorem orI_u64{a b:Nat}(h:a<2^64)(f:b<2^64):orI .u64 a b=((a|||b:Nat):Int):=by
 have j:a|||b<2^64:=Nat.or_lt_two_pow h f
 show IntKind.u64.wrap (((BitVec.ofInt 64 (a:Int)|||BitVec.ofInt 64 (b:Int)).toNat:Nat):Int)=_;rw[BitVec.toNat_or,gf_ h,gf_ f,wu64];omega
theorem pw_{a b:Nat}(f:a<2^63)(h:b<2^63):da_ .i64 a b=((a&&&(2^64-1-b):Nat):Int):=by
 have j:a&&&(2^64-1-b)<2^63:=je Nat.and_le_left f;show IntKind.i64.wrap (((BitVec.ofInt 64 (a:Int) &&& ~~~(BitVec.ofInt 64 (b:Int))).toNat:Nat):Int)=_;rw[BitVec.toNat_and,BitVec.toNat_not,gf_ (by omega),gf_ (by omega)];exact dB_ ⟨by omega,by omega⟩
theorem tC_{a b:Nat}(j:a<2^63)(p:b<2^63):(da_ .i64 a b==0)=(bL_ .i64 a b==a):=by
 rw[pw_ j p,lC_ j p];rw[qK];simp only[qF];constructor
 .intro h;have m:a&&&(2^64-1-b)=0:=by omega
  have:a&&&b=a:=by
   apply jK;intro i;have hi:=qL (λn=>n.testBit i) m;simp only[jA,Nat.zero_testBit]at hi ⊢;by_cases f:i<64
   .rw[show 2^64-1-b=2^64-(b+1)by omega,Nat.testBit_two_pow_sub_succ (by omega)]at hi;simp only[f,decide_true,zY]at hi;cases s:a.testBit i<;>cases q:b.testBit i<;>simp_all
   .have:a.testBit i=false:=zw (zK j (zI (by omega) (by omega)));simp[this]
  omega
 .intro h;have m:a&&&b=a:=by omega
  have:a&&&(2^64-1-b)=0:=by
   apply jK;intro i;have hi:=qL (λn=>n.testBit i) m;simp only[jA,Nat.zero_testBit]at hi ⊢;by_cases f:i<64
   .rw[show 2^64-1-b=2^64-(b+1)by omega,Nat.testBit_two_pow_sub_succ (by omega)];simp only[f,decide_true,zY];cases s:a.testBit i<;>cases q:b.testBit i<;>simp_all
   .have:a.testBit i=false:=zw (zK j (zI (by omega) (by omega)));simp[this]
  omega
theorem and_le{a b:Nat}(h:a&&&b=a):a<=b:=by
 rw[←h];exact Nat.and_le_right
theorem bit_and{a k:Nat}:(a&&&2^k != 0)=(a/2^k%2==1):=by
 have m:a&&&2^k=if a.testBit k then 2^k else 0:=by
  apply jK;intro i;rw[jA,Nat.testBit_two_pow];by_cases f:k=i
  .subst f;cases h:a.testBit k<;>simp
  .cases h:a.testBit k<;>simp[f]
 rw[m];have j:a.testBit k=decide (a/2^k%2=1):=Nat.testBit_eq_decide_div_mod_eq;by_cases h:a/2^k%2=1
 .simp[j,h]
 .simp[j,h]
theorem aa_{α β:Type}{x:Option α}{a:α}{f:α->Option β}{r:Option β}(h:x=some a)(hr:f a=r):x.bind f=r:=by subst h;exact hr
theorem ae_{α:Type}{c:Bool}{A B r:α}(f:c=true)(h:A=r):(bif c then A else B)=r:=by subst f;exact h
theorem ab_{α:Type}{c:Bool}{A B r:α}(f:c=false)(h:B=r):(bif c then A else B)=r:=by subst f;exact h
theorem loopF_run{σ β:Type}{body:σ->Option (Step σ β)}(I:Nat->σ->β->Prop)
  (m:∀s b,I 0 s b->body s=some (.done b))
  (h:∀k s b,I (k+1) s b->body s=some (.done b)\/∃s',body s=some (.next s')/\I k s' b):∀{k n:Nat} {s:σ} {b:β},I k s b->k<n->am_ body n s=some b
 | 0,n+1,s,b,j,_=>by simp only[am_,m s b j]
 | k+1,n+1,s,b,j,u=>by
  simp only[am_];rcases h k s b j with q|⟨s',p,f⟩
  .rw[q]
  .rw[p];exact loopF_run I m h f (by omega)
theorem ev_{σ β:Type}{body:σ->Option (Step σ β)}(n:Nat)(p:n<BIG)(J:Nat->σ->β->Prop)(x:∀s b,J n s b->body s=some (.done b))
  (h:∀i s b,i<n->J i s b->body s=some (.done b)\/∃s',body s=some (.next s')/\J (i+1) s' b) {s:σ} {b:β} (u:J 0 s b):am_ body BIG s=some b:=by
 refine loopF_run (λk s b=>k<=n/\J (n-k) s b) (λs b f=>x s b (by simpa using f.2)) (λk s b f => ?_) (k:=n) ⟨qA _,by simpa using u⟩ p;obtain⟨y,f⟩:=f;rcases h _ s b (by omega) f with q|⟨s',m,j⟩
 .exact .inl q
 .exact .inr ⟨s',m,by omega,by rwa [show n-(k+1)+1=n-k by omega]at j⟩
theorem bf_{σ β:Type}{body:σ->Option (Step σ β)}(T:Nat->σ)(n:Nat)(m:n<BIG){b:β}(j:∀i,i<n->body (T i)=some (.next (T (i+1))))(p:body (T n)=some (.done b)):am_ body BIG (T 0)=some b:=by
 refine ev_ (J:=λi s h=>s=T i/\h=b) n m (λs h f => ?_) (λi s h hi f => ?_) ⟨rfl,rfl⟩
 .obtain⟨rfl,rfl⟩:=f;exact p
 .obtain⟨rfl,rfl⟩:=f;exact .inr ⟨_,j i hi,rfl,rfl⟩
theorem bt_{α:Type}(xs:List α)(i:Nat):an_ xs (i:Int)=xs[i]? := by
 unfold an_;rw[qV (by omega)];simp
theorem ap_{α:Type}{xs:List α}{i:Nat}(h:i<xs.length):an_ xs (i:Int)=some xs[i]:=by
 rw[bt_,qQ h]
theorem lD_{s:Str}{i:Nat}(h:i<s.length):cu_ s (i:Int)=some (s[i].toNat:Int):=by
 unfold cu_;rw[ap_ h];rfl
theorem bI_{a b:Str}(h:a.length+b.length<=9223372036854775807):cat a b=some (a++b):=by
 unfold cat;rw[qV h]
theorem bm_{α:Type}{bytes:Nat}{xs f:List α}(j:xs.length+f.length<=9223372036854775807)(h:(xs.length+f.length)*bytes<=140737488355328):room bytes xs f=some (xs++f):=by
 unfold room;rw[qV ⟨j,h⟩]
theorem bV_{α:Type}{xs:List α}{lo hi:Int}(j:0<=lo)(h:lo<=hi)(f:hi<=xs.length):bF_ xs lo hi=some ((xs.take hi.toNat).drop lo.toNat):=by
 unfold bF_;rw[qV ⟨j,h,f⟩]
theorem uc_{α:Type}{bytes:Nat}{z:α}{n:Int}(j:0<=n)(h:n<=9223372036854775807)(f:bytes*n<=281474976710656):i7_ bytes z n=some (List.replicate n.toNat z):=by
 unfold i7_;rw[qV ⟨j,h,f⟩]
theorem shrI_eq{k:IntKind}{x y:Int}(h:0<=y)(f:y<=k.bits):shrI k x y=some (x.fdiv (2^y.toNat)):=by
 unfold shrI;rw[qX (by omega),show min y.toNat k.bits=y.toNat by omega]
def kV_(n:Int)(i:Nat):Int:=n.fdiv (2^(8*i))%256
def leL(n:Int)(w:Nat):List Int:=(List.range w).map (kV_ n)
def leB(n:Int)(w:Nat):Str:=bytesS (leL n w)
theorem leL_len(n:Int)(w:Nat):(leL n w).length=w:=by simp[leL]
theorem aL_(n:Int)(w:Nat):(leB n w).length=w:=by simp[leB,bytesS,leL_len]
theorem leL_succ(n:Int)(w:Nat):leL n (w+1)=leL n w++[kV_ n w]:=by simp[leL,List.range_succ]
theorem leB_succ(n:Int)(w:Nat):leB n (w+1)=leB n w++bytesS [kV_ n w]:=by simp[leB,bytesS,leL_succ]
theorem ud_(n:Int)(i:Nat)(hi:i<8):shrI .i64 n (w64 (8*(i:Int)))=some (n.fdiv (2^(8*i))):=by
 rw[ao_ ⟨by omega,by omega⟩,shrI_eq (by omega) (by show 8*(i:Int)<=(64:Nat);omega)];rw[show(8*(i:Int)).toNat=8*i by omega]
theorem set_mid{α:Type}(A:List α)(k:Nat)(z v:α):(A++List.replicate (k+1) z).set A.length v=A++[v]++List.replicate k z:=by
 simp[List.replicate_succ]
end Rt
end Go
