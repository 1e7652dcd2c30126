/-
 What the statements of this seat hang on,part 2: Rc Rd Ru Re Rf Rg Rh Rx Rv.
-/
import Derived.Test.YtkammpnldgkiiaaGreatDoorXA1
import Derived.Lib.AppendStr
import Derived.Lib.AppendZeros
namespace Go
namespace Rt
open Go.RowKit
section
variable{P:Program}{E:TE}{z:Fz}{g:Ga}
def constC(E:TE):Value->Option (SC E) | .int k n=>some (.dt (.int k) n) | .bool b=>some (.dt .bool b) | .string s=>some (.dt .str s.data.toList) | .slice none 0 0=>some .nils | .pointer none=>some .nilp | .nilIface=>some .nif|_=>none
theorem jE_{v:Value}{c:SC E}(h:constC E v=some c):RC P E z g c v:=by
 unfold constC at h;split at h
 .obtain rfl:=qSj h;exact .int .nil
 .obtain rfl:=qSj h;exact .bool .nil
 .obtain rfl:=qSj h;exact .str .nil
 .obtain rfl:=qSj h;rfl
 .obtain rfl:=qSj h;rfl
 .obtain rfl:=qSj h;rfl
 .cases h
def eG_(E:TE):List Value->Option (List (SC E))
 | []=>some []
 | v::r=>match constC E v with
  | none=>none
  | some c=>match eG_ E r with
   | none=>none
   | some l=>some (c::l)
theorem dm_:∀{vs:List Value} {l:List (SC E)},eG_ E vs=some l->All2 (RC P E z g) l vs
 | [],l,h=>by simp only[eG_,qOi]at h;subst h;exact .nil
 | v::r,l,h=>by
  simp only[eG_]at h;split at h
  .cases h
  .rename_i c hc;split at h
   .cases h
   .rename_i l' hl;obtain rfl:=qSj h;exact .cons (jE_ hc) (dm_ hl)
def constV(E:TE):Value->Option (SV E)
 | .agg cs=>match eG_ E cs.toList with
  | some l=>some (.v (.agg l))
  | none=>none
 | v=>match constC E v with
  | some c=>some (.v (.one c))
  | none=>none
theorem constV_ok{v:Value}{s:SV E}(h:constV E v=some s):RV P E z g s v:=by
 unfold constV at h;split at h
 .split at h
  .rename_i l hl;obtain rfl:=qSj h;exact⟨_,rfl,dm_ hl⟩
  .cases h
 .split at h
  .rename_i c hc;obtain rfl:=qSj h;exact jE_ hc
  .cases h
def opS(E:TE)(L:Nat->Option (SV E)):Operand->Option (SV E)
 | .tmp t=>L t
 | .const v=>constV E v
 | .func f=>some (.v (.one (.clo f [])))
 | .global n=>match E.gl n with
  | some q=>some (.v (.one (.elf q.1 q.2 0)))
  | none=>none
structure ER(P:Program)(E:TE)(z:Fz)(g:Ga)(N:Nat)(a:Act)(L:Nat->Option (SV E)):Prop where
 size:a.tmps.size=N
 defers:a.defers=[]
 get:∀t s,L t=some s->∃v,a.tmps[t]? = some v/\RV P E z g s v
abbrev OpR(P:Program)(E:TE)(z:Fz)(g:Ga)(L:Nat->Option (SV E))(ρ:Operand->Value):Prop:=∀x s,opS E L x=some s->RV P E z g s (ρ x)
theorem ER.op{N:Nat}{a:Act}{L:Nat->Option (SV E)}(h:ER P E z g N a L)(hz:Glo E z):OpR P E z g L a.eval:=by
 intro x s hx;cases x with
 | tmp t =>
  obtain⟨v,h1,h2⟩:=h.get t s hx;simpa[Act.eval,h1]using h2
 | const v=>exact constV_ok hx
 | global n =>
  simp only[opS]at hx;split at hx
  .rename_i q hq;obtain rfl:=qSj hx;obtain⟨hF,r,hr,hc,_⟩:=hz n q.1 q.2 hq;exact⟨n,0,r,rfl,hF,hr,λj u hu=>by rw[Nat.zero_add];exact hc j u hu⟩
  .cases hx
 | func f =>
  obtain rfl:=qSj hx;exact⟨[],rfl,.nil⟩
theorem ER.less{N:Nat}{a:Act}{L L':Nat->Option (SV E)}(h:ER P E z g N a L)(hL:∀t s,L' t=some s->L t=some s):ER P E z g N a L' :=
 ⟨h.size,h.defers,λt s e=>h.get t s (hL t s e)⟩
theorem ER.le{z':Fz}{g':Ga}{N:Nat}{a:Act}{L:Nat->Option (SV E)}(h:ER P E z g N a L)(hz:z.Le z')(hg:g.Le g'):ER P E z' g' N a L :=
 ⟨h.size,h.defers,λt s e=>let ⟨v,h1,h2⟩:=h.get t s e;⟨v,h1,h2.le hz hg⟩⟩
theorem ER.put{N:Nat}{a:Act}{L L':Nat->Option (SV E)}(h:ER P E z g N a L){d:Nat}(hd:Nat.blt d N=true){s:SV E}{v:Value}(hv:RV P E z g s v)
  (hL:∀t u,L' t=some u->(t=d/\u=s)\/(t≠d/\L t=some u)):ER P E z g N (a.put (some d) v) L':=by
 have hd':d<N:=by simpa using hd
 refine⟨by simpa[Act.put]using h.size,h.defers,λt u e => ?_⟩;rcases hL t u e with⟨rfl,rfl⟩|⟨h1,h2⟩
 .exact⟨v,by simp[Act.put,h.size,hd'],hv⟩
 .obtain⟨v',h3,h4⟩:=h.get t u h2;refine⟨v',?_,h4⟩;simp only[Act.put];rw[Array.getElem?_setIfInBounds_ne (Ne.symm h1)];exact h3
def SV.int? : SV E->Option (IntKind×Int) | .v (.one (.dt (.int k) n))=>some (k,n)|_=>none
def SV.str? : SV E->Option Str | .v (.one (.dt .str s))=>some s|_=>none
def SV.bool? : SV E->Option Bool | .v (.one (.dt .bool b))=>some b|_=>none
def SV.cells? : SV E->Option (List (SC E)) | .v (.one c)=>some [c] | .v (.agg l)=>some l|_=>none
theorem SV.int_ok{s:SV E}{v:Value}{k:IntKind}{n:Int}(h:s.int? = some (k,n))(r:RV P E z g s v):v = .int k n:=by
 unfold SV.int? at h;split at h
 .simp only[qOi,Prod.mk.injEq]at h;obtain⟨rfl,rfl⟩:=h;obtain⟨vs,e,r⟩:=RD.int_inv (r:RD E z _ _ [v]);simp at e;exact e.1
 .cases h
theorem SV.str_ok{s:SV E}{v:Value}{x:Str}(h:s.str? = some x)(r:RV P E z g s v):v=S x:=by
 unfold SV.str? at h;split at h
 .simp only[qOi]at h;subst h;obtain⟨vs,e,r⟩:=RD.str_inv (r:RD E z _ _ [v]);simp at e;exact e.1
 .cases h
theorem SV.bool_ok{s:SV E}{v:Value}{b:Bool}(h:s.bool? = some b)(r:RV P E z g s v):v = .bool b:=by
 unfold SV.bool? at h;split at h
 .simp only[qOi]at h;subst h;obtain⟨vs,e,r⟩:=RD.bool_inv (r:RD E z _ _ [v]);simp at e;exact e.1
 .cases h
theorem SV.cells_ok{s:SV E}{v:Value}{l:List (SC E)}(h:s.cells? = some l)(r:RV P E z g s v):All2 (RC P E z g) l v.cells.toList:=by
 unfold SV.cells? at h;split at h
 .rename_i c;obtain rfl:=qSj h;have hc:=RC.cell (c:=c) r;have:v.cells = #[v]:=by cases v<;>first|rfl|cases hc
  rw[this];exact .cons r .nil
 .obtain rfl:=qSj h;obtain⟨vs,rfl,r⟩:=r;exact r
 .cases h
def SV.val? : SV E->Option Value | .v (.one (.dt (.int k) n))=>some (.int k n) | .v (.one (.dt .bool b))=>some (.bool b) | .v (.one (.dt .str s))=>some (S s)|_=>none
theorem SV.val_ok{s:SV E}{v u:Value}(h:s.val? = some u)(r:RV P E z g s v):v=u:=by
 unfold SV.val? at h;split at h
 .obtain rfl:=qSj h;exact SV.int_ok rfl r
 .obtain rfl:=qSj h;exact SV.bool_ok rfl r
 .obtain rfl:=qSj h;exact SV.str_ok rfl r
 .cases h
abbrev Up(E:TE):=Option (Nat×Obj E)
def UpOK(P:Program)(E:TE)(g g':Ga)(H:Nat->Option (Obj E)):Up E->Prop|none=>g'=g|some (i,o')=>∃o,H i=some o/\(∀z w,ObjR P E z g w i o->ObjR P E z g' w i o')/\∀k,fpO g' i o' k↔fpO g i o k
def Stands(z:Fz)(g:Ga){E:TE}(H:Nat->Option (Obj E))(W w:World):Prop:=z.In w/\∀id o k,H id=some o->fpO g id o k->w.heap[k]? = W.heap[k]?
theorem Stands.hold{P:Program}{E:TE}{z:Fz}{g:Ga}{H:Nat->Option (Obj E)}{Bs:List Nat}{F0:Nat->Prop}{w0 W w:World}(h:Stands z g H W w)(hH:HR P E Bs F0 w0 W z g H):∀id o,H id=some o->ObjR P E z g w id o :=
 λid o e=>(hH.hold id o e).keep (Fz.Le.refl z) (Ga.Le.refl g) λk hk=>h.2 id o k e hk
theorem Stands.of_ext{P:Program}{E:TE}{z:Fz}{g:Ga}{H:Nat->Option (Obj E)}{Bs:List Nat}{F0:Nat->Prop}{w0 W w:World}(hH:HR P E Bs F0 w0 W z g H)(h:Ext W w):Stands z g H W w :=
 ⟨hH.fz.ext h,λid o k e hk=>h.below.block k ((hH.hold id o e).lt hk)⟩
theorem Stands.refl{P:Program}{E:TE}{z:Fz}{g:Ga}{H:Nat->Option (Obj E)}{Bs:List Nat}{F0:Nat->Prop}{w0 W:World}(hH:HR P E Bs F0 w0 W z g H):Stands z g H W W:=⟨hH.fz,λ_ _ _ _ _=>rfl⟩
def Good(P:Program)(E:TE)(z:Fz)(g:Ga)(nx:Nat)(I:World->Prop)(H:Nat->Option (Obj E))(ρ:Operand->Value)(o:Oper){R:Type}(k:SV E->Up E->Option R)(r:R):Prop:=∃s v up g',k s up=some r/\g.Le g'/\(∀i,i≠nx->g' i=g i)/\RV P E z g' s v/\(∀w',I w'->(execOp ρ o).run P w' = .ok (.value v) w')/\UpOK P E g g' H up
section
variable{L:Nat->Option (SV E)}{H:Nat->Option (Obj E)}{ρ:Operand->Value}{W w0:World}{I:World->Prop}{o:Oper}{R:Type}{k:SV E->Up E->Option R}{r:R}{Bs:List Nat}{F0:Nat->Prop}{nx:Nat}
theorem Good.plain{s:SV E}{v:Value}(hk:k s none=some r)(hv:RV P E z g s v)(hr:∀w',(execOp ρ o).run P w' = .ok (.value v) w'):Good P E z g nx I H ρ o k r :=
 ⟨s,v,none,g,hk,Ga.Le.refl g,λ_ _=>rfl,hv,λw' _=>hr w',rfl⟩
def ρS(E:TE)(L:Nat->Option (SV E))(x:Operand):Value:=((opS E L x).bind SV.val?).getD undef
def knownS(E:TE)(L:Nat->Option (SV E)):List Operand->Bool
 | []=>true
 | x::l=>(match(opS E L x).bind SV.val? with|some _=>true|none=>false)&&knownS E L l
theorem ms_(hρ:OpR P E z g L ρ):∀{l:List Operand},knownS E L l=true->∀x∈l,ρ x=ρS E L x
 | [],_,x,hx=>by cases hx
 | y::l,h,x,hx=>by
  simp only[knownS,qAn]at h;rcases List.mem_cons.1 hx with rfl|hx
  .cases hs:opS E L x with
   | none=>rw[hs]at h;simp at h
   | some s =>
    rw[hs]at h;cases hv:s.val? with
    | none=>rw[Option.bind_some,hv]at h;simp at h
    | some u=>rw[SV.val_ok hv (hρ x s hs)];simp[ρS,hs,hv]
  .exact ms_ hρ h.2 x hx
def fC_(P:Program)(E:TE)(L:Nat->Option (SV E))(o:Oper){R:Type}(k:SV E->Up E->Option R):Option R :=
 match knownS E L o.op.operands.toList && !isSelect o.op with
 | true=>match bH_ P (execOp (ρS E L) o)with
  | some (.value v)=>match constV E v with
   | some s=>k s none
   | none=>none
  | _=>none
 | false=>none
theorem dU_(hρ:OpR P E z g L ρ)(h:fC_ P E L o k=some r):Good P E z g nx I H ρ o k r:=by
 unfold fC_ at h;split at h
 .rename_i hk;simp only[qAn,Bool.not_eq_true']at hk;have hc:execOp ρ o=execOp (ρS E L) o:=by
   refine execOp_congr o (λcs b e => ?_) λx hx => ?_
   .rw[e]at hk;simp[isSelect]at hk
   .exact ms_ hρ hk.1 x (by simpa using hx)
  split at h
  .rename_i v hv;split at h
   .rename_i s hs;exact .plain h (constV_ok hs) λw'=>by rw[hc];exact ct_ hv w'
   .cases h
  .cases h
 .cases h
def qMove(E:TE)(L:Nat->Option (SV E))(x:Operand){R:Type}(k:SV E->Up E->Option R):Option R:=match opS E L x with|some s=>k s none|none=>none
theorem ie_{x:Operand}(ho:o.op = .move x\/o.op = .assign x)(hρ:OpR P E z g L ρ)(h:qMove E L x k=some r):Good P E z g nx I H ρ o k r:=by
 unfold qMove at h;split at h
 .rename_i s hs;refine .plain h (hρ x s hs) λw' => ?_
  unfold execOp;rcases ho with ho|ho<;>rw[ho]<;>rfl
 .cases h
def SC.sure:SC E->Bool | .ptr .. | .elo .. | .elf .. => true | .fn1 .. | .fn2 .. | .clo .. => true|_=>false
def qNil(E:TE)(L:Nat->Option (SV E))(x:Operand){R:Type}(k:SV E->Up E->Option R):Option R:=match opS E L x with
 | some (.v (.one c))=>match c.sure with
  | true=>k (.v (.one c)) none
  | false=>none
 | _=>none
theorem qNil_ok{x:Operand}(ho:o.op = .nilCheck x)(hρ:OpR P E z g L ρ)(h:qNil E L x k=some r):Good P E z g nx I H ρ o k r:=by
 unfold qNil at h;split at h
 .rename_i c hs;split at h
  .rename_i hc;have hr:=hρ x _ hs;refine .plain h hr λw' => ?_
   unfold execOp;rw[ho];simp only;generalize ρ x=v at hr;cases c with
   | ptr id off=>obtain⟨l,_,rfl⟩:=hr;rfl
   | elo id q i off=>obtain⟨l,_,_,rfl⟩:=hr;rfl
   | elf t y off=>obtain⟨b,q,rr,rfl,_⟩:=hr;rfl
   | fn1 a q f=>obtain⟨fid,caps,rfl,_⟩:=hr;rfl
   | fn2 a b q f=>obtain⟨fid,caps,rfl,_⟩:=hr;rfl
   | clo f caps=>obtain⟨us,rfl,_⟩:=hr;rfl
   | _=>cases hc
  .cases h
 .cases h
def if_(E:TE)(L:Nat->Option (SV E))(x:Operand)(i:Nat){R:Type}(k:SV E->Up E->Option R):Option R:=match opS E L x with
 | some (.tup l)=>match l[i]? with
  | some y=>k (.v y) none
  | none=>none
 | _=>none
theorem k2_{x:Operand}{i:Nat}(ho:o.op = .extract x i)(hρ:OpR P E z g L ρ)(h:if_ E L x i k=some r):Good P E z g nx I H ρ o k r:=by
 unfold if_ at h;split at h
 .rename_i l hs;split at h
  .rename_i y hy;obtain⟨vs,e,hr⟩:=hρ x _ hs;obtain⟨u,hu,hru⟩:=hr.get hy;refine .plain h (v:=u) hru λw' => ?_
   unfold execOp;rw[ho];simp only[e];simp[Instr.extract,hu]
  .cases h
 .cases h
def loadC(P:Program)(T:TypeId)(l:List (SC E))(off:Nat):Option (V1 E) :=
 match aggB P T,as_ P T with
 | some true,some n=>match Nat.ble (off+n) l.length with|true=>some (.agg ((l.drop off).take n))|false=>none
 | some false,_=>match l[off]? with|some c=>some (.one c)|none=>none
 | _,_=>none
theorem lI_{T:TypeId}{l:List (SC E)}{off:Nat}{x:V1 E}{vs:List Value}(h:loadC P T l off=some x)(hl:All2 (RC P E z g) l vs):∃v,eF_ P T vs off=some v/\R1 P E z g x v:=by
 unfold loadC at h;unfold eF_;cases ha:aggB P T with
 | none=>rw[ha]at h;cases h
 | some b =>
  rw[ha]at h;cases b with
  | true =>
   cases hn:as_ P T with
   | none=>rw[hn]at h;cases h
   | some n =>
    rw[hn]at h;have hn':(P.info? T).map (·.size)=some n:=hn;rw[hn'];simp only at h ⊢;rw[←hl.len];split at h
    .rename_i hb;obtain rfl:=qSj h;rw[hb];exact⟨_,rfl,_,rfl,(hl.drop off).take n⟩
    .cases h
  | false =>
   simp only at h ⊢;split at h
   .rename_i c hc;obtain rfl:=qSj h;obtain⟨u,hu,hr⟩:=hl.get hc;exact⟨u,hu,hr⟩
   .cases h
theorem part_run{T:TypeId}{vs:List Value}{off:Nat}{v:Value}(h:eF_ P T vs off=some v)(w:World):(part T vs.toArray off).run P w = .ok v w:=by
 unfold eF_ at h;cases ha:aggB P T with
 | none=>rw[ha]at h;cases h
 | some b =>
  rw[ha]at h;cases b with
  | true =>
   cases hi:P.info? T with
   | none=>simp[hi]at h
   | some i =>
    simp only[hi,Option.map_some]at h;split at h
    .rename_i hb;obtain rfl:=qSj h;simp[part,Sem.run_bind,f1_ ha,sizeOf,typeInfo,hi]
    .cases h
  | false =>
   simp only at h;simp[part,Sem.run_bind,f1_ ha,h]
def qField(P:Program)(E:TE)(L:Nat->Option (SV E))(T:TypeId)(x:Operand)(f:Nat){R:Type}(k:SV E->Up E->Option R):Option R :=
 match P.underlying T,opS E L x with
 | some (.struct fs),some (.v (.agg l))=>match fs[f]? with
  | some q=>match loadC P q.type l q.offset with
   | some y=>k (.v y) none
   | none=>none
  | none=>none
 | _,_=>none
theorem qField_ok{x:Operand}{T:TypeId}{f:Nat}(ho:o.op = .field T x f)(hρ:OpR P E z g L ρ)(h:qField P E L T x f k=some r):Good P E z g nx I H ρ o k r:=by
 unfold qField at h;split at h
 .rename_i fs l hu hs;split at h
  .rename_i q hq;split at h
   .rename_i y hy;obtain⟨vs,e,hr⟩:=hρ x _ hs;obtain⟨v,hv,hrv⟩:=lI_ hy hr;refine .plain h (v:=v) hrv λw' => ?_
    unfold execOp;rw[ho];simp only[e];simp[Instr.field,run_underlying hu,hq,asAgg,part_run hv]
   .cases h
  .cases h
 .cases h
def behind(E:TE)(H:Nat->Option (Obj E)):SC E->Option (List (SC E)×Nat)
 | .ptr id off=>match H id with
  | some (.box _ cs)=>some (cs,off)
  | some (.fb t x)=>some (E.cells t x,off)
  | _=>none
 | .elo id q _ off=>match H id with
  | some (.row _ t _ foc)=>match foc.find? λp=>Nat.beq p.1 q with
   | some p=>some (E.cells t p.2.2,off)
   | none=>none
  | _=>none
 | .elf t x off=>some (E.cells t x,off)
 | _=>none
theorem behind_ok{c:SC E}{l:List (SC E)}{off:Nat}{v:Value}(hH:HR P E Bs F0 w0 W z g H)(h:behind E H c=some (l,off))(hr:RC P E z g c v) :
  ∃b base vs,v = .pointer (some ⟨b,base+off,none⟩)/\All2 (RC P E z g) l vs/\∀w',Stands z g H W w'->∀j u,vs[j]? = some u->w'.cell? ⟨b,base+j,none⟩=some u:=by
 cases c with
 | ptr id off' =>
  simp only[behind]at h;split at h
  .rename_i T cs hb;simp only[qOi,Prod.mk.injEq]at h;obtain⟨rfl,rfl⟩:=h;obtain⟨lo,h1,rfl⟩:=hr;refine⟨lo.b,0,?_⟩;obtain⟨lo',vs,h2,h3,h4⟩:=hH.hold _ _ hb;rw[h1]at h2;obtain rfl:=qSj h2;refine⟨vs,by rw[Nat.zero_add],h4,λw' hx j u hu => ?_⟩;have hh:w'.heap[lo.b]? = some (.cells vs.toArray T (0,0)):=by rw[hx.2 _ _ _ hb ⟨lo,h1,rfl⟩];exact h3
   rw[Nat.zero_add,cell_of_row w' lo.b j vs.toArray T (0,0) hh];simpa using hu
  .rename_i t x hb;simp only[qOi,Prod.mk.injEq]at h;obtain⟨rfl,rfl⟩:=h;obtain⟨lo,h1,rfl⟩:=hr;obtain⟨lo',rr,h2,hF,hrd,hcell⟩:=hH.hold _ _ hb;rw[h1]at h2;obtain rfl:=qSj h2;refine⟨lo.b,0,rr,by rw[Nat.zero_add],cells_rd.1 hrd,λw' hx j u hu => ?_⟩;rw[Nat.zero_add,World.cell?_of_block (w:=z.w) (hx.1 lo.b hF).2];exact hcell j u hu
  .cases h
 | elo id q ii off' =>
  simp only[behind]at h;split at h
  .rename_i e t xs foc hb;split at h
   .rename_i p hp;simp only[qOi,Prod.mk.injEq]at h;obtain⟨rfl,rfl⟩:=h;obtain⟨lq,h1,_,rfl⟩:=hr;obtain⟨lo,rows,h2,hn,hc,hown,hlen,hrl,hrows,hfoc⟩:=hH.hold _ _ hb;have hpi:p.1=q:=qNb (by simpa using List.find?_some hp);obtain⟨hg,lq',o',h3,hA,hln,_⟩:=hfoc p (List.mem_of_find?_eq_some hp);rw[hpi,h1]at h3;obtain rfl:=qSj h3;obtain⟨h0,hx,hlt⟩:=cE_ hg;have hil:p.2.1.toNat<rows.length:=by rw[hlen,hn];exact hlt
    have hrd:=hrows p.2.1.toNat p.2.2 _ hx (List.getElem?_eq_getElem hil);have hs:=cD_ (w:=W) (e:=e) (cap:=lo.cap) ⟨hown,hlen,hrl⟩;obtain⟨b',off2,hA',_,hcell⟩:=hs.2 (by omega);rw[hA]at hA';simp only[qOi,Addr.mk.injEq]at hA';obtain⟨rfl,rfl,_⟩:=hA';refine⟨lq.b,lq.n,_,rfl,cells_rd.1 hrd,λw' hx' j u hu => ?_⟩;rw[World.cell?_of_block (w:=W) (hx'.2 _ _ lq.b hb ⟨lo,_,h2,hA,rfl⟩),hln];exact(hcell p.2.1.toNat _ (List.getElem?_eq_getElem hil)).2 j u hu
   .cases h
  .cases h
 | elf t x off' =>
  simp only[behind,qOi,Prod.mk.injEq]at h;obtain⟨rfl,rfl⟩:=h;obtain⟨b,q,rr,rfl,hF,hrd,hcell⟩:=hr;refine⟨b,q,rr,rfl,cells_rd.1 hrd,λw' hx' j u hu => ?_⟩;have hz:=hx'.1 b hF;rw[World.cell?_of_block (w:=z.w) hz.2];exact hcell j u hu
 | _=>cases h
def dtsC(κ : IntKind):List (SC E)->Option (List Int)
 | []=>some []
 | .dt (.int κ') n::l=>match decide (κ' = κ),dtsC κ l with
  | true,some r=>some (n::r)
  | _,_=>none
 | _=>none
theorem lJ_{κ : IntKind}:∀{l:List (SC E)} {xs:List Int} {vs:List Value} {i:Nat} {x:Int},dtsC κ l=some xs->All2 (RC P E z g) l vs->xs[i]? = some x->vs[i]? = some (.int κ x)
 | [],xs,vs,i,x,h,_,hx=>by simp only[dtsC,qOi]at h;subst h;simp at hx
 | c :: l,xs,vs,i,x,h,hr,hx=>by
  cases hr with
  | cons h1 h2 =>
   unfold dtsC at h;split at h
   .rename_i hx;cases hx
   .rename_i κ' n l' e1;injection e1 with e1 e2;subst e1;subst e2;split at h
    .rename_i r hk hr';simp only[decide_eq_true_eq]at hk;subst hk;obtain rfl:=qSj h;cases i with
     | zero =>
      simp only[List.getElem?_cons_zero,qOi]at hx;subst hx;obtain⟨vs',e,_⟩:=RD.int_inv (h1:RD E z _ _ [_]);simp only[List.cons.injEq]at e;simp[e.1]
     | succ i =>
      simp only[List.getElem?_cons_succ]at hx ⊢;exact lJ_ hr' h2 hx
    .cases h
   .cases h
def kA_(E:TE)(H:Nat->Option (Obj E)):SC E->Option (List (SC E)×Int)
 | .pix id i=>match H id with
  | some (.box _ cs)=>some (cs,i)
  | _=>none
 | .efx t x i=>some (E.cells t x,i)
 | _=>none
theorem behindI_ok{c:SC E}{l:List (SC E)}{i:Int}{v:Value}(hH:HR P E Bs F0 w0 W z g H)(h:kA_ E H c=some (l,i))(hr:RC P E z g c v) :
  ∃b base vs,v = .pointer (some ⟨b,base+i.toNat,none⟩)/\All2 (RC P E z g) l vs/\∀w',Stands z g H W w'->∀j u,vs[j]? = some u->w'.cell? ⟨b,base+j,none⟩=some u:=by
 cases c with
 | pix id i' =>
  simp only[kA_]at h;split at h
  .rename_i T cs hb;simp only[qOi,Prod.mk.injEq]at h;obtain⟨rfl,rfl⟩:=h;obtain⟨lo,h1,rfl⟩:=hr;refine⟨lo.b,0,?_⟩;obtain⟨lo',vs,h2,h3,h4⟩:=hH.hold _ _ hb;rw[h1]at h2;obtain rfl:=qSj h2;refine⟨vs,by rw[Nat.zero_add],h4,λw' hx j u hu => ?_⟩;have hh:w'.heap[lo.b]? = some (.cells vs.toArray T (0,0)):=by rw[hx.2 _ _ _ hb ⟨lo,h1,rfl⟩];exact h3
   rw[Nat.zero_add,cell_of_row w' lo.b j vs.toArray T (0,0) hh];simpa using hu
  .cases h
 | efx t x i' =>
  simp only[kA_,qOi,Prod.mk.injEq]at h;obtain⟨rfl,rfl⟩:=h;obtain⟨b,q,rr,rfl,hF,hrd,hcell⟩:=hr;refine⟨b,q,rr,rfl,cells_rd.1 hrd,λw' hx' j u hu => ?_⟩;rw[World.cell?_of_block (w:=z.w) (hx'.1 b hF).2];exact hcell j u hu
 | _=>cases h
def qLoadI(P:Program)(E:TE)(H:Nat->Option (Obj E))(T:TypeId)(c:SC E){R:Type}(k:SV E->Up E->Option R):Option R :=
 match kA_ E H c,aggB P T with
 | some q,some false=>match dtsC .u32 q.1 with
  | some xs=>Option.bind (af_ xs q.2) λy=>k (.v (.one (.dt (.int .u32) y))) none
  | none=>none
 | _,_=>none
def qLoad(P:Program)(E:TE)(L:Nat->Option (SV E))(H:Nat->Option (Obj E))(T:TypeId)(x:Operand){R:Type}(k:SV E->Up E->Option R):Option R :=
 match opS E L x with
 | some (.v (.one c))=>match behind E H c with
  | some (l,off)=>match loadC P T l off with
   | some y=>k (.v y) none
   | none=>none
  | none=>qLoadI P E H T c k
 | _=>none
theorem qLoad_ok{x:Operand}{T:TypeId}(ho:o.op = .load T x)(hρ:OpR P E z g L ρ)(hH:HR P E Bs F0 w0 W z g H)(hI:∀w',I w'->Stands z g H W w')(h:qLoad P E L H T x k=some r):Good P E z g nx I H ρ o k r:=by
 unfold qLoad at h;split at h
 .rename_i c hs;split at h
  .rename_i l off hb;split at h
   .rename_i y hy;obtain⟨b,base,vs,hv,hl,hc⟩:=behind_ok hH hb (hρ x _ hs);obtain⟨v,hlv,hrv⟩:=lI_ hy hl;exact⟨_,v,none,g,h,Ga.Le.refl g,λ_ _=>rfl,hrv,λw' hx=>run_load ho hv (ha_ hlv (hc w' (hI w' hx))),rfl⟩
   .cases h
  .unfold qLoadI at h;split at h
   .rename_i q hb ha;split at h
    .rename_i xs hxs;obtain⟨y,hy,h⟩:=bind_some h;obtain⟨h0,hyx,hlt⟩:=cE_ hy;obtain⟨b,base,vs,hv,hl,hc⟩:=behindI_ok hH hb (hρ x _ hs);have hu:=lJ_ hxs hl hyx;refine⟨_,.int .u32 y,none,g,h,Ga.Le.refl g,λ_ _=>rfl,.int .nil,λw' hx=>run_load ho hv (ha_ (cs:=vs) ?_ (hc w' (hI w' hx))),rfl⟩;unfold eF_;rw[ha];exact hu
    .cases h
   .cases h
 .cases h
end
end
noncomputable section
variable{P:Program}{E:TE}{z:Fz}{g:Ga}{nx:Nat}
variable{L:Nat->Option (SV E)}{H:Nat->Option (Obj E)}{ρ:Operand->Value}{W w0:World}{I:World->Prop}{o:Oper}{R:Type}{k:SV E->Up E->Option R}{r:R}{Bs:List Nat}{F0:Nat->Prop}
theorem Good.mk'{s:SV E}{v:Value}(hk:k s none=some r)(hv:RV P E z g s v)(hr:∀w',I w'->(execOp ρ o).run P w' = .ok (.value v) w'):Good P E z g nx I H ρ o k r :=
 ⟨s,v,none,g,hk,Ga.Le.refl g,λ_ _=>rfl,hv,hr,rfl⟩
def lK_(P:Program)(T:TypeId)(f:Nat):Option Nat :=
 match P.underlying T with
 | some (.struct fs)=>match fs[f]? with
  | some q=>match as_ P q.type with
   | some (_+1)=>some q.offset
   | _=>none
  | none=>none
 | _=>none
theorem fieldAt_run{T:TypeId}{f n b off:Nat}(h:lK_ P T f=some n)(w:World):(Instr.fieldAt T (.pointer (some ⟨b,off,none⟩)) f).run P w = .ok (.pointer (some ⟨b,off+n,none⟩)) w:=by
 unfold lK_ at h;split at h
 .rename_i fs hu;split at h
  .rename_i q hq;split at h
   .rename_i m hm;obtain rfl:=qSj h;unfold as_ at hm;cases hi:P.info? q.type with
    | none=>simp[hi]at hm
    | some i =>
     have hs:i.size=m+1:=by simpa[hi]using hm
     simp[Instr.fieldAt,run_underlying hu,hq,Instr.sureAddr,fieldPlace,sizeOf,typeInfo,hi,hs,Addr.add_mk]
   .cases h
  .cases h
 .cases h
def SC.shift(n:Nat):SC E->Option (SC E) | .ptr id off=>some (.ptr id (off+n)) | .elo id q i off=>some (.elo id q i (off+n)) | .elf t x off=>some (.elf t x (off+n))|_=>none
theorem SC.shift_ok{n:Nat}{c c':SC E}{v:Value}(h:c.shift n=some c')(hr:RC P E z g c v):∃b off,v = .pointer (some ⟨b,off,none⟩)/\RC P E z g c' (.pointer (some ⟨b,off+n,none⟩)):=by
 unfold SC.shift at h;split at h
 .obtain rfl:=qSj h;obtain⟨l,h1,rfl⟩:=hr;exact⟨_,_,rfl,l,h1,rfl⟩
 .obtain rfl:=qSj h;obtain⟨l,h1,h2,rfl⟩:=hr;exact⟨_,_,rfl,l,h1,h2,by rw[Nat.add_assoc]⟩
 .obtain rfl:=qSj h;obtain⟨b,q,rr,rfl,h2⟩:=hr;exact⟨_,_,rfl,b,q,rr,by rw[Nat.add_assoc],h2⟩
 .cases h
def fD_(P:Program)(E:TE)(L:Nat->Option (SV E))(T:TypeId)(x:Operand)(f:Nat){R:Type}(k:SV E->Up E->Option R):Option R :=
 match opS E L x,lK_ P T f with
 | some (.v (.one c)),some n=>match c.shift n with
  | some c'=>k (.v (.one c')) none
  | none=>none
 | _,_=>none
theorem iZ_{x:Operand}{T:TypeId}{f:Nat}(ho:o.op = .fieldAddr T x f)(hρ:OpR P E z g L ρ)(h:fD_ P E L T x f k=some r):Good P E z g nx I H ρ o k r:=by
 unfold fD_ at h;split at h
 .rename_i c n hs hn;split at h
  .rename_i c' hc;obtain⟨b,off,hv,hr⟩:=SC.shift_ok hc (hρ x _ hs);refine .mk' h (v := .pointer (some ⟨b,off+n,none⟩)) hr λw' _ => ?_
   unfold execOp;rw[ho];simp only[hv];rw[Sem.run_bind,fieldAt_run hn];rfl
  .cases h
 .cases h
def qStr(op:BinOp)(a b:Str){R:Type}(k:SV E->Up E->Option R):Option R:=match op with | .add=>Option.bind (cat a b) λs=>k (.v (.one (.dt .str s))) none | .eql=>k (.v (.one (.dt .bool (a==b)))) none | .neq=>k (.v (.one (.dt .bool (!(a==b))))) none | .lss=>k (.v (.one (.dt .bool (Op.bytesLess a b)))) none | .gtr=>k (.v (.one (.dt .bool (!(Op.bytesLess a b||a==b))))) none | .leq=>k (.v (.one (.dt .bool (Op.bytesLess a b||a==b)))) none | .geq=>k (.v (.one (.dt .bool (!(Op.bytesLess a b))))) none|_=>none
theorem run_str_leq{t yt:TypeId}{x y:Operand}{w:World}(ho:o.op = .binOp .leq t x y yt){a b:Str}(hx:ρ x=S a)(hy:ρ y=S b) :
  (execOp ρ o).run P w = .ok (.value (.bool (Op.bytesLess a b||a==b))) w:=by
 unfold execOp;simp only[ho,hx,hy,S];simp only[eqGuard,binOp,Op.stringOp,ByteArray.toList_mk];rfl
theorem run_str_geq{t yt:TypeId}{x y:Operand}{w:World}(ho:o.op = .binOp .geq t x y yt){a b:Str}(hx:ρ x=S a)(hy:ρ y=S b) :
  (execOp ρ o).run P w = .ok (.value (.bool (!(Op.bytesLess a b)))) w:=by
 unfold execOp;simp only[ho,hx,hy,S];simp only[eqGuard,binOp,Op.stringOp,ByteArray.toList_mk];rfl
theorem qStr_ok{op:BinOp}{t yt:TypeId}{x y:Operand}{a b:Str}(ho:o.op = .binOp op t x y yt)(hx:ρ x=S a)(hy:ρ y=S b)(h:qStr op a b k=some r):Good P E z g nx I H ρ o k r:=by
 unfold qStr at h;split at h
 .obtain⟨s,hs,h⟩:=bind_some h;exact .mk' h (v:=S s) (.str .nil) λw' _=>run_cat ho hx hy hs
 .exact .mk' h (.bool .nil) λw' _=>run_str_eql ho hx hy
 .exact .mk' h (.bool .nil) λw' _=>run_str_neq ho hx hy
 .exact .mk' h (.bool .nil) λw' _=>run_str_lss ho hx hy
 .exact .mk' h (.bool .nil) λw' _=>run_str_gtr ho hx hy
 .exact .mk' h (.bool .nil) λw' _=>run_str_leq ho hx hy
 .exact .mk' h (.bool .nil) λw' _=>run_str_geq ho hx hy
 .cases h
def Operand.isC:Operand->Bool | .const _=>true|_=>false
def qInt(P:Program)(E:TE)(L:Nat->Option (SV E))(o:Oper)(op:BinOp)(y:Operand)(ka:IntKind)(a:Int)(kb:IntKind)(b:Int){R:Type}(k:SV E->Up E->Option R):Option R:=match op,Operand.isC y,decide (ka=kb)with | .quo,false,true=>Option.bind (quoI ka a b) λn=>k (.v (.one (.dt (.int ka) n))) none | .rem,false,true=>Option.bind (remI a b) λn=>k (.v (.one (.dt (.int ka) n))) none | .shl,false,_=>Option.bind (shlI ka a b) λn=>k (.v (.one (.dt (.int ka) n))) none | .shr,false,_=>Option.bind (shrI ka a b) λn=>k (.v (.one (.dt (.int ka) n))) none|_,_,_=>fC_ P E L o k
theorem qInt_ok{op:BinOp}{t yt:TypeId}{x y:Operand}{ka kb:IntKind}{a b:Int}(ho:o.op = .binOp op t x y yt)(hρ:OpR P E z g L ρ)(hx:ρ x = .int ka a)(hy:ρ y = .int kb b)(h:qInt P E L o op y ka a kb b k=some r):Good P E z g nx I H ρ o k r:=by
 unfold qInt at h;split at h
 .rename_i hk;simp only[decide_eq_true_eq]at hk;subst hk;obtain⟨n,hn,h⟩:=bind_some h;exact .mk' h (v := .int ka n) (.int .nil) λw' _=>run_quo ho hx hy hn
 .rename_i hk;simp only[decide_eq_true_eq]at hk;subst hk;obtain⟨n,hn,h⟩:=bind_some h;exact .mk' h (v := .int ka n) (.int .nil) λw' _=>run_rem ho hx hy hn
 .obtain⟨n,hn,h⟩:=bind_some h;exact .mk' h (v := .int ka n) (.int .nil) λw' _=>run_shl ho hx hy hn
 .obtain⟨n,hn,h⟩:=bind_some h;exact .mk' h (v := .int ka n) (.int .nil) λw' _=>run_shr ho hx hy hn
 .exact dU_ hρ h
def SC.data(H:Nat->Option (Obj E))(t:Ty):SC E->Option (Den E.S t)
 | .dt t' x=>if h:t'=t then some (h▸x)else none
 | .nils=>match t with
  | .sl _=>some []
  | _=>none
 | .own id=>match H id with
  | some (.fr e xs)=>if h:Ty.sl e=t then some (h▸xs)else none
  | _=>none
 | .pre id n=>match H id with
  | some (.fr e xs)=>if h:Ty.sl e=t then some (h▸xs.take n.toNat)else none
  | _=>none
 | _=>none
theorem SC.data_ok{t:Ty}{c:SC E}{x:Den E.S t}{v:Value}{w:World}(hH:HR P E Bs F0 w0 w z g H)(h:c.data H t=some x)(hr:RC P E z g c v):RD E z [t] (x,()) [v]:=by
 unfold SC.data at h;split at h
 .split at h
  .rename_i ht;subst ht;obtain rfl:=qSj h;exact hr
  .cases h
 .split at h
  .obtain rfl:=qSj h;simp only[RC]at hr;subst hr;exact RD.sl (xs:=[]) (cap:=0) (SlF.nil _ _ _ _) (Nat.le_refl _) (rows:=[]) (λi x r h=>by simp at h) .nil
  .cases h
 .split at h
  .rename_i e xs hi;split at h
   .rename_i ht;subst ht;obtain rfl:=qSj h;obtain⟨l,h1,rfl⟩:=hr;obtain⟨l',rows,h2,hn,hc,hs,hcap,hrows⟩:=hH.hold _ _ hi;rw[h1]at h2;obtain rfl:=qSj h2;rw[hn];rw[hn]at hcap hs;rw[hc]at hs;exact RD.sl hs hcap hrows .nil
   .cases h
  .cases h
 .rename_i id n;split at h
  .rename_i e xs hi;split at h
   .rename_i ht;subst ht;obtain rfl:=qSj h;obtain⟨l,h1,hle,rfl⟩:=hr;obtain⟨l',rows,h2,hn,hc,hs,hcap,hrows⟩:=hH.hold _ _ hi;rw[h1]at h2;obtain rfl:=qSj h2;rw[hn]at hle hs hcap;rw[hc]at hs;have e1:(xs.take n.toNat).length=n.toNat:=by rw[List.length_take];omega
    have h3:=RD.sl (E:=E) (z:=z) (xs:=xs.take n.toNat) (cap:=l.cap) (rows:=rows.take n.toNat) (A:=l.A) (ts:=[]) (h:=()) (vs:=[]) (by rw[e1];exact hs.take hle) (by rw[e1];omega) (λi x r h1 h2=>by
     rw[List.getElem?_take]at h1 h2;split at h1
     .rename_i hlt;rw[if_pos hlt]at h2;exact hrows i x r h1 h2
     .cases h1) .nil
    rw[e1]at h3;exact h3
   .cases h
  .cases h
 .cases h
def aN_(E:TE)(H:Nat->Option (Obj E)):(ts:List Ty)->List (SC E)->Option (HL E.S ts)
 | [],[]=>some ()
 | t::ts,c::cs=>match c.data H t with
  | none=>none
  | some x=>match aN_ E H ts cs with
   | some h=>some (x,h)
   | none=>none
 | _,_=>none
theorem bI_{w:World}(hH:HR P E Bs F0 w0 w z g H):∀{ts:List Ty} {cs:List (SC E)} {h:HL E.S ts} {vs:List Value},aN_ E H ts cs=some h->All2 (RC P E z g) cs vs->RD E z ts h vs
 | [],[],h,vs,he,hr=>by cases hr;exact .nil
 | t :: ts,c::cs,h,vs,he,hr=>by
  cases hr with
  | cons h1 h2 =>
   simp only[aN_]at he;split at he
   .cases he
   .rename_i x hx;split at he
    .rename_i h' hh;obtain rfl:=qSj he;exact RD.cons (SC.data_ok hH hx h1) (bI_ hH hh h2)
    .cases he
 | [],c::cs,h,vs,he,hr=>by simp[aN_]at he
 | t::ts,[],h,vs,he,hr=>by simp[aN_]at he
def ap_(P:Program)(E:TE)(T n:Nat):Prop:=∀(d:DecidableEq (E.S n)) (x y:E.S n) (l m:List Value),bk_ E (E.cs n) (E.un n x)=some l->bk_ E (E.cs n) (E.un n y)=some m->EqIs P T (.agg l.toArray) (.agg m.toArray) (@decide (x=y) (d x y))
def qEq (E:TE) (H:Nat->Option (Obj E)) (eqs:List (Nat×Nat)) (neg:Bool) (T:TypeId) (l m:List (SC E)) {R:Type} (k:SV E->Up E->Option R):Option R :=
 match eqs.find? λp=>Nat.beq p.1 T with
 | some p=>match aN_ E H (E.cs p.2) l,aN_ E H (E.cs p.2) m,E.deq p.2 with
  | some h,some h',some d=>match bk_ E (E.cs p.2) h,bk_ E (E.cs p.2) h' with
   | some _,some _=>match neg with
    | false=>k (.v (.one (.dt .bool (@decide (E.bd p.2 h=E.bd p.2 h') (d _ _))))) none
    | true=>k (.v (.one (.dt .bool (!(@decide (E.bd p.2 h=E.bd p.2 h') (d _ _)))))) none
   | _,_=>none
  | _,_,_=>none
 | none=>none
theorem qEq_ok{eqs:List (Nat×Nat)}{op:BinOp}{neg:Bool}{t yt:TypeId}{x y:Operand}{l m:List (SC E)}(hop:op=bif neg then .neq else .eql)(ho:o.op = .binOp op t x y yt)(heq:∀p∈eqs,ap_ P E p.1 p.2)(hH:HR P E Bs F0 w0 W z g H)
  (hx:RV P E z g (.v (.agg l)) (ρ x)) (hy:RV P E z g (.v (.agg m)) (ρ y)) (h:qEq E H eqs neg t l m k=some r):Good P E z g nx I H ρ o k r:=by
 unfold qEq at h;split at h
 .rename_i p hp;have hT:p.1=t:=qNb (by simpa using List.find?_some hp);have hf:=heq p (List.mem_of_find?_eq_some hp);split at h
  .rename_i hl hm d h1 h2 h3;split at h
   .rename_i e1 e2 h4 h5;obtain⟨vs,ex,hvx⟩:=hx;obtain⟨us,ey,hvy⟩:=hy;have hrx:=bI_ hH h1 hvx;have hry:=bI_ hH h2 hvy;obtain rfl:=fY_ hrx h4;obtain rfl:=fY_ hry h5;have hE:=hf d (E.bd p.2 hl) (E.bd p.2 hm) vs us (by rw[E.un_bd];exact h4) (by rw[E.un_bd];exact h5);rw[hT]at hE;cases neg with
    | false =>
     simp only at h;subst hop;exact .mk' h (.bool .nil) λw' _=>run_agg_eql ho ex ey hE
    | true =>
     simp only at h;subst hop;exact .mk' h (.bool .nil) λw' _=>run_agg_neq ho ex ey hE
   .cases h
  .cases h
 .cases h
theorem d8_{α R:Type}{xs:List α}{k:Bool->Option R}{r:R}(h:nilB xs k=some r){b:Bool}(hb:xs≠[]->b=false):k b=some r:=by
 cases xs with
 | nil =>
  obtain⟨h1,h2⟩:=both_some h;cases b with
  | true=>exact h1
  | false=>exact h2
 | cons x xs=>rw[hb (by simp)];exact h
theorem lL_(w:World)(d:Nat)(t e:TypeId)(a:Option Addr)(l c:Nat)(h:P.underlying t=some (.slice e)):(Op.equalIn (d+1) t (.slice a l c) (.slice none 0 0)).run P w = .ok a.isNone w:=by
 cases a<;>simp[Op.equalIn,run_underlying h]
theorem hE_(w:World)(t e:TypeId)(a:Option Addr)(l c:Nat)(h:P.underlying t=some (.slice e)):(Op.equal t (.slice a l c) (.slice none 0 0)).run P w = .ok a.isNone w:=lL_ w 9999 t e a l c h
theorem run_eql_snil(w:World)(t e:TypeId)(a:Option Addr)(l c:Nat)(h:P.underlying t=some (.slice e)):(binOp .eql t (.slice a l c) (.slice none 0 0)).run P w = .ok (.bool a.isNone) w:=by
 simp only[binOp];simp[hE_ w t e a l c h]
theorem run_neq_snil(w:World)(t e:TypeId)(a:Option Addr)(l c:Nat)(h:P.underlying t=some (.slice e)):(binOp .neq t (.slice a l c) (.slice none 0 0)).run P w = .ok (.bool (!a.isNone)) w:=by
 simp only[binOp];simp[hE_ w t e a l c h]
theorem dO_{t yt e:TypeId}{x y:Operand}{A:Option Addr}{n cap:Nat}{w:World}(ho:o.op = .binOp .eql t x y yt)(ht:P.underlying t=some (.slice e))(hx:ρ x = .slice A n cap)(hy:ρ y = .slice none 0 0) :
  (execOp ρ o).run P w = .ok (.value (.bool A.isNone)) w:=by
 unfold execOp;simp only[ho,hx,hy];simp[eqGuard,run_eql_snil w t e A n cap ht]
theorem dP_{t yt e:TypeId}{x y:Operand}{A:Option Addr}{n cap:Nat}{w:World}(ho:o.op = .binOp .neq t x y yt)(ht:P.underlying t=some (.slice e))(hx:ρ x = .slice A n cap)(hy:ρ y = .slice none 0 0) :
  (execOp ρ o).run P w = .ok (.value (.bool (!A.isNone))) w:=by
 unfold execOp;simp only[ho,hx,hy];simp[eqGuard,run_neq_snil w t e A n cap ht]
def qNil0(P:Program)(E:TE)(H:Nat->Option (Obj E))(op:BinOp)(T:TypeId)(c:SC E){R:Type}(k:SV E->Up E->Option R):Option R :=
 match op,P.underlying T,c with
 | .eql,some (.slice _),.dt (.sl _) xs=>nilB xs λb=>k (.v (.one (.dt .bool b))) none
 | .neq,some (.slice _),.dt (.sl _) xs=>nilB xs λb=>k (.v (.one (.dt .bool (!b)))) none
 | .eql,some (.slice _),.nils=>k (.v (.one (.dt .bool true))) none
 | .neq,some (.slice _),.nils=>k (.v (.one (.dt .bool false))) none
 | .eql,some (.slice _),.own id=>match H id with
  | some (.row _ _ xs _)=>nilB xs λb=>k (.v (.one (.dt .bool b))) none
  | some (.fr _ xs)=>nilB xs λb=>k (.v (.one (.dt .bool b))) none
  | _=>none
 | .neq,some (.slice _),.own id=>match H id with
  | some (.row _ _ xs _)=>nilB xs λb=>k (.v (.one (.dt .bool (!b)))) none
  | some (.fr _ xs)=>nilB xs λb=>k (.v (.one (.dt .bool (!b)))) none
  | _=>none
 | _,_,_=>none
theorem own_nil{H:Nat->Option (Obj E)}(hH:HR P E Bs F0 w0 W z g H){id:Nat}{v:Value}(hr:RC P E z g (.own id) v):(∀e t xs foc,H id=some (.row e t xs foc)->∃A n cap,v = .slice A n cap/\(xs≠[]->A.isNone=false))/\∀t xs,H id=some (.fr t xs)->∃A n cap,v = .slice A n cap/\(xs≠[]->A.isNone=false):=by
 obtain⟨l,h1,rfl⟩:=hr;refine⟨λe t xs foc hi=>⟨_,_,_,rfl,λhx => ?_⟩,λt xs hi=>⟨_,_,_,rfl,λhx => ?_⟩⟩
 .obtain⟨l',rows,h2,hn,_,hown,_⟩:=hH.hold _ _ hi;rw[h1]at h2;obtain rfl:=qSj h2;rcases hown.2 with⟨_,h3⟩|⟨b,cap,cur,h3,_⟩
  .rw[hn]at h3;exact absurd (List.length_eq_zero_iff.1 h3) hx
  .injection h3 with h4;rw[h4];rfl
 .obtain⟨l',rows,h2,hn,_,hs,_⟩:=hH.hold _ _ hi;rw[h1]at h2;obtain rfl:=qSj h2;have:0<l.n:=by rw[hn];exact List.length_pos_iff.2 hx
  obtain⟨b,off,e,h3,_⟩:=hs.2 this;rw[e];rfl
theorem qNil0_ok{op:BinOp}{t yt:TypeId}{x y:Operand}{c:SC E}(ho:o.op = .binOp op t x y yt)(hH:HR P E Bs F0 w0 W z g H)(hx:RC P E z g c (ρ x))(hy:ρ y = .slice none 0 0)(h:qNil0 P E H op t c k=some r):Good P E z g nx I H ρ o k r:=by
 unfold qNil0 at h;split at h
 .rename_i e xs hu;obtain⟨A,cap,rows,vs',ev,hs,_⟩:=RD.sl_inv hx;injection ev with ev _;refine .mk' (d8_ h (b:=A.isNone) λhne => ?_) (.bool .nil) λw' _=>dO_ ho hu ev hy
  obtain⟨b,off,h3,_⟩:=hs.2 (List.length_pos_iff.2 hne);rw[h3];rfl
 .rename_i e xs hu;obtain⟨A,cap,rows,vs',ev,hs,_⟩:=RD.sl_inv hx;injection ev with ev _;refine .mk' (d8_ h (b:=A.isNone) λhne => ?_) (.bool .nil) λw' _=>dP_ ho hu ev hy
  obtain⟨b,off,h3,_⟩:=hs.2 (List.length_pos_iff.2 hne);rw[h3];rfl
 .rename_i hu;exact .mk' h (.bool .nil) λw' _=>dO_ ho hu hx hy
 .rename_i hu;exact .mk' h (.bool .nil) λw' _=>dP_ ho hu hx hy
 .rename_i id hu;obtain⟨h1,h2⟩:=own_nil hH hx;split at h
  .rename_i hi;obtain⟨A,n,cap,ev,hA⟩:=h1 _ _ _ _ hi;exact .mk' (d8_ h hA) (.bool .nil) λw' _=>dO_ ho hu ev hy
  .rename_i hi;obtain⟨A,n,cap,ev,hA⟩:=h2 _ _ hi;exact .mk' (d8_ h hA) (.bool .nil) λw' _=>dO_ ho hu ev hy
  .cases h
 .rename_i id hu;obtain⟨h1,h2⟩:=own_nil hH hx;split at h
  .rename_i hi;obtain⟨A,n,cap,ev,hA⟩:=h1 _ _ _ _ hi;exact .mk' (d8_ h hA) (.bool .nil) λw' _=>dP_ ho hu ev hy
  .rename_i hi;obtain⟨A,n,cap,ev,hA⟩:=h2 _ _ hi;exact .mk' (d8_ h hA) (.bool .nil) λw' _=>dP_ ho hu ev hy
  .cases h
 .cases h
def qBin(P:Program)(E:TE)(L:Nat->Option (SV E))(H:Nat->Option (Obj E))(eqs:List (Nat×Nat))(o:Oper)(op:BinOp)(T:TypeId)(x y:Operand){R:Type}(k:SV E->Up E->Option R):Option R :=
 match opS E L x,opS E L y with
 | some (.v (.one (.dt (.int ka) a))),some (.v (.one (.dt (.int kb) b)))=>qInt P E L o op y ka a kb b k
 | some (.v (.one (.dt .str a))),some (.v (.one (.dt .str b)))=>qStr op a b k
 | some (.v (.one (.dt .bool a))),some (.v (.one (.dt .bool b)))=>match op,P.underlying T with
  | .eql,some .bool=>k (.v (.one (.dt .bool (a==b)))) none
  | .neq,some .bool=>k (.v (.one (.dt .bool (!(a==b))))) none
  | _,_=>none
 | some (.v (.agg l)),some (.v (.agg m))=>match op with
  | .eql=>qEq E H eqs false T l m k
  | .neq=>qEq E H eqs true T l m k
  | _=>none
 | some (.v (.one c)),some (.v (.one .nils))=>qNil0 P E H op T c k
 | _,_=>none
theorem qBin_ok{eqs:List (Nat×Nat)}{op:BinOp}{t yt:TypeId}{x y:Operand}(ho:o.op = .binOp op t x y yt)(heq:∀p∈eqs,ap_ P E p.1 p.2)(hρ:OpR P E z g L ρ)(hH:HR P E Bs F0 w0 W z g H)(h:qBin P E L H eqs o op t x y k=some r):Good P E z g nx I H ρ o k r:=by
 unfold qBin at h;split at h
 .rename_i ka a kb b hx hy;exact qInt_ok ho hρ (SV.int_ok rfl (hρ x _ hx)) (SV.int_ok rfl (hρ y _ hy)) h
 .rename_i a b hx hy;exact qStr_ok ho (SV.str_ok rfl (hρ x _ hx)) (SV.str_ok rfl (hρ y _ hy)) h
 .rename_i a b hx hy;have e1:=SV.bool_ok rfl (hρ x _ hx);have e2:=SV.bool_ok rfl (hρ y _ hy);split at h
  .rename_i hu;exact .mk' h (.bool .nil) λw' _=>run_bool_eql ho hu e1 e2
  .rename_i hu;exact .mk' h (.bool .nil) λw' _=>run_bool_neq ho hu e1 e2
  .cases h
 .rename_i l m hx hy;split at h
  .exact qEq_ok (neg:=false) rfl ho heq hH (hρ x _ hx) (hρ y _ hy) h
  .exact qEq_ok (neg:=true) rfl ho heq hH (hρ x _ hx) (hρ y _ hy) h
  .cases h
 .rename_i c hx hy;exact qNil0_ok ho hH (hρ x _ hx) (hρ y _ hy) h
 .cases h
theorem run_indexV{t m e:Nat}{x i:Operand}{ki:IntKind}{n:Int}{vs:List Value}{v:Value}{w:World}(ho:o.op = .index t x i)(ht:P.underlying t=some (.array m e))(ha:aggB P e=some false)(hs:as_ P e=some 1)(hx:ρ x = .agg vs.toArray)(hi:ρ i = .int ki n)
  (h0:0<=n) (h1:n<m) (hv:vs[n.toNat]? = some v):(execOp ρ o).run P w = .ok (.value v) w:=by
 unfold as_ at hs;cases hq:P.info? e with
 | none=>simp[hq]at hs
 | some inf =>
  have hs':inf.size=1:=by simpa[hq]using hs
  unfold execOp;simp only[ho,hx,hi];simp[Instr.index,asIntOf,run_underlying ht,sizeOf,typeInfo,hq,hs',h0,h1,part,Sem.run_bind,f1_ ha,hv]
def qIndex(P:Program)(E:TE)(L:Nat->Option (SV E))(T:TypeId)(x i:Operand){R:Type}(k:SV E->Up E->Option R):Option R :=
 match opS E L x,opS E L i,P.underlying T with
 | some (.v (.one (.dt .str s))),some (.v (.one (.dt (.int _) n))),some .string=>Option.bind (aC_ s n) λb=>k (.v (.one (.dt (.int .u8) b))) none
 | some (.v (.agg l)),some (.v (.one (.dt (.int _) n))),some (.array m e)=>match aggB P e,as_ P e,dtsC .u32 l with
  | some false,some 1,some xs=>match Nat.beq xs.length m with
   | true=>Option.bind (af_ xs n) λy=>k (.v (.one (.dt (.int .u32) y))) none
   | false=>none
  | _,_,_=>none
 | _,_,_=>none
theorem qIndex_ok{T:TypeId}{x i:Operand}(ho:o.op = .index T x i)(hρ:OpR P E z g L ρ)(h:qIndex P E L T x i k=some r):Good P E z g nx I H ρ o k r:=by
 unfold qIndex at h;split at h
 .rename_i s ki n hx hi hu;obtain⟨b,hb,h⟩:=bind_some h;exact .mk' h (v := .int .u8 b) (.int .nil) λw' _=>run_byteI ho hu (SV.str_ok rfl (hρ x _ hx)) (SV.int_ok rfl (hρ i _ hi)) hb
 .rename_i l ki n m e hx hi hu;split at h
  .rename_i xs ha hs hxs;split at h
   .rename_i hm;obtain rfl:=qNb hm;obtain⟨y,hy,h⟩:=bind_some h;obtain⟨h0,hyx,hlt⟩:=cE_ hy;obtain⟨vs,ev,hr⟩:=hρ x _ hx;have hv:=lJ_ hxs hr hyx;exact .mk' h (v := .int .u32 y) (.int .nil) λw' _=>run_indexV ho hu ha hs ev (SV.int_ok rfl (hρ i _ hi)) h0 (by omega) hv
   .cases h
  .cases h
 .cases h
end
section
def ckFs(P:Program)(f:TypeId->Value->Bool)(cs:Array Value):List Field->Bool
 | []=>true
 | g::fs=>(match bH_ P (part g.type cs g.offset)with|some v=>f g.type v|none=>false)&&ckFs P f cs fs
def ckV(P:Program):Nat->TypeId->Value->Bool
 | 0,_,_=>false
 | n+1,K,v=>match P.underlying K,v with
  | some (.int _),.int _ _=>true
  | some .bool,.bool _=>true
  | some .string,.string _=>true
  | some (.struct fs),.agg cs=>ckFs P (ckV P n) cs fs.toList
  | _,_=>false
theorem ckFs_run{P:Program}{f:TypeId->Value->Bool}{d:Nat}{b:Bool}{w:World}(hf:∀K v,f K v=true->(Instr.checkKey b d K v).run P w = .ok () w){cs:Array Value}:∀{fs:List Field},ckFs P f cs fs=true ->
  (forIn (m := Sem) fs PUnit.unit fun g (_ : PUnit) => if g.name ≠ "_" then (do Instr.checkKey b d g.type (← part g.type cs g.offset); pure (ForInStep.yield PUnit.unit)) else pure (ForInStep.yield PUnit.unit)).run P w = .ok PUnit.unit w
 | [],_=>rfl
 | g::fs,h=>by
  simp only[ckFs,qAn]at h;have ih:=ckFs_run hf h.2;cases hp:bH_ P (part g.type cs g.offset)with
  | none=>rw[hp]at h;cases h.1
  | some v =>
   rw[hp]at h;rw[List.forIn_cons,Sem.run_bind]
   by_cases hn : g.name ≠ "_"
   .rw[if_pos hn];simp only[Sem.run_bind,ct_ hp w,Result.andThen_ok,hf _ _ h.1,Sem.run_pure];exact ih
   .rw[if_neg hn];simp only[Sem.run_pure,Result.andThen_ok];exact ih
theorem hF_{P:Program}{b:Bool}{w:World}:∀{n d:Nat} {K:TypeId} {v:Value},ckV P n K v=true->(Instr.checkKey b (d+n) K v).run P w = .ok () w
 | 0,_,_,_,h=>by cases h
 | n+1,d,K,v,h=>by
  simp only[ckV]at h;rw[←Nat.add_assoc];split at h
  .rename_i hu;unfold Instr.checkKey;simp only[Sem.run_bind,run_underlying hu,Result.andThen_ok,Sem.run_pure]
  .rename_i hu;unfold Instr.checkKey;simp only[Sem.run_bind,run_underlying hu,Result.andThen_ok,Sem.run_pure]
  .rename_i hu;unfold Instr.checkKey;simp only[Sem.run_bind,run_underlying hu,Result.andThen_ok,Sem.run_pure]
  .rename_i fs cs hu;have:=ckFs_run (b:=b) (w:=w) (d:=d+n) (λK v h=>hF_ (n:=n) (d:=d) h) h;unfold Instr.checkKey;simp only[Sem.run_bind,run_underlying hu,Result.andThen_ok];rw[←Array.forIn_toList];exact(congrArg (λ(r:Result PUnit)=>r.andThen λ_ w'=>Sem.run P (pure ()) w') this).trans rfl
  .cases h
variable{P:Program}{E:TE}
def eqB(E:TE):(t:Ty)->Option (Den E.S t->Den E.S t->Bool)
 | .int _=>some λ(a b:Int)=>a==b
 | .bool=>some λ(a b:Bool)=>a==b
 | .str=>some λ(a b:Str)=>a==b
 | .st n=>match E.deq n with
  | some d=>some λa b => @decide (a=b) (d a b)
  | none=>none
 | .sl _=>none
theorem hG_{t:Ty}{eq:Den E.S t->Den E.S t->Bool}(h:eqB E t=some eq)(x y:Den E.S t):eq x y=true↔x=y:=by
 cases t with
 | int k=>obtain rfl:=qSj h;show((x:Int)==y)=true↔_;exact beq_iff_eq
 | bool=>obtain rfl:=qSj h;show((x:Bool)==y)=true↔_;exact beq_iff_eq
 | str=>obtain rfl:=qSj h;show((x:Str)==y)=true↔_;exact beq_iff_eq
 | sl t=>cases h
 | st n =>
  simp only[eqB]at h;split at h
  .obtain rfl:=qSj h;exact decide_eq_true_iff
  .cases h
def keyV (P:Program) (E:TE) (eqs:List (Nat×Nat)) (K:TypeId) (t:Ty) (x:Den E.S t):Option Value :=
 match t,P.underlying K with
 | .int k,some (.int k')=>match decide (k=k')with
  | true=>aU_ E (.int k) x
  | false=>none
 | .bool,some .bool=>aU_ E .bool x
 | .str,some .string=>aU_ E .str x
 | .st n,some (.struct _)=>match eqs.find? λp=>Nat.beq p.1 K with
  | some p=>match Nat.beq p.2 n,aU_ E (.st n) x with
   | true,some v=>match ckV P 20 K v with
    | true=>some v
    | false=>none
   | _,_=>none
  | none=>none
 | _,_=>none
structure KeyIs(P:Program)(E:TE)(K:TypeId)(t:Ty)(eq:Den E.S t->Den E.S t->Bool)(x:Den E.S t)(v:Value):Prop where
 val:aU_ E t x=some v
 chk:∀b w,(Instr.checkKey b 10000 K v).run P w = .ok () w
 find:∀{vt:Ty} {ks:List (Den E.S t)} {vs:List (Den E.S vt)} {es:Array MapEntry} (w:World),MapR E t vt ks vs es.toList->(Instr.findKey K v es.toList).run P w = .ok (foundAt es (aJ_ eq x ks)) w
 same:Instr.sameBits 10000 v v=true
theorem lM_{d:TypeDesc}{t vt:Ty}{eq:Den E.S t->Den E.S t->Bool}{x:Den E.S t}{kv:Value}(hs:∀y v,aU_ E t y=some v->Instr.sameNow d kv v=some (eq x y)){ks:List (Den E.S t)}{vs:List (Den E.S vt)}{es:List MapEntry}(h:MapR E t vt ks vs es) :
  ∀i,Instr.findNow d kv es i=some (match aJ_ eq x ks with|some j=>(es[j]?).map λe=>(i+j,e.val)|none=>none):=by
 induction h with
 | nil=>intro i;rfl
 | cons hk hv _ ih =>
  intro i;simp only[Instr.findNow,hs _ _ hk,aJ_];cases eq x _ with
  | true=>rfl
  | false =>
   simp only[ih (i+1)];cases aJ_ eq x _ with
   | none=>rfl
   | some j =>
    simp only[List.getElem?_cons_succ];rw[show i+1+j=i+(j+1)by omega]
theorem find_ask{K:TypeId}{t vt:Ty}{eq:Den E.S t->Den E.S t->Bool}{x:Den E.S t}{kv:Value}(hs:∀y v w,aU_ E t y=some v->(Op.equal K kv v).run P w = .ok (eq x y) w){ks:List (Den E.S t)}{vs:List (Den E.S vt)}{es:List MapEntry}(h:MapR E t vt ks vs es) :
  ∀i w,(Instr.findAsking K kv es i).run P w = .ok (match aJ_ eq x ks with|some j=>(es[j]?).map λe=>(i+j,e.val)|none=>none) w:=by
 induction h with
 | nil=>intro i w;rfl
 | cons hk hv _ ih =>
  intro i w;simp only[Instr.findAsking,Sem.run_bind,hs _ _ w hk,Result.andThen_ok,aJ_];cases eq x _ with
  | true=>rfl
  | false =>
   simp only[Bool.false_eq_true,if_false,ih (i+1)];cases aJ_ eq x _ with
   | none=>rfl
   | some j =>
    simp only[List.getElem?_cons_succ];rw[show i+1+j=i+(j+1)by omega]
theorem ei_{es:Array MapEntry}{ix:Option Nat}:(match ix with|some j=>(es.toList[j]?).map λe=>(0+j,e.val)|none=>none)=foundAt es ix:=by
 cases ix with
 | none=>rfl
 | some j=>simp[foundAt]
theorem gM_:∀{ts:List Ty} {h:HL E.S ts} {l:List Value},bk_ E ts h=some l->(l.zip l).all (λp=>Instr.sameBits 9999 p.1 p.2)=true
 | [],_,l,h=>by obtain rfl:=qSj h;rfl
 | .int k::ts,hh,l,h=>by
  simp only[bk_]at h;split at h
  .rename_i l' hl;obtain rfl:=qSj h;rw[List.zip_cons_cons,List.all_cons,gM_ hl];simp[Instr.sameBits]
  .cases h
 | .bool::ts,hh,l,h=>by
  simp only[bk_]at h;split at h
  .rename_i l' hl;obtain rfl:=qSj h;rw[List.zip_cons_cons,List.all_cons,gM_ hl];simp[Instr.sameBits]
  .cases h
 | .str::ts,hh,l,h=>by
  simp only[bk_]at h;split at h
  .rename_i l' hl;obtain rfl:=qSj h;rw[List.zip_cons_cons,List.all_cons,gM_ hl,Bool.and_true];exact(MapKept.bytes_beq _ _).2 rfl
  .cases h
 | .sl _::ts,hh,l,h=>by simp[bk_]at h
 | .st _::ts,hh,l,h=>by simp[bk_]at h
theorem keyV_ok {eqs:List (Nat×Nat)} (heq:∀p∈eqs,ap_ P E p.1 p.2) {K:TypeId} {t:Ty} {eq:Den E.S t->Den E.S t->Bool} {x:Den E.S t} {v:Value} (he:eqB E t=some eq) (h:keyV P E eqs K t x=some v):KeyIs P E K t eq x v:=by
 unfold keyV at h;split at h
 .rename_i k k' x hu;split at h
  .rename_i hk;obtain rfl:=of_decide_eq_true hk;obtain rfl:=qSj h;obtain rfl:=qSj he;refine⟨rfl,λb w=>hF_ (n:=1) (d:=9999) (by simp only[ckV,hu]),λw hr => ?_,by simp[Instr.sameBits]⟩;refine(MapKept.run_findKey hu (lM_ (eq:=λ(a b:Int)=>a==b) (x:=x) (λy v hv => ?_) hr 0)).trans (by rw[ei_]);obtain rfl:=qSj hv;simp[Instr.sameNow]
  .cases h
 .rename_i x hu;obtain rfl:=qSj h;obtain rfl:=qSj he;refine⟨rfl,λb w=>hF_ (n:=1) (d:=9999) (by simp only[ckV,hu]),λw hr => ?_,by simp[Instr.sameBits]⟩;refine(MapKept.run_findKey hu (lM_ (eq:=λ(a b:Bool)=>a==b) (x:=x) (λy v hv => ?_) hr 0)).trans (by rw[ei_]);obtain rfl:=qSj hv;rfl
 .rename_i x hu;obtain rfl:=qSj h;obtain rfl:=qSj he;refine⟨rfl,λb w=>hF_ (n:=1) (d:=9999) (by simp only[ckV,hu,S]),λw hr => ?_,(MapKept.bytes_beq _ _).2 rfl⟩;refine(MapKept.run_findKey hu (lM_ (eq:=λ(a b:Str)=>a==b) (x:=x) (λy v hv => ?_) hr 0)).trans (by rw[ei_]);obtain rfl:=qSj hv;simp only[Instr.sameNow,S]
  congr 1
  rw[Bool.eq_iff_iff];refine(MapKept.bytes_beq _ _).trans ⟨λh => ?_,λh => ?_⟩
  .have:=congrArg (λb:ByteArray=>b.data.toList) h;show((x:Str)==y)=true;simpa using this
  .rw[show x=y from by simpa using(show((x:Str)==y)=true from h)]
 .rename_i n fs x hu;split at h
  .rename_i p hp;split at h
   .rename_i v' hn hv;split at h
    .rename_i hc;obtain rfl:=qSj h;have hT:p.1=K:=qNb (by simpa using List.find?_some hp);have hf:=heq p (List.mem_of_find?_eq_some hp);rw[hT,qNb hn]at hf;simp only[eqB]at he;split at he
     .rename_i d hd;obtain rfl:=qSj he;have hval:=hv;simp only[aU_]at hv;split at hv
      .rename_i l hl;obtain rfl:=qSj hv;refine⟨hval,λb w=>hF_ (n:=20) (d:=9980) hc,fun{vt ks vs es} w hr => ?_,?_⟩
       .have hask:=find_ask (P:=P) (K:=K) (eq:=λa b => @decide (a=b) (d a b)) (x:=x) (kv := .agg l.toArray) (λy v w hv=>by
         simp only[aU_]at hv;split at hv
         .rename_i m hm;obtain rfl:=qSj hv;exact(hf d x y l m hl hm).2 w
         .cases hv) hr 0 w
        rw[ei_]at hask;unfold Instr.findKey;simp only[Sem.run_bind,run_underlying hu,Result.andThen_ok];cases hes:es.toList with
        | nil =>
         rw[hes]at hr;cases hr
         simp[Instr.findNow,foundAt,aJ_]
        | cons e r =>
         have hn0:Instr.findNow (.struct fs) (.agg l.toArray) (e::r) 0=none:=by simp[Instr.findNow,Instr.sameNow]
         rw[hn0,←hes];exact hask
       .simp only[Instr.sameBits,beq_self_eq_true,Bool.true_and];exact gM_ hl
      .cases hv
     .cases he
    .cases h
   .cases h
  .cases h
 .cases h
theorem MapR.len{k v:Ty}{ks:List (Den E.S k)}{vs:List (Den E.S v)}{es:List MapEntry}(h:MapR E k v ks vs es):ks.length=es.length/\vs.length=es.length:=by
 induction h with
 | nil=>exact⟨rfl,rfl⟩
 | cons _ _ _ ih=>exact⟨by simp[ih.1],by simp[ih.2]⟩
theorem MapR.get{k v:Ty}{ks:List (Den E.S k)}{vs:List (Den E.S v)}{es:List MapEntry}(h:MapR E k v ks vs es):∀{i:Nat} {e:MapEntry},es[i]? = some e->∃x y,ks[i]? = some x/\vs[i]? = some y/\aU_ E k x=some e.key/\aU_ E v y=some e.val:=by
 induction h with
 | nil=>intro i e h;simp at h
 | @cons x y e ks vs es hk hv _ ih =>
  intro i e' he;cases i with
  | zero=>simp at he;subst he;exact⟨x,y,rfl,rfl,hk,hv⟩
  | succ i=>obtain⟨x',y',h1,h2,h3⟩:=ih (by simpa using he);exact⟨x',y',by simpa using h1,by simpa using h2,h3⟩
theorem MapR.push{k v:Ty}{ks:List (Den E.S k)}{vs:List (Den E.S v)}{es:List MapEntry}(h:MapR E k v ks vs es){x:Den E.S k}{y:Den E.S v}{e:MapEntry}(hk:aU_ E k x=some e.key)(hv:aU_ E v y=some e.val):MapR E k v (ks++[x]) (vs++[y]) (es++[e]):=by
 induction h with
 | nil=>exact .cons hk hv .nil
 | cons h1 h2 _ ih=>exact .cons h1 h2 ih
theorem MapR.set{k v:Ty}{ks:List (Den E.S k)}{vs:List (Den E.S v)}{es:List MapEntry}(h:MapR E k v ks vs es){y:Den E.S v}:∀{i:Nat} {e e':MapEntry},es[i]? = some e->e'.key=e.key->aU_ E v y=some e'.val->MapR E k v ks (vs.set i y) (es.set i e'):=by
 induction h with
 | nil=>intro i e e' h;simp at h
 | @cons x y' e0 ks vs es hk hv h ih =>
  intro i e e' he hkey hval;cases i with
  | zero =>
   simp at he;subst he;exact .cons (by rw[hkey];exact hk) hval h
  | succ i=>exact .cons hk hv (ih (by simpa using he) hkey hval)
theorem kB_{z:Fz}:∀{ts:List Ty} {h:HL E.S ts} {l:List Value},bk_ E ts h=some l->RD E z ts h l
 | [],_,l,h=>by obtain rfl:=qSj h;exact .nil
 | .int k::ts,hh,l,h=>by
  simp only[bk_]at h;split at h
  .rename_i l' hl;obtain rfl:=qSj h;exact .int (kB_ hl)
  .cases h
 | .bool::ts,hh,l,h=>by
  simp only[bk_]at h;split at h
  .rename_i l' hl;obtain rfl:=qSj h;exact .bool (kB_ hl)
  .cases h
 | .str::ts,hh,l,h=>by
  simp only[bk_]at h;split at h
  .rename_i l' hl;obtain rfl:=qSj h;exact .str (kB_ hl)
  .cases h
 | .sl _::ts,hh,l,h=>by simp[bk_]at h
 | .st _::ts,hh,l,h=>by simp[bk_]at h
theorem eH_{z:Fz}{t:Ty}{x:Den E.S t}{u v:Value}(h:aU_ E t x=some u)(hr:RT E z t x v):v=u:=by
 cases t with
 | int k =>
  obtain rfl:=qSj h;obtain⟨vs',e,_⟩:=RD.int_inv (show RD E z [.int k] (x,()) [v]from hr);exact(List.cons.inj e).1
 | bool =>
  obtain rfl:=qSj h;obtain⟨vs',e,_⟩:=RD.bool_inv (show RD E z [.bool] (x,()) [v]from hr);exact(List.cons.inj e).1
 | str =>
  obtain rfl:=qSj h;obtain⟨vs',e,_⟩:=RD.str_inv (show RD E z [.str] (x,()) [v]from hr);exact(List.cons.inj e).1
 | sl t=>cases h
 | st n =>
  obtain⟨vs,rfl,hr⟩:=hr;simp only[aU_]at h;split at h
  .rename_i l hl;obtain rfl:=qSj h;rw[fY_ hr hl]
  .cases h
def datV(E:TE):(t:Ty)->Den E.S t->V1 E | .st n,x => .agg (E.cells (.st n) x)|t,x => .one (.dt t x)
theorem datV_ok{P:Program}{z:Fz}{g:Ga}{t:Ty}{x:Den E.S t}{u:Value}(h:aU_ E t x=some u):R1 P E z g (datV E t x) u:=by
 cases t with
 | int k=>obtain rfl:=qSj h;exact .int .nil
 | bool=>obtain rfl:=qSj h;exact .bool .nil
 | str=>obtain rfl:=qSj h;exact .str .nil
 | sl t=>cases h
 | st n =>
  simp only[aU_]at h;split at h
  .rename_i l hl;obtain rfl:=qSj h;exact⟨l,rfl,cells_rd.1 (kB_ hl)⟩
  .cases h
def keyD(E:TE)(H:Nat->Option (Obj E)):(t:Ty)->V1 E->Option (Den E.S t)
 | .st n,.agg l=>match aN_ E H (E.cs n) l with
  | some h=>some (E.bd n h)
  | none=>none
 | .st _,.one _=>none
 | t,.one c=>c.data H t
 | _,.agg _=>none
theorem eI_{P:Program}{z:Fz}{g:Ga}{w w0:World}{H:Nat->Option (Obj E)}{Bs:List Nat}{F0:Nat->Prop}{t:Ty}{y:V1 E}{x:Den E.S t}{v:Value}(hH:HR P E Bs F0 w0 w z g H)(h:keyD E H t y=some x)(hr:R1 P E z g y v):RT E z t x v:=by
 cases t with
 | st n =>
  cases y with
  | one c=>cases h
  | agg l =>
   simp only[keyD]at h;split at h
   .rename_i hh hl;obtain rfl:=qSj h;obtain⟨vs,rfl,hv⟩:=hr;exact⟨vs,rfl,by rw[E.un_bd];exact bI_ hH hl hv⟩
   .cases h
 | int k=>cases y with|one c=>exact SC.data_ok hH h hr|agg l=>cases h
 | bool=>cases y with|one c=>exact SC.data_ok hH h hr|agg l=>cases h
 | str=>cases y with|one c=>exact SC.data_ok hH h hr|agg l=>cases h
 | sl e=>cases y with|one c=>exact SC.data_ok hH h hr|agg l=>cases h
def zeroX (P:Program) (E:TE) (e:TypeId) (t:Ty):Option (Den E.S t):=match P.info? e with
 | some i=>match i.zero with
  | some zv=>match zv with
   | .agg cs=>match eG_ E cs.toList with
    | some l=>keyD E (λ_=>none) t (.agg l)
    | none=>none
   | zv=>match constC E zv with
    | some c=>keyD E (λ_=>none) t (.one c)
    | none=>none
  | none=>none
 | none=>none
theorem zeroX_ok{P:Program}{z:Fz}{g:Ga}{w w0:World}{H:Nat->Option (Obj E)}{Bs:List Nat}{F0:Nat->Prop}{e:TypeId}{t:Ty}{x:Den E.S t}{u:Value}(hH:HR P E Bs F0 w0 w z g H)(h:zeroX P E e t=some x)(hu:aU_ E t x=some u)(w1:World):(zeroValue e).run P w1 = .ok u w1:=by
 have hH0:HR P E Bs F0 w0 w z g (λ_=>none):=hH.less λ_ _ h=>nomatch h
 unfold zeroX at h;split at h
 .rename_i i hi;split at h
  .rename_i zv hz;have hrun:(zeroValue e).run P w1 = .ok zv w1:=by
    simp[zeroValue,typeInfo,hi,hz]
   rw[hrun];have:zv=u:=by
    split at h
    .rename_i cs;split at h
     .rename_i l hl;have:=eI_ hH0 h (g:=g) (v := .agg cs) ⟨cs.toList,by simp,dm_ hl⟩;exact eH_ hu this
     .cases h
    .split at h
     .rename_i c hc;exact eH_ hu (eI_ hH0 h (g:=g) (v:=zv) (jE_ hc))
     .cases h
   rw[this]
  .cases h
 .cases h
def qLookup (P:Program) (E:TE) (eqs:List (Nat×Nat)) (L:Nat->Option (SV E)) (H:Nat->Option (Obj E)) (T:TypeId) (m x:Operand) {R:Type} (k:SV E->Up E->Option R):Option R :=
 match opS E L m,opS E L x,P.underlying T with
 | some (.v (.one (.mp id))),some (.v y),some (.map K e)=>match H id with
  | some (.map _ kt vt ks vs _)=>match eqB E kt,keyD E H kt y,zeroX P E e vt with
   | some eq,some kx,some zx=>match keyV P E eqs K kt kx,aU_ E vt zx with
    | some _,some _=>k (.v (datV E vt (aF_ eq ks vs kx zx))) none
    | _,_=>none
   | _,_,_=>none
  | _=>none
 | _,_,_=>none
theorem qLookup_ok{P:Program}{z:Fz}{g:Ga}{nx:Nat}{L:Nat->Option (SV E)}{H:Nat->Option (Obj E)}{ρ:Operand->Value}{W w0:World}{I:World->Prop}{o:Oper}{R:Type}{k:SV E->Up E->Option R}{r:R}{Bs:List Nat}{F0:Nat->Prop}{eqs:List (Nat×Nat)}{T:TypeId}{m x:Operand}
  (ho:o.op = .lookup T m x false) (heq:∀p∈eqs,ap_ P E p.1 p.2) (hρ:OpR P E z g L ρ) (hH:HR P E Bs F0 w0 W z g H) (hI:∀w',I w'->Stands z g H W w') (h:qLookup P E eqs L H T m x k=some r):Good P E z g nx I H ρ o k r:=by
 unfold qLookup at h;split at h
 .rename_i id y K e hm hx hu;split at h
  .rename_i T' kt vt ks vs foc hi;split at h
   .rename_i eq kx zx he hk hz;split at h
    .rename_i kv u hkv hzu;have hK:=keyV_ok heq he hkv;have ekv:ρ x=kv:=eH_ hK.val (eI_ hH hk (hρ x _ hx));obtain⟨l,h1,h2⟩:=hρ m _ hm;obtain⟨l',es,c,h3,h4,h5,_⟩:=hH.hold _ _ hi;rw[h1]at h3;obtain rfl:=qSj h3;have hlen:=h5.rel.len;have hlt:∀i,aJ_ eq kx ks=some i->i<es.size:=λi hi=>by
      obtain⟨_,yy,h6,_⟩:=fd_ hi;have:=(List.getElem?_eq_some_iff.1 h6).1;have:=hlen.1;simp at this;omega
     have hrun:∀w',I w'->(Instr.lookup T (.map (some l.b)) kv false).run P w' = .ok (gotV es u (aJ_ eq kx ks)) w':=λw' hw'=>by
      have hb':w'.heap[l.b]? = some (.map es c):=((hI w' hw').2 id _ l.b hi ⟨l,h1,rfl⟩).trans h4;exact run_lookup hu hb' hK.chk (hK.find w' h5.rel) (zeroX_ok hH hz hzu w') hlt
     refine .mk' h (v:=gotV es u (aJ_ eq kx ks)) ?_ λw' hw' => ?_
     .cases hix:aJ_ eq kx ks with
      | none=>rw[ic_ hix];exact datV_ok hzu
      | some i =>
       have hi2:=hlt i hix;have he2:es.toList[i]? = some es[i]:=by simp[hi2]
       obtain⟨_,yv,_,h7,_,h9⟩:=h5.rel.get he2;rw[id_ hix h7];have:((es[i]?).map (·.val)).getD u=es[i].val:=by simp[hi2]
       simp only[gotV,this];exact datV_ok h9
     .unfold execOp;simp only[ho,h2,ekv];rw[Sem.run_bind,hrun w' hw'];rfl
    .cases h
   .cases h
  .cases h
 .cases h
end
section
variable{P:Program}{E:TE}{z:Fz}{g:Ga}{nx:Nat}
variable{L:Nat->Option (SV E)}{H:Nat->Option (Obj E)}{ρ:Operand->Value}{W w0:World}{I:World->Prop}{o:Oper}{R:Type}{k:SV E->Up E->Option R}{r:R}{Bs:List Nat}{F0:Nat->Prop}
structure Li(E:TE) where (t:Ty) (xs:List (Den E.S t))
def SC.fro(H:Nat->Option (Obj E)):SC E->Option (Li E)
 | .dt (.sl t) xs=>some ⟨t,xs⟩
 | .own id=>match H id with
  | some (.fr t xs)=>some ⟨t,xs⟩
  | _=>none
 | _=>none
theorem SlF.stand{c n:Nat}{A:Option Addr}{rows:List (List Value)}{w:World}(h:SlF z.F c A n rows z.w)(hz:z.In w):SlF z.F c A n rows w :=
 ⟨h.1,λhn=>by
  obtain⟨b,off,e,hb,hc⟩:=h.2 hn;exact⟨b,off,e,hb,λi r hr=>⟨(hc i r hr).1,λj u hu=>(World.cell?_of_block (w:=z.w) (hz b hb).2).trans ((hc i r hr).2 j u hu)⟩⟩⟩
theorem SC.fro_ok{c:SC E}{v:Value}{l:Li E}{w:World}(hH:HR P E Bs F0 w0 w z g H)(h:c.fro H=some l)(hr:RC P E z g c v) :
  ∃A cap rows,v = .slice A l.xs.length cap/\SlF z.F (E.size l.t) A l.xs.length rows z.w/\l.xs.length<=cap/\Rows E z l.t l.xs rows:=by
 unfold SC.fro at h;split at h
 .obtain rfl:=qSj h;obtain⟨A,cap,rows,vs',e,hs,hc,hrw,_⟩:=RD.sl_inv (hr:RD E z _ _ [v]);simp at e;exact⟨A,cap,rows,e.1,hs,hc,hrw⟩
 .split at h
  .rename_i t xs hi;obtain rfl:=qSj h;obtain⟨lo,h1,rfl⟩:=hr;obtain⟨l',rows,h2,hn,hc,hs,hcap,hrows⟩:=hH.hold _ _ hi;rw[h1]at h2;obtain rfl:=qSj h2;rw[hn]at hs hcap ⊢;rw[hc]at hs;exact⟨_,_,rows,rfl,hs,hcap,hrows⟩
  .cases h
 .cases h
def ih_ (P:Program) (E:TE) (L:Nat->Option (SV E)) (H:Nat->Option (Obj E)) (nx:Nat) (T:TypeId) (x i:Operand) {R:Type} (k:SV E->Up E->Option R):Option R :=
 match opS E L x,opS E L i,P.underlying T with
 | some (.v (.one c)),some (.v (.one (.dt (.int _) n))),some (.slice e)=>match c.fro H with
  | some l=>match as_ P e with
   | some s=>match Nat.beq s (E.size l.t)with
    | true=>Option.bind (af_ l.xs n) λy=>k (.v (.one (.elf l.t y 0))) none
    | false=>none
   | none=>none
  | none=>match c with
   | .own id=>match H id with
    | some (.row e' t xs foc)=>match as_ P e with
     | some s=>match Nat.beq s (E.size t)with
      | true=>Option.bind (af_ xs n) λy=>k (.v (.one (.elo id nx n 0))) (some (id,.row e' t xs ((nx,n,y)::foc)))
      | false=>none
     | none=>none
    | _=>none
   | _=>none
 | _,_,_=>none
theorem p2_ {T:TypeId} {x i:Operand} (ho:o.op = .indexAddr T x i) (hnx:g nx=none) (hρ:OpR P E z g L ρ) (hH:HR P E Bs F0 w0 W z g H) (hI:∀w',I w'->Stands z g H W w') (h:ih_ P E L H nx T x i k=some r):Good P E z g nx I H ρ o k r:=by
 unfold ih_ at h;split at h
 .rename_i c ki n e hx hi hu;have hv:=hρ x _ hx;have hn:=SV.int_ok rfl (hρ i _ hi);split at h
  .rename_i l hl;split at h
   .rename_i s hs;split at h
    .rename_i hb;obtain rfl:=qNb hb;obtain⟨y,hy,h⟩:=bind_some h;obtain⟨A,cap,rows,ev,hsl,hcap,hrows⟩:=SC.fro_ok hH hl hv;obtain⟨h0,hyx,hlt⟩:=cE_ hy;have hil:n.toNat<rows.length:=by rw[hsl.1];exact hlt
     obtain⟨b,off,rfl,hF,hcell⟩:=hsl.2 (by omega);refine .mk' h (v := .pointer (some ⟨b,off+n.toNat*E.size l.t,none⟩)) ⟨b,off+n.toNat*E.size l.t,_,by rw[Nat.add_zero],hF,hrows n.toNat y _ hyx (List.getElem?_eq_getElem hil),λj u hu=>(hcell n.toNat _ (List.getElem?_eq_getElem hil)).2 j u hu⟩ λw' hw' => ?_
     obtain⟨b',off',e',hrun⟩:=iY_ (P:=P) ho hu hs ev hn (hsl.stand (hI w' hw').1) rfl hy;simp only[qOi,Addr.mk.injEq]at e';obtain⟨rfl,rfl,_⟩:=e';exact hrun
    .cases h
   .cases h
  .split at h
   .rename_i id _;split at h
    .rename_i e' t xs foc hi';split at h
     .rename_i s hs;split at h
      .rename_i hb;obtain rfl:=qNb hb;obtain⟨y,hy,h⟩:=bind_some h;obtain⟨lo,h1,ev⟩:=hv;obtain⟨h0,hyx,hlt⟩:=cE_ hy;have hh:=hH.hold _ _ hi';obtain⟨l',rows,h2,hn2,hc,hown,hlen,hrl,hrows,hfoc⟩:=hh;rw[h1]at h2;obtain rfl:=qSj h2;have hsl:=cD_ (w:=W) (e:=e') (cap:=lo.cap) ⟨hown,hlen,hrl⟩;obtain⟨b,off,hA,_,_⟩:=hsl.2 (by omega);have hle:g.Le (g.put nx ⟨none,off+n.toNat*lo.c,0,0,b,n⟩):=Ga.le_put hnx;refine⟨_,.pointer (some ⟨b,off+n.toNat*lo.c,none⟩),_,_,h,hle,λi hi=>Ga.put_ne _ _ hi,⟨_,Ga.put_self _ _ _,rfl,by rw[Nat.add_zero]⟩,λw' hw' => ?_,?_⟩
       .have hw:=(hI w' hw').hold hH _ _ hi';obtain⟨l2,rows2,h3,hn3,hc3,hown3,hlen3,hrl3,_,_⟩:=hw;rw[h1]at h3;obtain rfl:=qSj h3;have hsl3:=cD_ (w:=w') (e:=e') (cap:=lo.cap) ⟨hown3,hlen3,hrl3⟩;rw[hc]at hsl3;obtain⟨b',off',e2,hrun⟩:=iY_ (P:=P) ho hu hs ev hn hsl3 hn2.symm hy;rw[hA]at e2;simp only[qOi,Addr.mk.injEq]at e2;obtain⟨rfl,rfl,_⟩:=e2;rw[hc];exact hrun
       .refine⟨_,hi',λz w hq => ?_,λq => ?_⟩
        .obtain⟨l3,rows3,h4,hn4,hc4,hown4,hlen4,hrl4,hrows4,hfoc4⟩:=hq;rw[h1]at h4;obtain rfl:=qSj h4;refine⟨_,rows3,hle _ _ h1,hn4,hc4,hown4,hlen4,hrl4,hrows4,λp hp => ?_⟩;rcases List.mem_cons.1 hp with rfl|hp
         .exact⟨hy,_,off,Ga.put_self _ _ _,hA,rfl,rfl⟩
         .obtain⟨h7,lq,o2,h8,h9⟩:=hfoc4 p hp;exact⟨h7,lq,o2,hle _ _ h8,h9⟩
        .constructor
         .rintro⟨l3,a3,h4,h5,h6⟩;rw[hle _ _ h1]at h4;obtain rfl:=qSj h4;exact⟨_,a3,h1,h5,h6⟩
         .rintro⟨l3,a3,h4,h5,h6⟩;exact⟨_,a3,hle _ _ h4,h5,h6⟩
      .cases h
     .cases h
    .cases h
   .cases h
 .cases h
def aimA{R:Type}(i:Int):Nat->Nat->(Nat->Option R)->Option R|_,0,_=>none|j,n+1,k=>bif i==(j:Int)then k j else aimA i (j+1) n k
theorem aimA_some{R:Type}{i:Int}{r:R}{k:Nat->Option R}:∀{j n:Nat},aimA i j n k=some r->∃m:Nat,i=(m:Int)/\m<j+n/\k m=some r
 | _,0,h=>by cases h
 | j,n+1,h=>by
  unfold aimA at h;cases hb:i==(j:Int)with
  | true =>
   rw[hb]at h;exact⟨j,by simpa using hb,by omega,h⟩
  | false =>
   rw[hb]at h;obtain⟨m,h1,h2,h3⟩:=aimA_some h;exact⟨m,h1,by omega,h3⟩
def SC.atI(n:Int):SC E->Option (SC E) | .ptr id 0=>some (.pix id n) | .elf t x 0=>some (.efx t x n)|_=>none
theorem SC.atI_ok{n:Int}{c c':SC E}{v:Value}(h:c.atI n=some c')(hr:RC P E z g c v):∃b off,v = .pointer (some ⟨b,off,none⟩)/\RC P E z g c' (.pointer (some ⟨b,off+n.toNat,none⟩)):=by
 unfold SC.atI at h;split at h
 .obtain rfl:=qSj h;obtain⟨l,h1,rfl⟩:=hr;exact⟨_,_,rfl,l,h1,by rw[Nat.zero_add]⟩
 .obtain rfl:=qSj h;obtain⟨b,q,rr,rfl,h2⟩:=hr;exact⟨_,_,rfl,b,q,rr,rfl,h2⟩
 .cases h
def jF_(P:Program)(E:TE)(L:Nat->Option (SV E))(m:Nat)(e:TypeId)(x i:Operand){R:Type}(k:SV E->Up E->Option R):Option R :=
 match i with
 | .const (.int _ (.ofNat j))=>match opS E L x,as_ P e with
  | some (.v (.one c)),some s=>match Nat.blt j m,c.shift (j*s)with
   | true,some c'=>k (.v (.one c')) none
   | _,_=>none
  | _,_=>none
 | i=>match opS E L x,opS E L i,as_ P e,P.underlying e with
  | some (.v (.one c)),some (.v (.one (.dt (.int _) n))),some 1,some (.int .u32)=>match c.atI n with
   | some c'=>Option.bind (boundI m n) λ_=>k (.v (.one c')) none
   | none=>none
  | some (.v (.one c)),some (.v (.one (.dt (.int _) n))),some s,_=>aimA n 0 m λj=>match c.shift (j*s)with
   | some c'=>k (.v (.one c')) none
   | none=>none
  | _,_,_,_=>none
theorem qIndexArr_ok{T:TypeId}{m:Nat}{e:TypeId}{x i:Operand}(ho:o.op = .indexAddr T x i)(hu:P.underlying T=some (.array m e))(hρ:OpR P E z g L ρ)(h:jF_ P E L m e x i k=some r):Good P E z g nx I H ρ o k r:=by
 have goal:∀{c c':SC E} {ki:IntKind} {j s:Nat},opS E L x=some (.v (.one c))->as_ P e=some s->j<m->ρ i = .int ki (.ofNat j)->c.shift (j*s)=some c'->k (.v (.one c')) none=some r->Good P E z g nx I H ρ o k r:=by
  intro c c' ki j s hx hs hj hn hc h;obtain⟨b,off,hv,hr⟩:=SC.shift_ok hc (hρ x _ hx);refine .mk' h (v := .pointer (some ⟨b,off+j*s,none⟩)) hr λw' _ => ?_
  exact jz_ (i := .ofNat j) (u:=()) ho hu hs hv hn (by unfold boundI;rw[if_pos ⟨Int.natCast_nonneg j,by simpa using hj⟩])
 unfold jF_ at h;split at h
 .rename_i ki j;split at h
  .rename_i c s hx hs;split at h
   .rename_i c' hb hc;exact goal hx hs (by simpa using hb) (SV.int_ok rfl (hρ (.const (.int ki (.ofNat j))) (.v (.one (.dt (.int ki) (.ofNat j)))) rfl)) hc h
   .cases h
  .cases h
 .split at h
  .rename_i c _ ki n hx hi hs he;split at h
   .rename_i c' hc;obtain⟨u,hb,h⟩:=bind_some h;obtain⟨b,off,hv,hr⟩:=SC.atI_ok hc (hρ x _ hx);refine .mk' h (v := .pointer (some ⟨b,off+n.toNat,none⟩)) hr λw' _ => ?_
    have:=jz_ (P:=P) (w:=w') ho hu hs hv (SV.int_ok rfl (hρ _ _ hi)) hb
    rwa [Nat.mul_one]at this
   .cases h
  .rename_i c _ ki n s hx hi hs _;obtain⟨j,rfl,hj,h⟩:=aimA_some h;split at h
   .rename_i c' hc;exact goal hx hs (by omega) (SV.int_ok rfl (hρ _ _ hi)) hc h
   .cases h
  .cases h
def bndS(E:TE)(L:Nat->Option (SV E)):Option Operand->Option (Option Int)
 | none=>some none
 | some x=>match opS E L x with
  | some (.v (.one (.dt (.int _) n)))=>some (some n)
  | _=>none
theorem cT_{lo:Option Operand}{l:Option Int}(hρ:OpR P E z g L ρ)(h:bndS E L lo=some l):d5_ ρ lo l:=by
 unfold bndS at h;split at h
 .obtain rfl:=qSj h;trivial
 .split at h
  .rename_i x y ki n hx;obtain rfl:=qSj h;exact⟨ki,SV.int_ok rfl (hρ x _ hx)⟩
  .cases h
def hiD(n:Int):Option Int->Int|some h=>h|none=>n
theorem hiD_eq(n:Int)(h:Option Int):hiD n h=h.getD n:=by cases h<;>rfl
def qSlice (P:Program) (E:TE) (L:Nat->Option (SV E)) (H:Nat->Option (Obj E)) (T:TypeId) (x:Operand) (lo hi:Option Operand) {R:Type} (k:SV E->Up E->Option R):Option R :=
 match opS E L x,bndS E L lo,bndS E L hi,P.underlying T with
 | some (.v (.one (.dt .str s))),some l,some h,some .string=>Option.bind (aB_ s (hiD 0 l) (hiD (s.length:Int) h)) λy=>k (.v (.one (.dt .str y))) none
 | some (.v (.one c)),some l,some h,some (.slice e)=>match c.fro H with
  | some li=>match as_ P e with
   | some s=>match Nat.beq s (E.size li.t)with
    | true=>Option.bind (aB_ li.xs (hiD 0 l) (hiD (li.xs.length:Int) h)) λy=>k (.v (.one (.dt (.sl li.t) y))) none
    | false=>none
   | none=>none
  | none=>match c,l,h with
   | .own id,none,some n=>match H id with
    | some (.row _ _ xs _)=>match as_ P e with
     | some _=>Option.bind (aB_ xs 0 n) λ_=>k (.v (.one (.pre id n))) none
     | none=>none
    | _=>none
   | .own id,some n,none=>match H id with
    | some (.row _ t xs _)=>match as_ P e with
     | some s=>match Nat.beq s (E.size t)with
      | true=>Option.bind (aB_ xs n (xs.length:Int)) λ_=>k (.v (.one (.suf id n))) none
      | false=>none
     | none=>none
    | _=>none
   | .nils,none,some (.ofNat 0)=>match as_ P e with
    | some _=>k (.v (.one .nils)) none
    | none=>none
   | _,_,_=>none
 | _,_,_,_=>none
theorem cF_{t:Ty}{xs:List (Den E.S t)}{rows:List (List Value)}(h:Rows E z t xs rows)(a b:Nat):Rows E z t ((xs.take b).drop a) ((rows.take b).drop a):=by
 intro i x r hx hr;rw[List.getElem?_drop,List.getElem?_take]at hx hr;split at hx
 .rename_i hc;rw[if_pos hc]at hr;exact h _ x r hx hr
 .cases hx
theorem qSlice_ok{T:TypeId}{x:Operand}{lo hi:Option Operand}(ho:o.op = .slice T x lo hi none)(hρ:OpR P E z g L ρ)(hH:HR P E Bs F0 w0 W z g H)(h:qSlice P E L H T x lo hi k=some r):Good P E z g nx I H ρ o k r:=by
 unfold qSlice at h;split at h
 .rename_i s l hh hx hl hhi hu;obtain⟨y,hy,h⟩:=bind_some h;rw[hiD_eq,hiD_eq]at hy;exact .mk' h (v:=S y) (.str .nil) λw' _=>run_str_sub ho hu (SV.str_ok rfl (hρ x _ hx)) (cT_ hρ hl) (cT_ hρ hhi) hy
 .rename_i c l hh e hx hl hhi hu;have hv:=hρ x _ hx;split at h
  .rename_i li hli;split at h
   .rename_i s hs;split at h
    .rename_i hb;obtain rfl:=qNb hb;obtain⟨y,hy,h⟩:=bind_some h;rw[hiD_eq,hiD_eq]at hy;obtain⟨A,cap,rows,ev,hsl,hcap,hrows⟩:=SC.fro_ok hH hli hv;obtain⟨h0,h1,h2,rfl⟩:=fc_ hy;have hcut:=SlF.cut hsl hcap (lo:=(l.getD 0).toNat) (hi:=(hh.getD li.xs.length).toNat) (by omega) (by omega);have hlen:((li.xs.take (hh.getD (li.xs.length:Int)).toNat).drop (l.getD 0).toNat).length=(hh.getD (li.xs.length:Int)).toNat-(l.getD 0).toNat:=by
      simp;omega
     refine .mk' h (v := .slice (cutA A (E.size li.t) (l.getD 0).toNat cap) ((hh.getD (li.xs.length:Int)).toNat-(l.getD 0).toNat) (cap-(l.getD 0).toNat)) ?_ λw' _=>kx_ ho hu hs ev (cT_ hρ hl) (cT_ hρ hhi) h0 h1 (by omega)
     have hsl':SlF z.F (E.size li.t) (cutA A (E.size li.t) (l.getD 0).toNat cap) ((li.xs.take (hh.getD (li.xs.length:Int)).toNat).drop (l.getD 0).toNat).length ((rows.take (hh.getD (li.xs.length:Int)).toNat).drop (l.getD 0).toNat) z.w:=by rw[hlen];exact hcut
     have:=RD.sl (E:=E) hsl' (cap:=cap-(l.getD 0).toNat) (by rw[hlen];omega) (cF_ hrows _ _) (.nil (h:=()));rw[hlen]at this;exact this
    .cases h
   .cases h
  .split at h
   .rename_i id n _;split at h
    .rename_i e' t xs foc hi';split at h
     .rename_i s hs;obtain⟨y,hy,h⟩:=bind_some h;obtain⟨h0,h1,h2,_⟩:=fc_ hy;obtain⟨lo',h3,ev⟩:=hv;obtain⟨l',rows,h4,hn,hc,hown,_⟩:=hH.hold _ _ hi';rw[h3]at h4;obtain rfl:=qSj h4;have hcap:=(Own.cap_le hown).1;refine .mk' h (v := .slice lo'.A n.toNat lo'.cap) ⟨lo',h3,by rw[hn];omega,rfl⟩ λw' _ => ?_
      have:=kx_ (P:=P) (w:=w') (c:=s) ho hu hs ev (cT_ hρ hl) (cT_ hρ hhi) (Int.le_refl 0) (show(0:Int)<=(some n).getD _ from h1) (show(some n).getD _<=_ from by simp only[Option.getD_some];omega);simp only[Option.getD_none,Option.getD_some,Int.toNat_zero,Nat.sub_zero,cutA]at this;rw[this];split
      .rename_i hz;cases hA:lo'.A<;>simp_all
      .cases hA:lo'.A with
       | none=>rfl
       | some a=>simp[Addr.add]
     .cases h
    .cases h
   .rename_i id n _;split at h
    .rename_i e' t xs foc hi';split at h
     .rename_i s hs;split at h
      .rename_i hb;obtain rfl:=qNb hb;obtain⟨y,hy,h⟩:=bind_some h;obtain⟨h0,h1,h2,_⟩:=fc_ hy;obtain⟨lo',h3,ev⟩:=hv;obtain⟨l',rows,h4,hn,hc,hown,_⟩:=hH.hold _ _ hi';rw[h3]at h4;obtain rfl:=qSj h4;have hcap:=(Own.cap_le hown).1;refine .mk' h (v := .slice (cutA lo'.A lo'.c n.toNat lo'.cap) (lo'.n-n.toNat) (lo'.cap-n.toNat)) ⟨lo',h3,by omega,rfl⟩ λw' _ => ?_
       have:=kx_ (P:=P) (w:=w') (c:=E.size t) ho hu hs ev (cT_ hρ hl) (cT_ hρ hhi) (show(0:Int)<=(some n).getD 0 from h0) (show(some n).getD 0<=(none:Option Int).getD _ from by simp only[Option.getD_some,Option.getD_none];omega) (show(none:Option Int).getD _<=_ from by simp only[Option.getD_none];omega);simp only[Option.getD_none,Option.getD_some,Int.toNat_natCast]at this;rw[this,hc]
      .cases h
     .cases h
    .cases h
   .split at h
    .rename_i s hs;have ev:ρ x = .slice none 0 0:=hv;refine .mk' h (v := .slice none 0 0) rfl λw' _ => ?_
     exact kx_ (P:=P) (w:=w') (c:=s) ho hu hs ev (cT_ hρ hl) (cT_ hρ hhi) (Int.le_refl 0) (Int.le_refl 0) (Int.le_refl 0)
    .cases h
   .cases h
 .cases h
def SC.len?(H:Nat->Option (Obj E)):SC E->Option Int
 | .dt (.sl _) xs=>some (xs.length:Int)
 | .own id=>match H id with
  | some (.row _ _ xs _)=>some (xs.length:Int)
  | some (.fr _ xs)=>some (xs.length:Int)
  | _=>none
 | .nils=>some 0
 | _=>none
theorem SC.len_ok{c:SC E}{v:Value}{n:Int}{w:World}(hH:HR P E Bs F0 w0 w z g H)(h:c.len? H=some n)(hr:RC P E z g c v):∃A m cap,v = .slice A m cap/\n=(m:Int):=by
 unfold SC.len? at h;split at h
 .obtain rfl:=qSj h;obtain⟨A,cap,rows,vs',e,_⟩:=RD.sl_inv (hr:RD E z _ _ [v]);simp at e;exact⟨A,_,cap,e.1,rfl⟩
 .split at h
  .rename_i hi;obtain rfl:=qSj h;obtain⟨lo,h1,rfl⟩:=hr;obtain⟨l',rows,h2,hn,_⟩:=hH.hold _ _ hi;rw[h1]at h2;obtain rfl:=qSj h2;exact⟨_,_,_,rfl,by rw[hn]⟩
  .rename_i hi;obtain rfl:=qSj h;obtain⟨lo,h1,rfl⟩:=hr;obtain⟨l',rows,h2,hn,_⟩:=hH.hold _ _ hi;rw[h1]at h2;obtain rfl:=qSj h2;exact⟨_,_,_,rfl,by rw[hn]⟩
  .cases h
 .obtain rfl:=qSj h;simp only[RC]at hr;subst hr;exact⟨none,0,0,rfl,rfl⟩
 .cases h
theorem ej_{b:Builtin}{xs:Array Operand}{ats:Array TypeId}(ho:o.op = .call { callee := .builtin b,args:=xs,argTypes:=ats }):∃cs,execOp ρ o=builtin b ats o.type cs (xs.map ρ):=by
 obtain⟨dst,op,ty',pos,after,guard⟩:=o;simp only at ho;subst ho;exact⟨_,BigFrame.execOp_builtin ρ dst b xs ats ty' pos after guard⟩
def qLen(P:Program)(E:TE)(L:Nat->Option (SV E))(H:Nat->Option (Obj E))(T:TypeId)(x:Operand){R:Type}(k:SV E->Up E->Option R):Option R :=
 match opS E L x,P.underlying T with
 | some (.v (.one (.dt .str s))),some .string=>k (.v (.one (.dt (.int .i64) (s.length:Int)))) none
 | some (.v (.one c)),some (.slice _)=>match c.len? H with
  | some n=>k (.v (.one (.dt (.int .i64) n))) none
  | none=>none
 | _,_=>none
theorem qLen_ok{T:TypeId}{x:Operand}(ho:o.op = .call { callee := .builtin .len,args := #[x],argTypes := #[T] })(hρ:OpR P E z g L ρ)(hH:HR P E Bs F0 w0 W z g H)(h:qLen P E L H T x k=some r):Good P E z g nx I H ρ o k r:=by
 unfold qLen at h;obtain⟨cs,hop⟩:=ej_ (ρ:=ρ) ho;rw[BigFrame.builtin_len]at hop;split at h
 .rename_i s hx hu;have hs:=SV.str_ok rfl (hρ x _ hx);refine .mk' h (v := .int .i64 (s.length:Int)) (.int .nil) λw' _ => ?_
  rw[hop];simp[hs,S,Builtin.len_,run_underlying hu,size_mk,goInt]
 .rename_i c e hx hu;split at h
  .rename_i n hn;obtain⟨A,m,cap,ev,rfl⟩:=SC.len_ok hH hn (hρ x _ hx);refine .mk' h (v := .int .i64 (m:Int)) (.int .nil) λw' _ => ?_
   rw[hop];simp[ev,Builtin.len_,run_underlying hu,goInt]
  .cases h
 .cases h
def fE_(P:Program)(E:TE)(T:TypeId):Option (List (SC E)):=match zeroOf P T with|some zs=>eG_ E zs|none=>none
def eJ_(l:List (SC E))(off:Nat)(cs:List (SC E)):List (SC E):=l.take off++cs++l.drop (off+cs.length)
theorem fF_{l cs:List (SC E)}{vs us:List Value}(off:Nat)(h:All2 (RC P E z g) l vs)(h':All2 (RC P E z g) cs us):All2 (RC P E z g) (eJ_ l off cs) (splice vs off us):=by
 unfold eJ_ splice;rw[h'.len];exact((h.take off).append h').append (h.drop _)
def buildC (P:Program) (E:TE) (L:Nat->Option (SV E)) (fs:Array Field):List (Nat×Operand)->List (SC E)->Option (List (SC E))
 | [],l=>some l
 | (i,x)::rest,l=>match fs[i]?,opS E L x with
  | some q,some s=>match as_ P q.type,s.cells? with
   | some n,some cs=>match Nat.beq n cs.length&&Nat.ble (q.offset+cs.length) l.length with
    | true=>buildC P E L fs rest (eJ_ l q.offset cs)
    | false=>none
   | _,_=>none
  | _,_=>none
theorem hc_:∀(us:List Value) (k off:Nat) (cells:Array Value),off+k+us.length<=cells.size ->
  ((us.zipIdx k).foldl (λcs (p:Value×Nat)=>cs.setIfInBounds (off+p.2) p.1) cells).toList=splice cells.toList (off+k) us
 | [],k,off,cells,_=>by simp[splice]
 | u::us,k,off,cells,h=>by
  simp only[List.zipIdx_cons,List.foldl_cons];have hl:(u::us).length=us.length+1:=rfl;rw[hc_ us (k+1) off _ (by simp;omega)];simp only[splice,Array.toList_setIfInBounds];have hsz:cells.toList.length=cells.size:=Array.length_toList
  apply List.ext_getElem?;intro j;simp only[List.getElem?_append,List.getElem?_take,List.getElem?_drop,List.getElem?_set,List.length_take,qLa,List.length_set,qLc,List.getElem?_cons]
  repeat' split
  all_goals first
   | rfl
   | omega
   | (congr 1;omega)
   | (exfalso;omega)
   | (rename_i a b;simp_all;done)
   | skip
theorem my_{fs:Array Field}{places:Array (Nat×Nat)}(hp:∀(i:Nat) (q:Field) (n:Nat),fs[i]? = some q->as_ P q.type=some n->places[i]? = some (q.offset,n))(hρ:OpR P E z g L ρ) :
  ∀{ps:List (Nat×Operand)} {l l':List (SC E)} {cells:Array Value},buildC P E L fs ps l=some l'->All2 (RC P E z g) l cells.toList ->
   ∃cells',Instr.fill (λi=>places[i]?) cells (ps.map λp=>(p.1,ρ p.2))=some cells'/\All2 (RC P E z g) l' cells'.toList
 | [],l,l',cells,h,hr=>by
  simp only[buildC,qOi]at h;subst h;exact⟨cells,rfl,hr⟩
 | (i, x)::rest,l,l',cells,h,hr=>by
  simp only[buildC]at h;split at h
  .rename_i q s hq hs;split at h
   .rename_i n cs hn hc;split at h
    .rename_i hb;simp only[qAn]at hb;have hb1:=qNb hb.1;have hb2:=Nat.le_of_ble_eq_true hb.2;have hcs:=SV.cells_ok hc (hρ x _ hs);have hlen:cs.length=(ρ x).cells.size:=by rw[hcs.len,Array.length_toList]
     have hll:l.length=cells.size:=by rw[hr.len,Array.length_toList]
     have hsz:(ρ x).cells.size=n:=by omega
     have hfit:q.offset+(ρ x).cells.size<=cells.size:=by omega
     have hnext:=my_ hp hρ h (cells:=((ρ x).cells.zipIdx.foldl (λcs (p:Value×Nat)=>cs.setIfInBounds (q.offset+p.2) p.1) cells)) (by
      have e:(ρ x).cells.zipIdx.foldl (λcs (p:Value×Nat)=>cs.setIfInBounds (q.offset+p.2) p.1) cells=(((ρ x).cells.toList.zipIdx 0).foldl (λcs (p:Value×Nat)=>cs.setIfInBounds (q.offset+p.2) p.1) cells):=by
       rw[←Array.foldl_toList,Array.toList_zipIdx]
      rw[e,hc_ _ 0 q.offset cells (by rw[Array.length_toList];omega),Nat.add_zero];exact fF_ _ hr hcs)
     obtain⟨cells',h1,h2⟩:=hnext;refine⟨cells',?_,h2⟩;simp only[List.map_cons,Instr.fill,hp i q n hq hn];rw[if_neg (by simp;omega)];exact h1
    .cases h
   .cases h
  .cases h
def sizesB(P:Program):List Field->Bool
 | []=>true
 | q::fs=>(match as_ P q.type with|some _=>true|none=>false)&&sizesB P fs
def placesOf(P:Program)(fs:List Field):List (Nat×Nat):=fs.map λq=>(q.offset,(as_ P q.type).getD 0)
theorem place_run{q:Field}{n:Nat}(hn:as_ P q.type=some n)(w:World):(Functor.map (Prod.mk q.offset) (sizeOf q.type)).run P w = .ok (q.offset,n) w:=by
 cases hi:P.info? q.type with
 | none=>simp[as_,hi]at hn
 | some inf =>
  have:inf.size=n:=by simpa[as_,hi]using hn
  simp[sizeOf,typeInfo,hi,this]
theorem mA_(w:World):∀{fs:List Field},sizesB P fs=true->(fs.mapM λf=>Functor.map (Prod.mk f.offset) (sizeOf f.type)).run P w = .ok (placesOf P fs) w
 | [],_=>rfl
 | q::fs,h=>by
  simp only[sizesB,qAn]at h;have h1:=mA_ w h.2;cases hn:as_ P q.type with
  | none=>rw[hn]at h;simp at h
  | some n =>
   have h2:=place_run (P:=P) hn w;rw[List.mapM_cons,Sem.run_bind,h2];simp only[Result.andThen_ok,Sem.run_bind,h1,Sem.run_pure];simp[placesOf,hn]
theorem places_get{fs:Array Field}(i:Nat)(q:Field)(n:Nat)(hq:fs[i]? = some q)(hn:as_ P q.type=some n):(placesOf P fs.toList).toArray[i]? = some (q.offset,n):=by
 simp[placesOf,hq,hn]
def hH_ (E:TE) (L:Nat->Option (SV E)) (s:Nat):List (Nat×Operand)->List (SC E)->Option (List (SC E))
 | [],l=>some l
 | (i,x)::rest,l=>match opS E L x with
  | some v=>match v.cells? with
   | some cs=>match Nat.beq s cs.length&&Nat.ble (i*s+cs.length) l.length with
    | true=>hH_ E L s rest (eJ_ l (i*s) cs)
    | false=>none
   | none=>none
  | none=>none
theorem hd_{s:Nat}(hρ:OpR P E z g L ρ):∀{ps:List (Nat×Operand)} {l l':List (SC E)} {cells:Array Value},hH_ E L s ps l=some l'->All2 (RC P E z g) l cells.toList ->
   ∃cells',Instr.fill (λi=>some (i*s,s)) cells (ps.map λp=>(p.1,ρ p.2))=some cells'/\All2 (RC P E z g) l' cells'.toList
 | [],l,l',cells,h,hr=>by
  simp only[hH_,qOi]at h;subst h;exact⟨cells,rfl,hr⟩
 | (i, x)::rest,l,l',cells,h,hr=>by
  simp only[hH_]at h;split at h
  .rename_i v hv;split at h
   .rename_i cs hc;split at h
    .rename_i hb;simp only[qAn]at hb;have hb1:=qNb hb.1;have hb2:=Nat.le_of_ble_eq_true hb.2;have hcs:=SV.cells_ok hc (hρ x _ hv);have hlen:cs.length=(ρ x).cells.size:=by rw[hcs.len,Array.length_toList]
     have hll:l.length=cells.size:=by rw[hr.len,Array.length_toList]
     have hnext:=hd_ hρ h (cells:=((ρ x).cells.zipIdx.foldl (λcs (p:Value×Nat)=>cs.setIfInBounds (i*s+p.2) p.1) cells)) (by
      have e:(ρ x).cells.zipIdx.foldl (λcs (p:Value×Nat)=>cs.setIfInBounds (i*s+p.2) p.1) cells=(((ρ x).cells.toList.zipIdx 0).foldl (λcs (p:Value×Nat)=>cs.setIfInBounds (i*s+p.2) p.1) cells):=by
       rw[←Array.foldl_toList,Array.toList_zipIdx]
      rw[e,hc_ _ 0 (i*s) cells (by rw[Array.length_toList];omega),Nat.add_zero];exact fF_ _ hr hcs)
     obtain⟨cells',h1,h2⟩:=hnext;refine⟨cells',?_,h2⟩;simp only[List.map_cons,Instr.fill];rw[if_neg (by simp;omega)];exact h1
    .cases h
   .cases h
  .cases h
def jH_(P:Program)(E:TE)(L:Nat->Option (SV E))(T e:TypeId)(ps:Array (Nat×Operand)){R:Type}(k:SV E->Up E->Option R):Option R :=
 match fE_ P E T,as_ P e with
 | some l,some s=>match hH_ E L s ps.toList l with
  | some l'=>k (.v (.agg l')) none
  | none=>none
 | _,_=>none
def qBuild(P:Program)(E:TE)(L:Nat->Option (SV E))(T:TypeId)(ps:Array (Nat×Operand)){R:Type}(k:SV E->Up E->Option R):Option R :=
 match P.underlying T with
 | some (.struct fs)=>match fE_ P E T with
  | some l=>match sizesB P fs.toList,buildC P E L fs ps.toList l with
   | true,some l'=>k (.v (.agg l')) none
   | _,_=>none
  | none=>none
 | some (.array _ e)=>jH_ P E L T e ps k
 | _=>none
theorem qBuildArr_ok{T e:TypeId}{m:Nat}{ps:Array (Nat×Operand)}(ho:o.op = .build T ps)(hu:P.underlying T=some (.array m e))(hρ:OpR P E z g L ρ)(h:jH_ P E L T e ps k=some r):Good P E z g nx I H ρ o k r:=by
 unfold jH_ at h;split at h
 .rename_i l s hz hs;split at h
  .rename_i l' hb;unfold fE_ at hz;split at hz
   .rename_i zs hzs;have hzr:All2 (RC P E z g) l zs:=dm_ hz;obtain⟨cells',hf,hr⟩:=hd_ hρ hb (cells:=zs.toArray) hzr;refine .mk' h (v := .agg cells') ⟨cells'.toList,rfl,hr⟩ λw' _ => ?_
    unfold zeroOf at hzs;split at hzs
    .rename_i inf hi;split at hzs
     .rename_i zv hzv;obtain rfl:=qSj hzs;unfold as_ at hs;cases hq:P.info? e with
      | none=>simp[hq]at hs
      | some inf2 =>
       have hs':inf2.size=s:=by simpa[hq]using hs
       unfold execOp;rw[ho];simp only[Instr.build];simp[Sem.run_bind,zeroValue,typeInfo,hi,hzv,run_underlying hu,sizeOf,hq,hs'];simp only[Array.toArray_toList]at hf;rw[hf];rfl
     .cases hzs
    .cases hzs
   .cases hz
  .cases h
 .cases h
theorem qBuild_ok {T:TypeId} {ps:Array (Nat×Operand)} (ho:o.op = .build T ps) (hρ:OpR P E z g L ρ) (h:qBuild P E L T ps k=some r):Good P E z g nx I H ρ o k r:=by
 unfold qBuild at h;split at h
 .rename_i fs hu;split at h
  case h_2=>cases h
  rename_i l hz;split at h
  .rename_i l' hsz hb;unfold fE_ at hz;split at hz
   .rename_i zs hzs;have hzr:All2 (RC P E z g) l zs:=dm_ hz;obtain⟨cells',hf,hr⟩:=my_ (places:=(placesOf P fs.toList).toArray) places_get hρ hb (cells:=zs.toArray) hzr;refine .mk' h (v := .agg cells') ⟨cells'.toList,rfl,hr⟩ λw' _ => ?_
    have hpl:=mA_ (P:=P) w' hsz;unfold zeroOf at hzs;split at hzs
    .rename_i inf hi;split at hzs
     .rename_i zv hzv;obtain rfl:=qSj hzs;have e1:(fs.mapM λf=>Functor.map (Prod.mk f.offset) (sizeOf f.type)).run P w' = .ok (placesOf P fs.toList).toArray w':=by
       have e2:(fs.mapM λf=>Functor.map (Prod.mk f.offset) (sizeOf f.type):Sem (Array (Nat×Nat)))=(Functor.map List.toArray (fs.toList.mapM λf=>Functor.map (Prod.mk f.offset) (sizeOf f.type))):=by
        rw[←List.mapM_toArray]
       rw[e2,map_eq_pure_bind,Sem.run_bind,hpl];rfl
      unfold execOp;rw[ho];simp only[Instr.build];simp[Sem.run_bind,zeroValue,typeInfo,hi,hzv,run_underlying hu,e1];simp only[Array.toArray_toList,List.getElem?_toArray]at hf;rw[hf];rfl
     .cases hzs
    .cases hzs
   .cases hz
  .cases h
 .rename_i m e hu;exact qBuildArr_ok ho hu hρ h
 .cases h
def capsC(E:TE)(L:Nat->Option (SV E)):List Operand->Option (List Nat)
 | []=>some []
 | x::l=>match opS E L x with
  | some (.v (.one (.ptr id 0)))=>match capsC E L l with
   | some ids=>some (id::ids)
   | none=>none
  | _=>none
theorem capsC_ok(hρ:OpR P E z g L ρ):∀{xs:List Operand} {ids:List Nat},capsC E L xs=some ids->All2 (λid u=>∃l,g id=some l/\u=Value.pointer (some ⟨l.b,0,none⟩)) ids (xs.map ρ)
 | [],ids,h=>by simp only[capsC,qOi]at h;subst h;exact .nil
 | x::l,ids,h=>by
  simp only[capsC]at h;split at h
  .rename_i id hx;split at h
   .rename_i ids' hl;obtain rfl:=qSj h;exact .cons (hρ x _ hx) (capsC_ok hρ hl)
   .cases h
  .cases h
def gN_(E:TE)(L:Nat->Option (SV E))(f:Fn)(first caps:Array Operand){R:Type}(k:SV E->Up E->Option R):Option R:=match f,first.toList,capsC E L caps.toList with | .func f,[],some ids=>k (.v (.one (.clo f ids))) none|_,_,_=>none
theorem jI_{f:Fn}{first caps:Array Operand}(ho:o.op = .makeFunc f first caps)(hρ:OpR P E z g L ρ)(h:gN_ E L f first caps k=some r):Good P E z g nx I H ρ o k r:=by
 unfold gN_ at h;split at h
 .rename_i f ids hf hc;have hcr:=capsC_ok hρ hc;refine .mk' h (v := .func (.func f) #[] (caps.toList.map ρ).toArray) ⟨_,rfl,hcr⟩ λw' _ => ?_
  unfold execOp;rw[ho];have:first = #[]:=by cases first;simp at hf;subst hf;rfl
  subst this;simp only[Instr.makeFunc,Sem.run_bind,Sem.run_pure,Result.andThen_ok];rw[show caps.map ρ=(caps.toList.map ρ).toArray by rw[←List.map_toArray]];simp
 .cases h
def qMkI(P:Program)(E:TE)(T:TypeId){R:Type}(k:SV E->Up E->Option R):Option R:=match P.underlying T with|none=>none|some (.interface _)=>none|some _=>k (.v (.one .any)) none
theorem qMkI_ok{T:TypeId}{x:Operand}(ho:o.op = .makeInterface T x)(h:qMkI P E T k=some r):Good P E z g nx I H ρ o k r:=by
 unfold qMkI at h;split at h
 .cases h
 .cases h
 .rename_i u hi hu;refine .mk' h (v := .iface T (ρ x)) (show eg_ (.iface T (ρ x))=true from rfl) λw' _ => ?_
  unfold execOp;rw[ho];simp only[Instr.makeInterface,Sem.run_bind,run_underlying hu,Result.andThen_ok];cases u<;>first|rfl|exact absurd rfl (hi _)
def qCap(P:Program)(E:TE)(L:Nat->Option (SV E))(T:TypeId)(x:Operand){R:Type}(k:SV E->Up E->Option R):Option R:=match opS E L x,P.underlying T with|some (.v (.one .nils)),some (.slice _)=>k (.v (.one (.dt (.int .i64) 0))) none|_,_=>none
theorem qCap_ok{T:TypeId}{x:Operand}(ho:o.op = .call { callee := .builtin .cap,args := #[x],argTypes := #[T] })(hρ:OpR P E z g L ρ)(h:qCap P E L T x k=some r):Good P E z g nx I H ρ o k r:=by
 unfold qCap at h;obtain⟨cs,hop⟩:=ej_ (ρ:=ρ) ho;rw[BigFrame.builtin_cap]at hop;split at h
 .rename_i e hx hu;have ev:ρ x = .slice none 0 0:=hρ x _ hx;refine .mk' h (v := .int .i64 0) (.int .nil) λw' _ => ?_
  rw[hop];simp[ev,Builtin.cap_,run_underlying hu,goInt]
 .cases h
theorem ii_{kk:IntKind}:∀{xs:List Int} {rows:List (List Value)},Rows E z (.int kk) xs rows->rows.length=xs.length->rows=xs.map λb=>[Value.int kk b]:=by
 intro xs rows h hl
 apply List.ext_getElem?;intro i;rw[List.getElem?_map];by_cases hi:i<xs.length
 .rw[List.getElem?_eq_getElem hi,List.getElem?_eq_getElem (by omega)];have:=h i xs[i] _ (List.getElem?_eq_getElem hi) (List.getElem?_eq_getElem (by omega:i<rows.length));obtain⟨vs',e,hn⟩:=RD.int_inv (this:RD E z [.int kk] (xs[i],()) _);rw[hn.nil_inv]at e;rw[e];rfl
 .rw[List.getElem?_eq_none (by omega),List.getElem?_eq_none (by omega)];rfl
def SC.bytes(H:Nat->Option (Obj E)):SC E->Option (List Int)
 | .dt (.sl (.int .u8)) xs=>some xs
 | .own id=>match H id with
  | some (.fr (.int .u8) xs)=>some xs
  | some (.row _ (.int .u8) xs _)=>some xs
  | _=>none
 | .nils=>some []
 | _=>none
theorem SC.bytes_ok{c:SC E}{v:Value}{xs:List Int}{w':World}(hH:HR P E Bs F0 w0 W z g H)(h:c.bytes H=some xs)(hr:RC P E z g c v)(hw':Stands z g H W w') :
  ∃A n cap F,v = .slice A n cap/\SlF F 1 A n (xs.map λb=>[Value.int .u8 b]) w':=by
 unfold SC.bytes at h;split at h
 .rename_i ys;obtain rfl:=qSj h;obtain⟨A,cap,rows,ev,hsl,hcap,hrows⟩:=SC.fro_ok (c := .dt (.sl (.int .u8)) ys) hH rfl hr;rw[ii_ hrows hsl.1]at hsl;exact⟨A,_,cap,_,ev,hsl.stand hw'.1⟩
 .rename_i id;split at h
  .rename_i ys hi;obtain rfl:=qSj h;obtain⟨A,cap,rows,ev,hsl,hcap,hrows⟩:=SC.fro_ok (c := .own id) (l:=⟨.int .u8,ys⟩) hH (by simp only[SC.fro,hi]) hr;rw[ii_ hrows hsl.1]at hsl;exact⟨A,_,cap,_,ev,hsl.stand hw'.1⟩
  .rename_i e ys foc hi;obtain rfl:=qSj h;obtain⟨l,h1,rfl⟩:=hr;obtain⟨l2,rows2,h3,hn3,hc3,hown3,hlen3,hrl3,hrows3,_⟩:=hw'.hold hH _ _ hi;rw[h1]at h3;obtain rfl:=qSj h3;have hsl3:=cD_ (w:=w') (e:=e) (cap:=l.cap) ⟨hown3,hlen3,hrl3⟩;rw[ii_ hrows3 (by rw[hlen3,hn3])]at hsl3;have hc1:l.c=1:=hc3;rw[hc1]at hsl3;exact⟨_,_,_,_,rfl,hsl3⟩
  .cases h
 .obtain rfl:=qSj h;simp only[RC]at hr;subst hr;exact⟨none,0,0,λ_=>False,rfl,SlF.nil _ _ _ _⟩
 .cases h
def qConv(P:Program)(E:TE)(L:Nat->Option (SV E))(H:Nat->Option (Obj E))(o:Oper)(src dst:TypeId)(x:Operand){R:Type}(k:SV E->Up E->Option R):Option R :=
 match opS E L x,P.underlying dst with
 | some (.v (.one (.dt (.int _) _))),some (.int _)=>fC_ P E L o k
 | some (.v (.one (.dt .str s))),some .string=>match P.underlying src with
  | some .string=>k (.v (.one (.dt .str s))) none
  | _=>none
 | some (.v (.one c)),some .string=>match P.underlying src with
  | some (.slice e)=>match P.underlying e,c.bytes H with
   | some (.int .u8),some xs=>k (.v (.one (.dt .str (bytesS xs)))) none
   | _,_=>none
  | _=>none
 | _,_=>none
theorem qConv_ok{src dst:TypeId}{x:Operand}(ho:o.op = .convert src dst x)(hρ:OpR P E z g L ρ)(hH:HR P E Bs F0 w0 W z g H)(hI:∀w',I w'->Stands z g H W w')(h:qConv P E L H o src dst x k=some r):Good P E z g nx I H ρ o k r:=by
 unfold qConv at h;split at h
 .exact dU_ hρ h
 .rename_i s hx hd;split at h
  .rename_i hs;have e:=SV.str_ok rfl (hρ x _ hx);refine .mk' h (v:=S s) (.str .nil) λw' _ => ?_
   unfold execOp;rw[ho];simp[e,S,convert,run_underlying hs,run_underlying hd]
  .cases h
 .rename_i c hx hd;split at h
  .rename_i e hs;split at h
   .rename_i xs he hb;refine .mk' h (v:=S (bytesS xs)) (.str .nil) λw' hw' => ?_
    obtain⟨A,n,cap,F,ev,hsl⟩:=SC.bytes_ok hH hb (hρ x _ hx) (hI w' hw');exact pZ_ ho hs he hd ev hsl
   .cases h
  .cases h
 .cases h
noncomputable def qOp(P:Program)(E:TE)(eqs:List (Nat×Nat))(L:Nat->Option (SV E))(H:Nat->Option (Obj E))(nx:Nat)(o:Oper){R:Type}(k:SV E->Up E->Option R):Option R :=
 match o.op with
 | .move x=>qMove E L x k
 | .assign x=>qMove E L x k
 | .nilCheck x=>qNil E L x k
 | .extract x i=>if_ E L x i k
 | .field T x f=>qField P E L T x f k
 | .load T x=>qLoad P E L H T x k
 | .fieldAddr T x f=>fD_ P E L T x f k
 | .unOp _ _ _=>fC_ P E L o k
 | .binOp op T x y _=>qBin P E L H eqs o op T x y k
 | .index T x i=>qIndex P E L T x i k
 | .indexAddr T x i=>match P.underlying T with
  | some (.array m e)=>jF_ P E L m e x i k
  | _=>ih_ P E L H nx T x i k
 | .slice T x lo hi none=>qSlice P E L H T x lo hi k
 | .convert src dst x=>qConv P E L H o src dst x k
 | .lookup T m x false=>qLookup P E eqs L H T m x k
 | .build T ps=>qBuild P E L T ps k
 | .makeFunc f first caps=>gN_ E L f first caps k
 | .call { callee := .builtin .len,args:=⟨[x]⟩,argTypes:=⟨[T]⟩ }=>qLen P E L H T x k
 | .makeInterface T _=>qMkI P E T k
 | .call { callee := .builtin .cap,args:=⟨[x]⟩,argTypes:=⟨[T]⟩ }=>qCap P E L T x k
 | .call { callee := .builtin .max,args:=_,argTypes:=_ }=>fC_ P E L o k
 | .call { callee := .builtin .min,args:=_,argTypes:=_ }=>fC_ P E L o k
 | _=>none
theorem qOp_ok{eqs:List (Nat×Nat)}(heq:∀p∈eqs,ap_ P E p.1 p.2)(hnx:g nx=none)(hρ:OpR P E z g L ρ)(hH:HR P E Bs F0 w0 W z g H)(hI:∀w',I w'->Stands z g H W w')(h:qOp P E eqs L H nx o k=some r):Good P E z g nx I H ρ o k r:=by
 unfold qOp at h;split at h
 case h_1 x ho=>exact ie_ (.inl ho) hρ h
 case h_2 x ho=>exact ie_ (.inr ho) hρ h
 case h_3 x ho=>exact qNil_ok ho hρ h
 case h_4 x i ho=>exact k2_ ho hρ h
 case h_5 T x f ho=>exact qField_ok ho hρ h
 case h_6 T x ho=>exact qLoad_ok ho hρ hH hI h
 case h_7 T x f ho=>exact iZ_ ho hρ h
 case h_8=>exact dU_ hρ h
 case h_9 op T x y yt ho=>exact qBin_ok ho heq hρ hH h
 case h_10 T x i ho=>exact qIndex_ok ho hρ h
 case h_11 T x i ho =>
  split at h
  .rename_i m e hu;exact qIndexArr_ok ho hu hρ h
  .exact p2_ ho hnx hρ hH hI h
 case h_12 T x lo hi ho=>exact qSlice_ok ho hρ hH h
 case h_13 src dst x ho=>exact qConv_ok ho hρ hH hI h
 case h_14 T m x ho=>exact qLookup_ok ho heq hρ hH hI h
 case h_15 T ps ho=>exact qBuild_ok ho hρ h
 case h_16 f first caps ho=>exact jI_ ho hρ h
 case h_17 x T ho=>exact qLen_ok ho hρ hH h
 case h_18 T x ho=>exact qMkI_ok ho h
 case h_19 x T ho=>exact qCap_ok ho hρ h
 case h_20=>exact dU_ hρ h
 case h_21=>exact dU_ hρ h
 case h_22=>cases h
end
section
variable{P:Program}{E:TE}{z:Fz}{g:Ga}{nx:Nat}
variable{L:Nat->Option (SV E)}{H:Nat->Option (Obj E)}{ρ:Operand->Value}{w w0:World}{o:Oper}{R:Type}{r:R}{Bs:List Nat}{F0:Nat->Prop}
abbrev Chs(E:TE):=List (Nat×Option (Obj E))
def upH(H:Nat->Option (Obj E)):Chs E->Nat->Option (Obj E)
 | [],j=>H j
 | (i,o)::l,j=>match Nat.beq j i with
  | true=>o
  | false=>upH H l j
theorem ao_(H:Nat->Option (Obj E)):∀(l m:Chs E),upH (upH H m) l=upH H (l++m)
 | [],m=>rfl
 | (i,o)::l,m=>by
  funext j
  simp only[upH,List.cons_append];rw[ao_ H l m]
theorem ax_{i:Nat}{p q:Obj E}{j:Nat}(h:upH H [(i,some p)] j=some q):(j=i/\q=p)\/(j≠i/\H j=some q):=by
 simp only[upH]at h;split at h
 .rename_i hb;exact .inl ⟨qNb hb,(qSj h).symm⟩
 .rename_i hb;exact .inr ⟨bf_ hb,h⟩
theorem kC_{i m:Nat}{p q:Obj E}{j:Nat}(h:upH H [(i,some p),(m,none)] j=some q):(j=i/\q=p)\/(j≠i/\j≠m/\H j=some q):=by
 simp only[upH]at h;split at h
 .rename_i hb;exact .inl ⟨qNb hb,(qSj h).symm⟩
 .rename_i hb;split at h
  .cases h
  .rename_i hb2;exact .inr ⟨bf_ hb,bf_ hb2,h⟩
def Fresh(g:Ga)(nx:Nat):Prop:=∀i,nx<=i->g i=none
theorem Fresh.put(h:Fresh g nx)(l:Loc):Fresh (g.put nx l) (nx+1):=λi hi=>by
 rw[Ga.put_ne _ _ (by omega)];exact h i (by omega)
theorem Fresh.succ(h:Fresh g nx):Fresh g (nx+1):=λi hi=>h i (by omega)
theorem Fresh.self(h:Fresh g nx):g nx=none:=h nx (Nat.le_refl _)
structure TurnsTo(P:Program)(E:TE)(Bs:List Nat)(F0:Nat->Prop)(w0 w:World)(z:Fz)(g:Ga)(nx:Nat)(H:Nat->Option (Obj E))(ρ:Operand->Value)(o:Oper)(ex:Bool)(s:Option (SV E))(u:Chs E)(z':Fz)(g':Ga)(w':World)(n:Next):Prop where
 run:(execOp ρ o).run P w = .ok n w'
 val:match s with|some sv=>∃v,n = .value v/\RV P E z' g' sv v|none=>n = .skip
 le:z.Le z'
 leg:g.Le g'
 fresh:Fresh g' (nx+1)
 hr:HR P E Bs F0 w0 w' z' g' (upH H u)
 ext:ex=true->Ext w w'
def bA_(P:Program)(E:TE)(Bs:List Nat)(F0:Nat->Prop)(w0 w:World)(z:Fz)(g:Ga)(nx:Nat)(H:Nat->Option (Obj E))(ρ:Operand->Value)(o:Oper)(ex:Bool){R:Type}(k:Option (SV E)->Chs E->Option R)(r:R):Prop:=∃s u z' g' w' n,k s u=some r/\TurnsTo P E Bs F0 w0 w z g nx H ρ o ex s u z' g' w' n
variable{k:Option (SV E)->Chs E->Option R}
def frz1(H:Nat->Option (Obj E)):SC E->Chs E
 | .own id=>match H id with
  | some (.row _ t xs _)=>[(id,some (.fr t xs))]
  | _=>[]
 | .pre id _=>match H id with
  | some (.row _ t xs _)=>[(id,some (.fr t xs))]
  | _=>[]
 | _=>[]
theorem frz1_ok(h:HR P E Bs F0 w0 w z g H)(c:SC E):∃z',z.Le z'/\HR P E Bs F0 w0 w z' g (upH H (frz1 H c)):=by
 unfold frz1;split
 .split
  .rename_i e t xs foc hi;exact⟨_,h.fz.grow_le _,h.freeze hi λj q hj=>ax_ hj⟩
  .exact⟨z,Fz.Le.refl z,h⟩
 .split
  .rename_i e t xs foc hi;exact⟨_,h.fz.grow_le _,h.freeze hi λj q hj=>ax_ hj⟩
  .exact⟨z,Fz.Le.refl z,h⟩
 .exact⟨z,Fz.Le.refl z,h⟩
def bR_(H:Nat->Option (Obj E)):List (SC E)->Chs E | []=>[]|c::l=>frz1 (upH H (bR_ H l)) c++bR_ H l
theorem bB_(h:HR P E Bs F0 w0 w z g H):∀(l:List (SC E)),∃z',z.Le z'/\HR P E Bs F0 w0 w z' g (upH H (bR_ H l))
 | []=>⟨z,Fz.Le.refl z,h⟩
 | c::l=>by
  obtain⟨z1,h1,h2⟩:=bB_ h l;obtain⟨z2,h3,h4⟩:=frz1_ok h2 c;rw[ao_]at h4;exact⟨z2,h1.trans h3,h4⟩
theorem ObjR.box_new{T:TypeId}{cs:List (SC E)}{vs:List Value}(hnx:g nx=none)(hcs:All2 (RC P E z g) cs vs) :
  ObjR P E z (g.put nx ⟨none,0,0,0,w.heap.size,0⟩) (w.alloc (.cells vs.toArray T)) nx (.box T cs):=by
 refine⟨_,vs,Ga.put_self _ _ _,?_,hcs.mono λ_ _ h=>RC.le h (Fz.Le.refl z) (Ga.le_put hnx)⟩;show(w.heap.push _)[w.heap.size]? = _;simp
theorem HR.box_new{T:TypeId}{cs:List (SC E)}{vs:List Value}(h:HR P E Bs F0 w0 w z g H)(hnx:g nx=none)(hcs:All2 (RC P E z g) cs vs) :
  HR P E Bs F0 w0 (w.alloc (.cells vs.toArray T)) z (g.put nx ⟨none,0,0,0,w.heap.size,0⟩) (upH H [(nx,some (.box T cs))]):=by
 refine h.add (Ext.one w _) hnx (ObjR.box_new hnx hcs) (λk hk => ?_) λj p hj=>ax_ hj
 obtain⟨l,h1,rfl⟩:=hk;rw[Ga.put_self]at h1;obtain rfl:=qSj h1;exact Nat.le_refl _
def lBox(E:TE)(L:Nat->Option (SV E))(nx:Nat)(T:TypeId)(x:Operand){R:Type}(k:Option (SV E)->Chs E->Option R):Option R :=
 match opS E L x with
 | some s=>match s.cells? with
  | some cs=>k (some (.v (.one (.ptr nx 0)))) [(nx,some (.box T cs))]
  | none=>none
 | none=>none
theorem lBox_ok{T:TypeId}{x:Operand}(ho:o.op = .box T x)(hnx:Fresh g nx)(hρ:OpR P E z g L ρ)(hH:HR P E Bs F0 w0 w z g H)(h:lBox E L nx T x k=some r):bA_ P E Bs F0 w0 w z g nx H ρ o true k r:=by
 unfold lBox at h;split at h
 .rename_i s hs;split at h
  .rename_i cs hc;have hcs:=SV.cells_ok hc (hρ x _ hs);have hrun:=run_box (P:=P) (w:=w) ho (rfl:ρ x=ρ x);have hb:=hH.box_new (T:=T) hnx.self hcs;rw[Array.toArray_toList]at hb;exact⟨_,_,z,_,_,_,h,⟨hrun,⟨_,rfl,_,Ga.put_self _ _ _,rfl⟩,Fz.Le.refl z,Ga.le_put hnx.self,hnx.put _,hb,λ_=>Ext.one w _⟩⟩
  .cases h
 .cases h
def lAlloc(P:Program)(E:TE)(nx:Nat)(T:TypeId){R:Type}(k:Option (SV E)->Chs E->Option R):Option R :=
 match E.sb T,zeroOf P T with
 | true,some [.pointer none,.slice none 0 0]=>k (some (.v (.one (.ptr nx 0)))) [(nx,some (.box T [.sbp nx,.nils]))]
 | _,_=>match fE_ P E T with
  | some cs=>k (some (.v (.one (.ptr nx 0)))) [(nx,some (.box T cs))]
  | none=>none
theorem ij_{T:TypeId}{cs:List (SC E)}(h:fE_ P E T=some cs):∃zs,zeroOf P T=some zs/\All2 (RC P E z g) cs zs:=by
 unfold fE_ at h;split at h
 .rename_i zs hz;exact⟨zs,hz,dm_ h⟩
 .cases h
theorem lAlloc_ok{T:TypeId}(ho:o.op = .alloc T)(hnx:Fresh g nx)(hH:HR P E Bs F0 w0 w z g H)(h:lAlloc P E nx T k=some r):bA_ P E Bs F0 w0 w z g nx H ρ o true k r:=by
 unfold lAlloc at h;split at h
 .rename_i _ hz;have hrun:=jt_ (P:=P) (w:=w) (ρ:=ρ) ho hz;refine⟨_,_,z,g.put nx ⟨none,0,0,0,w.heap.size,0⟩,_,_,h,⟨hrun,⟨_,rfl,_,Ga.put_self _ _ _,rfl⟩,Fz.Le.refl z,Ga.le_put hnx.self,hnx.put _,?_,λ_=>Ext.one w _⟩⟩;refine hH.add (Ext.one w _) hnx.self (o := .box T [.sbp nx,.nils]) ⟨_,[.pointer none,.slice none 0 0],Ga.put_self _ _ _,?_,.cons ⟨_,Ga.put_self _ _ _,.inl rfl⟩ (.cons rfl .nil)⟩ (λq hq => ?_) λj p hj=>ax_ hj
  .show(w.heap.push _)[w.heap.size]? = _;simp
  .obtain⟨l,h1,rfl⟩:=hq;rw[Ga.put_self]at h1;obtain rfl:=qSj h1;exact Nat.le_refl _
 .split at h
  .rename_i cs hc;obtain⟨zs,hz,hcs⟩:=ij_ (z:=z) (g:=g) hc;have hrun:=jt_ (P:=P) (w:=w) (ρ:=ρ) ho hz;exact⟨_,_,z,_,_,_,h,⟨hrun,⟨_,rfl,_,Ga.put_self _ _ _,rfl⟩,Fz.Le.refl z,Ga.le_put hnx.self,hnx.put _,hH.box_new (T:=T) hnx.self hcs,λ_=>Ext.one w _⟩⟩
  .cases h
theorem Sep.single{L:List Nat}{x:Res}(hx:x.holds w)(hL:∀k,x.fp k->k∈L):Sep L w w [x] :=
 ⟨Chg.of_below (Below.refl _ _),λr hr=>by obtain rfl:=List.mem_singleton.1 hr;exact hx,λr hr _ k hk=>by obtain rfl:=List.mem_singleton.1 hr;exact .inr (hL k hk),.cons (λ_ h=>nomatch h) .nil⟩
def arrC(zs:List Int):Nat->Nat->List (SC E)|_,0=>[]|j,n+1 => .dt (.int .u32) (nthI zs j)::arrC zs (j+1) n
theorem arrC_ok:∀(l:List Int) {zs:List Int} {j:Nat},zs.drop j=l->All2 (RC P E z g) (arrC zs j l.length) (l.map λn=>Value.int .u32 n)
 | [],_,_,_ => .nil
 | x::l,zs,j,h=>by
  have hx:zs[j]? = some x:=by
   have:=congrArg (λm=>m[0]?) h;simpa using this
  refine .cons ?_ (arrC_ok l (by rw[←List.drop_drop,h];rfl));have:nthI zs j=x:=by simp[nthI,hx]
  rw[this];exact .int .nil
theorem dtsC_all{κ : IntKind}:∀{l:List (SC E)} {xs:List Int} {vs:List Value},dtsC κ l=some xs->All2 (RC P E z g) l vs->vs=xs.map λn=>Value.int κ n
 | [],xs,vs,h,hr=>by
  simp only[dtsC,qOi]at h;subst h;cases hr
  rfl
 | c :: l,xs,vs,h,hr=>by
  cases hr with
  | cons h1 h2 =>
   unfold dtsC at h;split at h
   .rename_i hx;cases hx
   .rename_i κ' n l' e1;injection e1 with e1 e2;subst e1;subst e2;split at h
    .rename_i r hk hr';simp only[decide_eq_true_eq]at hk;subst hk;obtain rfl:=qSj h;obtain⟨vs',e,_⟩:=RD.int_inv (h1:RD E z _ _ [_]);simp only[List.cons.injEq]at e;rw[e.1,dtsC_all hr' h2];rfl
    .cases h
   .cases h
def lStoreI(P:Program)(E:TE)(H:Nat->Option (Obj E))(T:TypeId)(id:Nat)(i:Int)(s:SV E){R:Type}(k:Option (SV E)->Chs E->Option R):Option R :=
 match H id,s,as_ P T with
 | some (.box T' cs),.v (.one (.dt (.int .u32) y)),some 1=>match dtsC .u32 cs with
  | some xs=>Option.bind (setI xs i y) λzs=>k none [(id,some (.box T' (arrC zs 0 cs.length)))]
  | none=>none
 | _,_,_=>none
theorem lStoreI_ok{T:TypeId}{x y:Operand}{id:Nat}{i:Int}{s:SV E}(ho:o.op = .store T x y)(hnx:Fresh g nx)(hx:RC P E z g (.pix id i) (ρ x))(hy:RV P E z g s (ρ y))(hH:HR P E Bs F0 w0 w z g H)(h:lStoreI P E H T id i s k=some r):bA_ P E Bs F0 w0 w z g nx H ρ o false k r:=by
 unfold lStoreI at h;split at h
 .rename_i T' cs y' hi hn;split at h
  .rename_i xs hxs;obtain⟨zs,hzs,h⟩:=bind_some h;unfold setI at hzs;split at hzs
   .rename_i hb;obtain rfl:=qSj hzs;obtain⟨l,h1,ev⟩:=hx;obtain⟨l',vs,h2,h3,h4⟩:=hH.hold _ _ hi;rw[h1]at h2;obtain rfl:=qSj h2;obtain⟨vs',ey,_⟩:=RD.int_inv (hy:RD E z _ _ [ρ y]);have ey:ρ y = .int .u32 y':=by simp only[List.cons.injEq]at ey;exact ey.1
    have hvs:=dtsC_all hxs h4;have hl:=h4.len;have hvl:vs.length=xs.length:=by rw[hvs,List.length_map]
    have hrun:=fl_ (P:=P) (w:=w) (off:=i.toNat) ho ev ey h3 (by rw[hn];rfl) (by apply Nat.ble_eq_true_of_le;simp[Value.cells];omega) (by simp[Value.cells,aZ_,eg_]);refine⟨none,_,z,g,_,_,h,⟨hrun,rfl,Fz.Le.refl z,Ga.Le.refl g,hnx.succ,?_,λh=>by cases h⟩⟩;have hnew:All2 (RC P E z g) (arrC (xs.set i.toNat y') 0 cs.length) (splice vs i.toNat (Value.int .u32 y').cells.toList):=by
     have e1:=arrC_ok (P:=P) (E:=E) (z:=z) (g:=g) (xs.set i.toNat y') (zs:=xs.set i.toNat y') (j:=0) rfl;have e2:splice vs i.toNat (Value.int .u32 y').cells.toList=(xs.set i.toNat y').map λn=>Value.int .u32 n:=by
      rw[hvs];have e3:i.toNat<(xs.map λn=>Value.int .u32 n).length:=by rw[List.length_map];omega
      simp only[splice,Value.cells,List.map_set,qLc,List.length_nil];rw[List.set_eq_take_append_cons_drop,if_pos e3];simp
     rw[e2]
     rwa [List.length_set,←hvl,←hl]at e1
    refine hH.turn (Ga.Le.refl g) (i:=id) (i':=id) (C:=λk=>k=l.b) (λk hk=>⟨_,hi,l,h1,hk⟩) (cn_ w _ _) (λk _ hk=>cm_ w _ k _ hk) (o' := .box T' (arrC (xs.set i.toNat y') 0 cs.length)) ?_ (λk hk => ?_) λj p hj => ?_
    .exact⟨l,_,h1,d6_ w _ _ _ T' h3,hnew⟩
    .obtain⟨l2,h5,rfl⟩:=hk;rw[h1]at h5;obtain rfl:=qSj h5;exact .inl rfl
    .rcases ax_ hj with⟨rfl,rfl⟩|⟨h5,h6⟩
     .exact .inl ⟨rfl,rfl⟩
     .exact .inr ⟨h5,.inl h5,h6⟩
   .cases hzs
  .cases h
 .cases h
def lStore (P:Program) (E:TE) (L:Nat->Option (SV E)) (H:Nat->Option (Obj E)) (T:TypeId) (x y:Operand) {R:Type} (k:Option (SV E)->Chs E->Option R):Option R :=
 match opS E L x,opS E L y with
 | some (.v (.one (.ptr id off))),some s=>match H id,s.cells?,as_ P T with
  | some (.box T' cs),some ys,some n=>match Nat.beq n ys.length&&Nat.ble (off+ys.length) cs.length with
   | true=>k none [(id,some (.box T' (eJ_ cs off ys)))]
   | false=>none
  | _,_,_=>none
 | some (.v (.one (.elo id q _ off))),some s=>match s.cells?,as_ P T with
  | some ys,some n=>match upH H (bR_ H ys) id with
   | some (.row e t xs foc)=>match foc.find? λp=>Nat.beq p.1 q with
    | some p=>match Nat.beq n ys.length&&Nat.ble (off+ys.length) (E.size t),aN_ E (upH H (bR_ H ys)) (E.flat t) (eJ_ (E.cells t p.2.2) off ys)with
     | true,some h=>k none ((id,some (.row e t (xs.set p.2.1.toNat (E.ufl t h)) [(q,p.2.1,E.ufl t h)]))::bR_ H ys)
     | _,_=>none
    | none=>none
   | _=>none
  | _,_=>none
 | some (.v (.one (.pix id i))),some s=>lStoreI P E H T id i s k
 | _,_=>none
theorem set_rows{t:Ty}{xs:List (Den E.S t)}{rows:List (List Value)}{y:Den E.S t}{r':List Value}(h:Rows E z t xs rows)(i:Nat)(hr:RD E z (E.flat t) (E.fl t y) r'):Rows E z t (xs.set i y) (rows.set i r'):=by
 intro j x r hx hr2;rw[List.getElem?_set]at hx hr2;by_cases hij:i=j
 .rw[if_pos hij]at hx hr2;split at hx
  .split at hr2
   .obtain rfl:=qSj hx;obtain rfl:=qSj hr2;exact hr
   .cases hr2
  .cases hx
 .rw[if_neg hij]at hx hr2;exact h j x r hx hr2
theorem lStore_ok{T:TypeId}{x y:Operand}(ho:o.op = .store T x y)(hnx:Fresh g nx)(hρ:OpR P E z g L ρ)(hH:HR P E Bs F0 w0 w z g H)(h:lStore P E L H T x y k=some r):bA_ P E Bs F0 w0 w z g nx H ρ o false k r:=by
 unfold lStore at h;split at h
 .rename_i id off s hx hy;split at h
  .rename_i T' cs ys n hi hc hn;split at h
   .rename_i hb;simp only[qAn]at hb;have hb1:=qNb hb.1;have hb2:=Nat.le_of_ble_eq_true hb.2;obtain⟨l,h1,ev⟩:=hρ x _ hx;obtain⟨l',vs,h2,h3,h4⟩:=hH.hold _ _ hi;rw[h1]at h2;obtain rfl:=qSj h2;have hys:=SV.cells_ok hc (hρ y _ hy);have hl1:ys.length=(ρ y).cells.size:=by rw[hys.len,Array.length_toList]
    have hl2:=h4.len;have hrun:=fl_ (P:=P) (w:=w) ho ev (rfl:ρ y=ρ y) h3 (by rw[hn];congr 1;omega) (by apply Nat.ble_eq_true_of_le;omega) (RC.cells hys);refine⟨none,_,z,g,_,_,h,⟨hrun,rfl,Fz.Le.refl z,Ga.Le.refl g,hnx.succ,?_,λh=>by cases h⟩⟩;refine hH.turn (Ga.Le.refl g) (i:=id) (i':=id) (C:=λk=>k=l.b) (λk hk=>⟨_,hi,l,h1,hk⟩) (cn_ w _ _) (λk _ hk=>cm_ w _ k _ hk) (o' := .box T' (eJ_ cs off ys)) ?_ (λk hk => ?_) λj p hj => ?_
    .exact⟨l,_,h1,d6_ w _ _ _ T' h3,fF_ off h4 hys⟩
    .obtain⟨l2,h5,rfl⟩:=hk;rw[h1]at h5;obtain rfl:=qSj h5;exact .inl rfl
    .rcases ax_ hj with⟨rfl,rfl⟩|⟨h5,h6⟩
     .exact .inl ⟨rfl,rfl⟩
     .exact .inr ⟨h5,.inl h5,h6⟩
   .cases h
  .cases h
 .rename_i id q ii off s hx hy;split at h
  .rename_i ys n hc hn;split at h
   .rename_i e t xs foc hi;split at h
    .rename_i p hp;split at h
     .rename_i hd hb hdl;simp only[qAn]at hb;have hb1:=qNb hb.1;have hb2:=Nat.le_of_ble_eq_true hb.2;obtain⟨z',hz,hH'⟩:=bB_ hH ys;have hpi:p.1=q:=qNb (by simpa using List.find?_some hp);obtain⟨lq,h1,_,ev⟩:=hρ x _ hx;obtain⟨lo,rows,h2,hln,hlc,hown,hlen,hrl,hrows,hfoc⟩:=hH'.hold _ _ hi;obtain⟨hg,lq',off2,h3,hA,hq,hix⟩:=hfoc p (List.mem_of_find?_eq_some hp);rw[hpi,h1]at h3;obtain rfl:=qSj h3;obtain⟨_,hxp,hlt⟩:=cE_ hg;have hil:p.2.1.toNat<rows.length:=by rw[hlen,hln];exact hlt
      have hrow:=hrows p.2.1.toNat p.2.2 _ hxp (List.getElem?_eq_getElem hil);have hys:=SV.cells_ok hc ((hρ y _ hy).le hz (Ga.Le.refl g));have hl1:ys.length=(ρ y).cells.size:=by rw[hys.len,Array.length_toList]
      have hsp:=fF_ off (cells_rd.1 hrow) hys;have hnew:=bI_ hH' hdl hsp;have hS:=Sep.single (L:=[lq.b]) (x := .row e lo.c lo.A lo.n lo.cap rows) ⟨hown,hlen,hrl⟩ (λk hk=>by
       obtain⟨a,ha,rfl⟩:=hk;rw[hA]at ha;obtain rfl:=qSj ha;simp)
      obtain⟨w',hrun,hS',hgrow,hoth⟩:=nW_ (P:=P) (k:=0) (j:=off) ho ev (rfl:ρ y=ρ y) hS rfl hA (List.getElem?_eq_getElem hil) (by rw[hq]) (by rw[hn];congr 1;omega) (by apply Nat.ble_eq_true_of_le;rw[hlc];omega) (RC.cells hys) rfl;have hh:=hS'.hold (.row e lo.c lo.A lo.n lo.cap (rows.set p.2.1.toNat (splice rows[p.2.1.toNat] off (ρ y).cells.toList))) (by simp);obtain⟨hown',hlen',hrl'⟩:=hh;rw[←E.fl_ufl t hd]at hnew;have hset:=set_rows hrows p.2.1.toNat hnew;refine⟨none,_,z',g,w',_,h,⟨hrun,rfl,hz,Ga.Le.refl g,hnx.succ,?_,λh=>by cases h⟩⟩;have hup:upH H ((id,some (.row e t (xs.set p.2.1.toNat (E.ufl t hd)) [(q,p.2.1,E.ufl t hd)]))::bR_ H ys)=upH (upH H (bR_ H ys)) [(id,some (.row e t (xs.set p.2.1.toNat (E.ufl t hd)) [(q,p.2.1,E.ufl t hd)]))]:=by
       rw[ao_];rfl
      rw[hup];refine hH'.turn (Ga.Le.refl g) (i:=id) (i':=id) (C:=λk=>k=lq.b) (λk hk=>⟨_,hi,lo,_,h2,hA,hk⟩) hgrow (λk _ hk=>hoth k hk) (o' := .row e t (xs.set p.2.1.toNat (E.ufl t hd)) [(q,p.2.1,E.ufl t hd)]) ?_ (λk hk => ?_) λj p' hj => ?_
      .refine⟨lo,_,h2,by rw[List.length_set];exact hln,hlc,hown',hlen',hrl',hset,λp' hp' => ?_⟩;obtain rfl:=List.mem_singleton.1 hp';refine⟨?_,lq,off2,h1,hA,hq,hix⟩;unfold af_;rw[if_pos (cE_ hg).1,List.getElem?_set,if_pos rfl,if_pos hlt]
      .obtain⟨l2,a2,h5,h6,rfl⟩:=hk;rw[h2]at h5;obtain rfl:=qSj h5;rw[hA]at h6;obtain rfl:=qSj h6;exact .inl rfl
      .rcases ax_ hj with⟨rfl,rfl⟩|⟨h5,h6⟩
       .exact .inl ⟨rfl,rfl⟩
       .exact .inr ⟨h5,.inl h5,h6⟩
     .cases h
    .cases h
   .cases h
  .cases h
 .rename_i id i s hx hy;exact lStoreI_ok ho hnx (hρ x _ hx) (hρ y _ hy) hH h
 .cases h
def cc_{t t':Ty}(h:t'=t)(xs:List (Den E.S t')):List (Den E.S t):=h▸xs
def SC.rdT(H:Nat->Option (Obj E))(t:Ty):SC E->Option (List (Den E.S t))
 | .dt (.sl t') xs=>if h:t'=t then some (cc_ h xs)else none
 | .own id=>match H id with
  | some (.row _ t' xs _)=>if h:t'=t then some (cc_ h xs)else none
  | some (.fr t' xs)=>if h:t'=t then some (cc_ h xs)else none
  | _=>none
 | .nils=>some []
 | .suf id lo=>match H id with
  | some (.row _ t' xs _)=>if h:t'=t then some (cc_ h (xs.drop lo.toNat))else none
  | _=>none
 | .pre id n=>match H id with
  | some (.row _ t' xs _)=>if h:t'=t then some (cc_ h (xs.take n.toNat))else none
  | _=>none
 | _=>none
theorem SC.rdT_ok{t:Ty}{c:SC E}{xs:List (Den E.S t)}{v:Value}(hH:HR P E Bs F0 w0 w z g H)(h:c.rdT H t=some xs)(hr:RC P E z g c v) :
  ∃A cap rows F,v = .slice A xs.length cap/\SlF F (E.size t) A xs.length rows w/\xs.length<=cap/\Rows E z t xs rows:=by
 unfold SC.rdT at h;split at h
 .rename_i t' ys;split at h
  .rename_i ht;subst ht;obtain rfl:=qSj h;obtain⟨A,cap,rows,ev,hsl,hcap,hrows⟩:=SC.fro_ok (c := .dt (.sl t') ys) hH rfl hr;exact⟨A,cap,rows,_,ev,hsl.stand hH.fz,hcap,hrows⟩
  .cases h
 .rename_i id;split at h
  .rename_i e t' ys foc hi;split at h
   .rename_i ht;subst ht;obtain rfl:=qSj h;obtain⟨l,h1,rfl⟩:=hr;obtain⟨l2,rows2,h3,hn3,hc3,hown3,hlen3,hrl3,hrows3,_⟩:=hH.hold _ _ hi;rw[h1]at h3;obtain rfl:=qSj h3;have hsl3:=cD_ (w:=w) (e:=e) (cap:=l.cap) ⟨hown3,hlen3,hrl3⟩;have hcap:=(Own.cap_le hown3).1;rw[hc3,hn3]at hsl3;rw[hn3]at hcap;exact⟨_,_,_,_,by rw[hn3];rfl,hsl3,hcap,hrows3⟩
   .cases h
  .rename_i t' ys hi;split at h
   .rename_i ht;subst ht;obtain rfl:=qSj h;obtain⟨A,cap,rows,ev,hsl,hcap,hrows⟩:=SC.fro_ok (c := .own id) (l:=⟨t',ys⟩) hH (by simp only[SC.fro,hi]) hr;exact⟨A,cap,rows,_,ev,hsl.stand hH.fz,hcap,hrows⟩
   .cases h
  .cases h
 .obtain rfl:=qSj h;simp only[RC]at hr;subst hr;exact⟨none,0,[],λ_=>False,rfl,SlF.nil _ _ _ _,Nat.le_refl _,λi x r h=>by simp at h⟩
 .rename_i id lo;split at h
  .rename_i e t' ys foc hi;split at h
   .rename_i ht;subst ht;obtain rfl:=qSj h;obtain⟨l,h1,hlo,ev⟩:=hr;obtain⟨l2,rows2,h3,hn3,hc3,hown3,hlen3,hrl3,hrows3,_⟩:=hH.hold _ _ hi;rw[h1]at h3;obtain rfl:=qSj h3;have hsl3:=cD_ (w:=w) (e:=e) (cap:=l.cap) ⟨hown3,hlen3,hrl3⟩;have hcap:=(Own.cap_le hown3).1;have hcut:=SlF.cut hsl3 hcap (lo:=lo.toNat) (hi:=l.n) hlo (Nat.le_refl _);have hsub:=cF_ hrows3 lo.toNat l.n;rw[List.take_of_length_le (by omega:ys.length<=l.n)]at hsub;have hl:(cc_ (E:=E) rfl (ys.drop lo.toNat)).length=l.n-lo.toNat:=by simp only[cc_,List.length_drop];omega
    refine⟨cutA l.A l.c lo.toNat l.cap,l.cap-lo.toNat,(rows2.take l.n).drop lo.toNat,cu_ l.A,by rw[hl];exact ev,?_,by rw[hl];omega,hsub⟩;rw[hl,←hc3];exact hcut
   .cases h
  .cases h
 .rename_i id n;split at h
  .rename_i e t' ys foc hi;split at h
   .rename_i ht;subst ht;obtain rfl:=qSj h;obtain⟨l,h1,hle,rfl⟩:=hr;obtain⟨l2,rows2,h3,hn3,hc3,hown3,hlen3,hrl3,hrows3,_⟩:=hH.hold _ _ hi;rw[h1]at h3;obtain rfl:=qSj h3;have hsl3:=cD_ (w:=w) (e:=e) (cap:=l.cap) ⟨hown3,hlen3,hrl3⟩;have hcap:=(Own.cap_le hown3).1;have e1:(cc_ (E:=E) rfl (ys.take n.toNat)).length=n.toNat:=by simp only[cc_,List.length_take];omega
    rw[hc3]at hsl3;refine⟨l.A,l.cap,rows2.take n.toNat,_,by rw[e1],by rw[e1];exact hsl3.take hle,by rw[e1];omega,?_⟩;have:=cF_ hrows3 0 n.toNat;rw[List.drop_zero,List.drop_zero]at this;exact this
   .cases h
  .cases h
 .cases h
theorem Rows.cells{t:Ty}{xs:List (Den E.S t)}{rows:List (List Value)}(h:Rows E z t xs rows)(hl:rows.length=xs.length):hB_ rows/\∀q∈rows,q.length=E.size t:=by
 have key:∀q∈rows,∃x,RD E z (E.flat t) (E.fl t x) q:=λq hq=>by
  obtain⟨i,hi⟩:=List.mem_iff_getElem?.1 hq;have hlt:=(List.getElem?_eq_some_iff.1 hi).1;exact⟨_,h i _ _ (List.getElem?_eq_getElem (by omega:i<xs.length)) hi⟩
 exact⟨λq hq=>let ⟨x,hx⟩:=key q hq;hx.cells,λq hq=>let ⟨x,hx⟩:=key q hq;hx.len⟩
theorem Rows.append{t:Ty}{xs ys:List (Den E.S t)}{rows news:List (List Value)}(h:Rows E z t xs rows)(h':Rows E z t ys news)(hl:rows.length=xs.length):Rows E z t (xs++ys) (rows++news):=by
 intro i x r hx hr;rw[List.getElem?_append]at hx hr;rw[hl]at hr;split at hx
 .rename_i hc;rw[if_pos hc]at hr;exact h i x r hx hr
 .rename_i hc;rw[if_neg hc]at hr;exact h' _ x r hx hr
def ek_(P:Program)(e:TypeId):Nat:=match P.info? e with|some i=>i.bytes|none=>0
def appK(P:Program)(E:TE)(H:Nat->Option (Obj E))(nx:Nat)(e:TypeId)(t:Ty)(xs:List (Den E.S t))(cy:SC E)(del:Chs E){R:Type}(k:Option (SV E)->Chs E->Option R):Option R:=match cy.rdT H t,elemB P e (E.size t) (ek_ P e)with|some ys,true=>Option.bind (room (ek_ P e) xs ys) λzs=>k (some (.v (.one (.own nx)))) ((nx,some (.row e t zs []))::del)|_,_=>none
def lApp (P:Program) (E:TE) (L:Nat->Option (SV E)) (H:Nat->Option (Obj E)) (nx:Nat) (T:TypeId) (x y:Operand) {R:Type} (k:Option (SV E)->Chs E->Option R):Option R :=
 match opS E L x,opS E L y,P.underlying T with
 | some (.v (.one cx)),some (.v (.one cy)),some (.slice e)=>match cx with
  | .own id=>match H id with
   | some (.row e' t xs _)=>match Nat.beq e' e with
    | true=>appK P E H nx e t xs cy [(id,none)] k
    | false=>none
   | _=>none
  | .pre id n=>match H id with
   | some (.row e' t xs _)=>match Nat.beq e' e with
    | true=>Option.bind (aB_ xs 0 n) λys=>appK P E H nx e t ys cy [(id,none)] k
    | false=>none
   | _=>none
  | .nils=>match E.ty e with
   | some t=>appK P E H nx e t [] cy [] k
   | none=>none
  | _=>none
 | _,_,_=>none
theorem appK_ok{T e:TypeId}{t:Ty}{x y:Operand}{xs:List (Den E.S t)}{cy:SC E}{del:Chs E}{A:Option Addr}{cap:Nat}{rows:List (List Value)}(ho:o.op = .call { callee := .builtin .append,args := #[x,y],argTypes := #[T,T] })(hu:P.underlying T=some (.slice e))
  (hnx:Fresh g nx) (hH:HR P E Bs F0 w0 w z g H) (ex:ρ x = .slice A xs.length cap) (hy:RC P E z g cy (ρ y)) (hown:w.ownsRow 0 e (E.size t) (.slice A xs.length cap) xs.length rows.flatten) (hlen:rows.length=xs.length) (hrows:Rows E z t xs rows)
  (i:Nat) (hC:∀q,cu_ A q->∃o,H i=some o/\fpO g i o q) (hdel:∀(o':Obj E) j p,upH H ((nx,some o')::del) j=some p->(j=nx/\p=o')\/(j≠nx/\(j≠i\/∀q,¬cu_ A q)/\H j=some p))
  (h:appK P E H nx e t xs cy del k=some r):bA_ P E Bs F0 w0 w z g nx H ρ o false k r:=by
 unfold appK at h;split at h
 .rename_i ys hys hel;obtain⟨zs,hz,h⟩:=bind_some h;have hEl:=elemOK hu hel;obtain⟨A2,cap2,news,F,ey,hsl,hcap2,hnews⟩:=SC.rdT_ok hH hys hy;obtain⟨hone,hnl⟩:=hnews.cells hsl.1;obtain⟨_,hrl⟩:=hrows.cells hlen;have hS:=Sep.single (L:=match A with|some a=>[a.block]|none=>[]) (x := .row e (E.size t) A xs.length cap rows) ⟨hown,hlen,hrl⟩ (λq hq=>by
   obtain⟨a,rfl,rfl⟩:=hq;simp)
  obtain⟨A',cap',w',hrun,hS',hgrow,hoth⟩:=run_append (P:=P) (k:=0) ho hEl ex ey hS rfl hsl hone rfl rfl hz hnl;obtain⟨h1,h2,rfl⟩:=jw_ hz;have hh:=hS'.hold (.row e (E.size t) A' (xs.length+ys.length) cap' (rows++news)) (by simp);obtain⟨hown',hlen',hrl'⟩:=hh;have hfp:=hS'.own (.row e (E.size t) A' (xs.length+ys.length) cap' (rows++news)) (by simp) trivial;have hl:(xs++ys).length=xs.length+ys.length:=qLa;refine⟨_,_,z,g.put nx ⟨A',(xs++ys).length,cap',E.size t,0,0⟩,w',_,h,⟨hrun,⟨_,rfl,_,Ga.put_self _ _ _,by rw[hl]⟩,Fz.Le.refl z,Ga.le_put hnx.self,hnx.put _,?_,λh=>by cases h⟩⟩;refine hH.turn (Ga.le_put hnx.self) (i:=i) (i':=nx) (C:=cu_ A) hC hgrow hoth (o' := .row e t (xs++ys) []) ?_ (λq hq => ?_) λj p hj => ?_
  .refine⟨_,rows++news,Ga.put_self _ _ _,rfl,rfl,?_,?_,hrl',hrows.append hnews hlen,λp hp=>nomatch hp⟩
   .simp only[hl];exact hown'
   .simp only[hl];exact hlen'
  .obtain⟨l2,a2,h5,h6,rfl⟩:=hq;rw[Ga.put_self]at h5;obtain rfl:=qSj h5;rcases hfp a2.block ⟨a2,h6,rfl⟩with h7|h7
   .exact .inr h7
   .left
    cases A with
    | none=>simp at h7
    | some a =>
     simp at h7;exact⟨a,rfl,h7⟩
  .exact hdel _ j p hj
 .cases h
theorem k3_{e c n m cap:Nat}{A:Option Addr}{rows:List (List Value)}(h:w.ownsRow 0 e c (.slice A n cap) n rows.flatten)(hl:rows.length=n)(hr:∀q∈rows,q.length=c)(hm:m<=n):w.ownsRow 0 e c (.slice A m cap) m (rows.take m).flatten:=by
 have hfl:(rows.take m).flatten=rows.flatten.take (m*c):=by
  have h1:rows.flatten=(rows.take m).flatten++(rows.drop m).flatten:=by rw[←List.flatten_append,List.take_append_drop]
  have h2:(rows.take m).flatten.length=m*c:=by
   rw[ak_ (c:=c) (λq hq=>hr q (List.mem_of_mem_take hq)),List.length_take]
   congr 1;omega
  rw[h1,List.take_left' h2]
 refine⟨?_,?_⟩
 .rw[ak_ (c:=c) (λq hq=>hr q (List.mem_of_mem_take hq)),List.length_take]
  congr 1;omega
 .rcases h.2 with⟨h2,h3⟩|⟨b,cap',cur,hv,hb,hh,hnc,hcm,hcs,htk⟩
  .injection h2 with e1 e2 e3;subst h3;obtain rfl:m=0:=by omega
   exact .inl ⟨by rw[e1,e3],rfl⟩
  .injection hv with e1 _ e3;subst e3;refine .inr ⟨b,cap,cur,by rw[e1],hb,hh,by omega,hcm,hcs,?_⟩;rw[hfl,←htk,List.take_take]
   congr 1
   have:m*c<=n*c:=Nat.mul_le_mul_right c hm;omega
theorem lApp_ok{T:TypeId}{x y:Operand}(ho:o.op = .call { callee := .builtin .append,args := #[x,y],argTypes := #[T,T] })(hnx:Fresh g nx)(hρ:OpR P E z g L ρ)(hH:HR P E Bs F0 w0 w z g H)(h:lApp P E L H nx T x y k=some r):bA_ P E Bs F0 w0 w z g nx H ρ o false k r:=by
 unfold lApp at h;split at h
 .rename_i cx cy e hx hy hu;have ex:=hρ x _ hx;split at h
  .rename_i id;split at h
   .rename_i e' t xs foc hi;split at h
    .rename_i hb;obtain rfl:=qNb hb;obtain⟨l,h1,ev⟩:=ex;obtain⟨l2,rows,h3,hn,hc,hown,hlen,hrl,hrows,_⟩:=hH.hold _ _ hi;rw[h1]at h3;obtain rfl:=qSj h3;rw[hc,hn]at hown;rw[hn]at ev hlen;exact appK_ok ho hu hnx hH ev (hρ y _ hy) hown hlen hrows id (λq ⟨a,ha,hq⟩=>⟨_,hi,l,a,h1,ha,hq⟩) (λo' j p hj=>by
      rcases kC_ hj with h5|⟨h5,h6,h7⟩
      .exact .inl h5
      .exact .inr ⟨h5,.inl h6,h7⟩) h
    .cases h
   .cases h
  .rename_i id n;split at h
   .rename_i e' t xs foc hi;split at h
    .rename_i hb;obtain rfl:=qNb hb;obtain⟨ys,hys,h⟩:=bind_some h;obtain⟨h00,h01,h02,rfl⟩:=fc_ hys;obtain⟨l,h1,_,ev⟩:=ex;obtain⟨l2,rows,h3,hn,hc,hown,hlen,hrl,hrows,_⟩:=hH.hold _ _ hi;rw[h1]at h3;obtain rfl:=qSj h3;have hm:n.toNat<=l.n:=by omega
     have hpre:=k3_ hown hlen hrl hm;have hyl:((xs.take n.toNat).drop (0:Int).toNat).length=n.toNat:=by simp;omega
     have hsub:=cF_ hrows 0 n.toNat;simp only[List.drop_zero]at hsub;simp only[Int.toNat_zero,List.drop_zero]at h hyl;rw[←hyl]at ev hpre;rw[hc]at hpre;exact appK_ok ho hu hnx hH ev (hρ y _ hy) (rows:=rows.take n.toNat) (by rw[hyl]at hpre ⊢;exact hpre) (by rw[List.length_take,hyl];omega) hsub id (λq ⟨a,ha,hq⟩=>⟨_,hi,l,a,h1,ha,hq⟩) (λo' j p hj=>by
      rcases kC_ hj with h5|⟨h5,h6,h7⟩
      .exact .inl h5
      .exact .inr ⟨h5,.inl h6,h7⟩) h
    .cases h
   .cases h
  .split at h
   .rename_i t ht;have ev:ρ x = .slice none 0 0:=ex;exact appK_ok (xs:=([]:List (Den E.S t))) (del:=[]) (A:=none) (cap:=0) (rows:=[]) ho hu hnx hH ev (hρ y _ hy) ⟨by simp,.inl ⟨rfl,rfl⟩⟩ rfl (λi x r h=>by simp at h) nx (λq ⟨a,ha,_⟩=>nomatch ha) (λo' j p hj=>by
      rcases ax_ hj with h5|⟨h5,h7⟩
      ·exact .inl h5
      ·exact .inr ⟨h5,.inr (λq ⟨a,ha,_⟩=>nomatch ha),h7⟩) h
   .cases h
  .cases h
 .cases h
def byteB(P:Program)(e:TypeId):Bool:=match P.info? e with
 | some i=>(match i.zero with|some (.int .u8 0)=>true|_=>false)&&Nat.beq i.size 1&&Nat.beq i.bytes 1
 | none=>false
def lAppS (P:Program) (E:TE) (L:Nat->Option (SV E)) (H:Nat->Option (Obj E)) (nx:Nat) (T T':TypeId) (x y:Operand) {R:Type} (k:Option (SV E)->Chs E->Option R):Option R :=
 match opS E L x,opS E L y,P.underlying T,P.underlying T' with
 | some (.v (.one cx)),some (.v (.one (.dt .str s))),some (.slice e),some .string=>match byteB P e,cx with
  | true,.own id=>match H id with
   | some (.row e' (.int .u8) xs _)=>match Nat.beq e' e with
    | true=>Option.bind (room 1 (α:=Int) xs (bQ_ s)) λzs=>k (some (.v (.one (.own nx)))) [(nx,some (.row e (.int .u8) zs [])),(id,none)]
    | false=>none
   | _=>none
  | true,.nils=>Option.bind (room 1 (α:=Int) [] (bQ_ s)) λzs=>k (some (.v (.one (.own nx)))) [(nx,some (.row e (.int .u8) zs []))]
  | _,_=>none
 | _,_,_,_=>none
theorem rowsI_map{κ : IntKind}{xs:List Int}{rows:List (List Value)}(h:Rows E z (.int κ) xs rows)(hl:rows.length=xs.length):rows=xs.map λx=>[Value.int κ x]:=by
 apply List.ext_getElem?;intro i;rw[List.getElem?_map];rcases Nat.lt_or_ge i xs.length with hi|hi
 .have hx:=List.getElem?_eq_getElem hi;have hr:=List.getElem?_eq_getElem (show i<rows.length by omega);obtain⟨vs,h1,h2⟩:=RD.int_inv (show RD E z [.int κ] (xs[i],()) rows[i]from h i _ _ hx hr);rw[hr,hx,h1,h2.nil_inv];rfl
 .rw[List.getElem?_eq_none (by omega),List.getElem?_eq_none hi];rfl
theorem rowsI_mk{κ : IntKind}(xs:List Int):Rows E z (.int κ) xs (xs.map λx=>[Value.int κ x]):=λi x r h1 h2=>by
 rw[List.getElem?_map]at h2;rw[h1]at h2;obtain rfl:=qSj h2;exact RD.int .nil
theorem ik_{κ : IntKind}:∀(xs:List Int),(xs.map λx=>[Value.int κ x]).flatten=xs.map (Value.int κ)
 | []=>rfl
 | x::xs=>by rw[List.map_cons,List.flatten_cons,ik_ xs];rfl
theorem strI_cells(s:Str):Lib.strCells ⟨s.toArray⟩=(bQ_ s).map (Value.int .u8):=by
 unfold Lib.strCells bQ_;simp
theorem appS_ok{T T' e:TypeId}{x y:Operand}{xs:List Int}{s:Str}{del:Chs E}{A:Option Addr}{cap:Nat}(ho:o.op = .call { callee := .builtin .append,args := #[x,y],argTypes := #[T,T'] })(hu:P.underlying T=some (.slice e))(hu':P.underlying T'=some .string)(hB:byteB P e=true)
  (hnx:Fresh g nx) (hH:HR P E Bs F0 w0 w z g H) (ex:ρ x = .slice A xs.length cap) (ey:ρ y=S s) (hown:w.ownsRow 0 e 1 (.slice A xs.length cap) xs.length (xs.map (Value.int .u8)))
  (i:Nat) (hC:∀q,cu_ A q->∃o,H i=some o/\fpO g i o q) (hdel:∀(o':Obj E) j p,upH H ((nx,some o')::del) j=some p->(j=nx/\p=o')\/(j≠nx/\(j≠i\/∀q,¬cu_ A q)/\H j=some p))
  (h:Option.bind (room 1 (α:=Int) xs (bQ_ s)) (λzs=>k (some (.v (.one (.own nx)))) ((nx,some (.row e (.int .u8) zs []))::del))=some r):bA_ P E Bs F0 w0 w z g nx H ρ o false k r:=by
 obtain⟨zs,hz,h⟩:=bind_some h;obtain⟨h1,h2,rfl⟩:=jw_ hz;have hsl:(bQ_ s).length=s.length:=by simp[bQ_]
 unfold byteB at hB;split at hB
 .rename_i inf hi;simp only[qAn]at hB;obtain⟨⟨hz0,hz1⟩,hz2⟩:=hB;have hz0':inf.zero=some (.int .u8 0):=by
   split at hz0
   .assumption
   .cases hz0
  obtain⟨v',w',hrun,hown',hgrow,_⟩:=Lib.run_append_own_string (P:=P) (w:=w) 0 T T' o.type e inf hu hu' hi hz0' (qNb hz1) (qNb hz2) _ _ _ hown ⟨s.toArray⟩ (by unfold maxLen;rw[size_mk];omega) (by rw[size_mk];omega) (Nat.zero_le _);rw[strI_cells,size_mk]at hown';have hl:(xs++bQ_ s).length=xs.length+s.length:=by rw[qLa,hsl]
  rw[←List.map_append,←hl]at hown';obtain⟨A',cap',rfl,hA'⟩:∃A' cap',v' = .slice A' (xs++bQ_ s).length cap'/\∀q,cu_ A' q->v' = .slice A' (xs++bQ_ s).length cap':=by
   rcases hown'.2 with⟨hv,hn⟩|⟨b,cap',cur,hv,_⟩
   .exact⟨none,0,by rw[hv,hn],λq ⟨a,ha,_⟩=>nomatch ha⟩
   .exact⟨_,_,hv,λ_ _=>hv⟩
  have hrun':(execOp ρ o).run P w = .ok (.value (.slice A' (xs++bQ_ s).length cap')) w':=by
   unfold execOp;rw[ho];simp only[resolve,invoke,builtin,Sem.run_bind,Sem.run_pure,Result.andThen_ok,List.map_toArray,List.map_cons,List.map_nil,ex,ey];show(Result.andThen ((Builtin.append_ #[T,T'] o.type #[Value.slice A xs.length cap,Value.string ⟨s.toArray⟩]).run P w) _)=_;rw[hrun];rfl
  have hfp:∀q,cu_ A' q->cu_ A q\/w.heap.size<=q:=λq ⟨a,ha,hq⟩=>by
   subst ha;have hxl:(xs.map (Value.int .u8)).length=xs.length:=List.length_map ..;have h4:xs.length+s.length<=9223372036854775807:=by omega
   have h5:xs.length+s.length<=140737488355328:=by omega
   rcases hown.2 with⟨hv,hn⟩|⟨g,cap2,cur,hv,_,hg,hnc,_,hcs,_⟩
   .rw[hv]at hrun;obtain⟨v2,w2,hrun2,hown2,_,_⟩:=Lib.run_append_own_string (P:=P) (w:=w) w.heap.size T T' o.type e inf hu hu' hi hz0' (qNb hz1) (qNb hz2) _ _ _ (World.ownsRow_nil w w.heap.size e 1) ⟨s.toArray⟩ (by unfold maxLen;rw[size_mk];omega) (by rw[size_mk];omega) (Nat.le_refl _);rw[hrun]at hrun2;injection hrun2 with e1 e2;subst e1;rcases hown2.2 with⟨hv2,_⟩|⟨b,_,_,hv2,hb,_⟩
    .cases hv2
    .injection hv2 with e3;obtain rfl:=qSj e3;exact .inr (by rw[hq];exact hb)
   .rw[hv]at hrun;by_cases hroom:xs.length+s.length<=cap2
    .have hr:=Lib.run_append_room_string (P:=P) w T T' o.type e inf hu hu' hi (qNb hz1) g xs.length cap2 cur hg ⟨s.toArray⟩ (by rw[size_mk];exact hroom) (by rw[size_mk,hcs];omega);rw[hrun]at hr;injection hr with e1 e2;injection e1 with e3;obtain rfl:=qSj e3;injection hv with e4;exact .inl ⟨_,e4,hq⟩
    .have hr:=Lib.run_append_grow_string (P:=P) w T T' o.type e inf (.int .u8 0) hu hu' hi hz0' ⟨g,0,none⟩ xs.length cap2 (xs.map (Value.int .u8)) (by rw[qNb hz1];simp) (World.ownsRow.cells hown (g:=g) (by rw[hv];rfl)) ⟨s.toArray⟩ (by rw[size_mk];omega) (by rw[size_mk];omega) (by rw[qNb hz2];exact growslice_fits (by rw[size_mk];omega) (by rw[size_mk];omega));rw[hrun]at hr;injection hr with e1 e2;injection e1 with e3;obtain rfl:=qSj e3;exact .inr (by rw[hq];exact Nat.le_refl _)
  refine⟨_,_,z,g.put nx ⟨A',(xs++bQ_ s).length,cap',1,0,0⟩,w',_,h,⟨hrun',⟨_,rfl,_,Ga.put_self _ _ _,rfl⟩,Fz.Le.refl z,Ga.le_put hnx.self,hnx.put _,?_,λh=>by cases h⟩⟩;refine hH.turn (Ga.le_put hnx.self) (i:=i) (i':=nx) (C:=cu_ A) hC ⟨hgrow.os,hgrow.tape,hgrow.output,hgrow.size⟩ (λk hk hn=>hgrow.block k hk λe => ?_) (o' := .row e (.int .u8) (xs++bQ_ s) []) ?_ (λq hq => ?_) λj p hj=>hdel _ j p hj
  .cases A with
   | none=>cases e
   | some a=>exact hn ⟨a,rfl,qSj e⟩
  .refine⟨_,(xs++bQ_ s).map λx=>[Value.int .u8 x],Ga.put_self _ _ _,rfl,rfl,?_,by simp,λq hq => ?_,rowsI_mk _,λp hp=>nomatch hp⟩
   .rw[ik_];exact hown'
   .obtain⟨x,_,rfl⟩:=List.mem_map.1 hq;rfl
  .obtain⟨l2,a2,h5,h6,rfl⟩:=hq;rw[Ga.put_self]at h5;obtain rfl:=qSj h5;exact hfp _ ⟨a2,h6,rfl⟩
 .cases hB
theorem lAppS_ok{T T':TypeId}{x y:Operand}(ho:o.op = .call { callee := .builtin .append,args := #[x,y],argTypes := #[T,T'] })(hnx:Fresh g nx)(hρ:OpR P E z g L ρ)(hH:HR P E Bs F0 w0 w z g H)(h:lAppS P E L H nx T T' x y k=some r):bA_ P E Bs F0 w0 w z g nx H ρ o false k r:=by
 unfold lAppS at h;split at h
 .rename_i cx s e hx hy hu hu';have ex:=hρ x _ hx;have ey:=SV.str_ok rfl (hρ y _ hy);split at h
  .rename_i id hB;split at h
   .rename_i e' xs foc hi;split at h
    .rename_i hb;obtain rfl:=qNb hb;obtain⟨l,h1,ev⟩:=ex;obtain⟨l2,rows,h3,hn,hc,hown,hlen,hrl,hrows,_⟩:=hH.hold _ _ hi;rw[h1]at h3;obtain rfl:=qSj h3;have hc1:l.c=1:=hc;rw[hc1,hn,rowsI_map hrows (hlen.trans hn),ik_]at hown;rw[hn]at ev;exact appS_ok ho hu hu' hB hnx hH ev ey hown id (λq ⟨a,ha,hq⟩=>⟨_,hi,l,a,h1,ha,hq⟩) (λo' j p hj=>by
      rcases kC_ hj with h5|⟨h5,h6,h7⟩
      .exact .inl h5
      .exact .inr ⟨h5,.inl h6,h7⟩) h
    .cases h
   .cases h
  .rename_i hB;have ev:ρ x = .slice none 0 0:=ex;exact appS_ok (xs:=[]) (del:=[]) (A:=none) (cap:=0) ho hu hu' hB hnx hH ev ey ⟨by simp,.inl ⟨rfl,rfl⟩⟩ nx (λq ⟨a,ha,_⟩=>nomatch ha) (λo' j p hj=>by
      rcases ax_ hj with h5|⟨h5,h7⟩
      ·exact .inl h5
      ·exact .inr ⟨h5,.inr (λq ⟨a,ha,_⟩=>nomatch ha),h7⟩) h
  .cases h
 .cases h
theorem HR.row_new{e:TypeId}{t:Ty}{xs:List (Den E.S t)}{A:Option Addr}{cap n:Nat}{rows:List (List Value)}{w':World}(h:HR P E Bs F0 w0 w z g H)(hnx:Fresh g nx)(hx:Ext w w')(hn:xs.length=n)
  (hown:w'.ownsRow 0 e (E.size t) (.slice A n cap) n rows.flatten) (hlen:rows.length=n) (hrows:Rows E z t xs rows) (hfp:∀q,cu_ A q->w.heap.size<=q) :
  HR P E Bs F0 w0 w' z (g.put nx ⟨A,n,cap,E.size t,0,0⟩) (upH H [(nx,some (.row e t xs []))]):=by
 refine h.add (o := .row e t xs []) hx hnx.self ⟨_,rows,Ga.put_self _ _ _,hn.symm,rfl,hown,hlen,(hrows.cells (by omega)).2,hrows,λp hp=>nomatch hp⟩ (λq hq => ?_) λj p hj=>ax_ hj
 obtain⟨l2,a2,h5,h6,rfl⟩:=hq;rw[Ga.put_self]at h5;obtain rfl:=qSj h5;exact hfp _ ⟨a2,h6,rfl⟩
def zeroD(P:Program)(E:TE)(e:TypeId)(t:Ty):Option (Den E.S t):=match fE_ P E e with
 | some zc=>match aN_ E (λ_=>none) (E.flat t) zc with
  | some h=>some (E.ufl t h)
  | none=>none
 | none=>none
def Operand.same:Operand->Operand->Bool | .tmp a,.tmp b=>Nat.beq a b | .const (.int _ a),.const (.int _ b)=>decide (a=b)|_,_=>false
def Operand.zero:Operand->Bool | .const (.int _ a)=>decide (a=0)|_=>false
def lMake(P:Program)(E:TE)(L:Nat->Option (SV E))(nx:Nat)(T:TypeId)(x y:Operand){R:Type}(k:Option (SV E)->Chs E->Option R):Option R :=
 match P.underlying T with
 | some (.slice e)=>match E.ty e,opS E L y with
  | some t,some (.v (.one (.dt (.int _) n)))=>match zeroD P E e t,elemB P e (E.size t) (ek_ P e),Operand.same x y,Operand.zero x with
   | some zv,true,true,_=>Option.bind (ef_ (ek_ P e) zv n) λxs=>k (some (.v (.one (.own nx)))) [(nx,some (.row e t xs []))]
   | some zv,true,false,true=>Option.bind (ef_ (ek_ P e) zv n) λ_=>k (some (.v (.one (.own nx)))) [(nx,some (.row e t [] []))]
   | _,_,_,_=>none
  | _,_=>none
 | _=>none
theorem lN_ {e:TypeId} {t:Ty} {x:Den E.S t} (h:zeroD P E e t=some x):∃zs,zeroOf P e=some zs/\RD E z (E.flat t) (E.fl t x) zs:=by
 unfold zeroD at h;split at h
 .rename_i zc hz;split at h
  .rename_i hd hh;obtain rfl:=qSj h;obtain⟨zs,h1,h2⟩:=ij_ (P:=P) (z:=z) (g:=λ_=>none) hz;refine⟨zs,h1,?_⟩;rw[E.fl_ufl]
   have key:∀{ts:List Ty} {cs:List (SC E)} {hl:HL E.S ts} {vs:List Value},aN_ E (λ_=>none) ts cs=some hl->All2 (RC P E z (λ_=>none)) cs vs->RD E z ts hl vs:=by
    intro ts cs hl vs hd hc
    induction cs generalizing ts vs with
    | nil=>cases ts with
     | nil=>cases hc;exact .nil
     | cons t ts=>simp[aN_]at hd
    | cons c cs ih=>cases ts with
     | nil=>simp[aN_]at hd
     | cons t ts =>
      cases hc with
      | cons h1 h2 =>
       simp only[aN_]at hd;split at hd
       .cases hd
       .rename_i y hy;split at hd
        .rename_i h' hh';obtain rfl:=qSj hd;refine RD.cons ?_ (ih hh' h2);unfold SC.data at hy;split at hy
         .split at hy
          .rename_i ht;subst ht;obtain rfl:=qSj hy;exact h1
          .cases hy
         .split at hy
          .obtain rfl:=qSj hy;simp only[RC]at h1;subst h1;exact RD.sl (xs:=[]) (cap:=0) (SlF.nil _ _ _ _) (Nat.le_refl _) (rows:=[]) (λi x r h=>by simp at h) .nil
          .cases hy
         .cases hy
         .cases hy
         .cases hy
        .cases hd
   exact key hh h2
  .cases h
 .cases h
theorem same_int{x y:Operand}{ky:IntKind}{n:Int}(hs:Operand.same x y=true)(hy:ρ y = .int ky n)(hρc:∀v,ρ (.const v)=v):∃kx,ρ x = .int kx n:=by
 unfold Operand.same at hs;split at hs
 .obtain rfl:=qNb hs;exact⟨ky,hy⟩
 .rename_i ka a kb b;simp only[decide_eq_true_eq]at hs;subst hs;rw[hρc]at hy;injection hy with h1 h2;exact⟨ka,by rw[hρc,h2]⟩
 .cases hs
theorem lMake_ok{T:TypeId}{x y:Operand}(ho:o.op = .makeSlice T x y)(hρc:∀v,ρ (.const v)=v)(hnx:Fresh g nx)(hρ:OpR P E z g L ρ)(hH:HR P E Bs F0 w0 w z g H)(h:lMake P E L nx T x y k=some r):bA_ P E Bs F0 w0 w z g nx H ρ o true k r:=by
 unfold lMake at h;split at h
 .rename_i e hu;split at h
  .rename_i t ky n ht hy;have hyv:=SV.int_ok rfl (hρ y _ hy);split at h
   .rename_i zv hz hel hsame;obtain⟨xs,hxs,h⟩:=bind_some h;have hEl:=elemOK hu hel;obtain⟨zs,hzo,hzr⟩:=lN_ (z:=z) hz;obtain⟨kx,hxv⟩:=same_int hsame hyv hρc;obtain⟨A',w',hrun,hS',hext⟩:=run_makeSlice_full (P:=P) ho hEl hzo hxv hyv (Sep.start [] w) hxs;obtain⟨h0,h1,h2,rfl⟩:=fA_ hxs;obtain⟨hown',hlen',_⟩:=hS'.hold _ (List.mem_cons_self ..);have hfp:=hS'.own _ (List.mem_cons_self ..) trivial;have hrows:Rows E z t (List.replicate n.toNat zv) (List.replicate n.toNat zs):=λi x r hx hr=>by
     rw[List.getElem?_replicate]at hx hr;split at hx
     .rename_i hc;rw[if_pos hc]at hr;obtain rfl:=qSj hx;obtain rfl:=qSj hr;exact hzr
     .cases hx
    exact⟨_,_,z,_,w',_,h,⟨hrun,⟨_,rfl,_,Ga.put_self _ _ _,rfl⟩,Fz.Le.refl z,Ga.le_put hnx.self,hnx.put _,hH.row_new hnx hext (by simp) hown' hlen' hrows (λq ⟨a,ha,hq⟩=>(hfp q ⟨a,ha,hq⟩).resolve_right (by simp)),λ_=>hext⟩⟩
   .rename_i zv hz hel hsame hzero;obtain⟨xs,hxs,h⟩:=bind_some h;have hEl:=elemOK hu hel;have hxv:∃kx,ρ x = .int kx 0:=by
     unfold Operand.zero at hzero;split at hzero
     .rename_i ka a;simp only[decide_eq_true_eq]at hzero;subst hzero;exact⟨ka,hρc _⟩
     .cases hzero
    obtain⟨kx,hxv⟩:=hxv;obtain⟨A',w',hrun,hS',hext⟩:=kN_ (P:=P) ho hEl hxv hyv (Sep.start [] w) hxs;obtain⟨hown',hlen',_⟩:=hS'.hold _ (List.mem_cons_self ..);have hfp:=hS'.own _ (List.mem_cons_self ..) trivial;exact⟨_,_,z,_,w',_,h,⟨hrun,⟨_,rfl,_,Ga.put_self _ _ _,rfl⟩,Fz.Le.refl z,Ga.le_put hnx.self,hnx.put _,hH.row_new hnx hext rfl hown' hlen' (λi x r h=>by simp at h) (λq ⟨a,ha,hq⟩=>(hfp q ⟨a,ha,hq⟩).resolve_right (by simp)),λ_=>hext⟩⟩
   .cases h
  .cases h
 .cases h
def lAppN (P:Program) (E:TE) (L:Nat->Option (SV E)) (nx:Nat) (T T':TypeId) (x y:Operand) {R:Type} (k:Option (SV E)->Chs E->Option R):Option R :=
 match opS E L x,opS E L y,P.underlying T,P.underlying T' with
 | some (.v (.one .nils)),some (.v (.one (.dt (.int _) n))),some (.slice e),some (.int _)=>match E.ty e with
  | some t=>match zeroD P E e t,elemB P e (E.size t) (ek_ P e)with
   | some zv,true=>match decide (0<n)with
    | true=>Option.bind (ef_ (ek_ P e) zv n) λxs=>k (some (.v (.one (.own nx)))) [(nx,some (.row e t xs []))]
    | false=>none
   | _,_=>none
  | none=>none
 | _,_,_,_=>none
theorem lAppN_ok{T T':TypeId}{x y:Operand}(ho:o.op = .call { callee := .builtin .append,args := #[x,y],argTypes := #[T,T'] })(hnx:Fresh g nx)(hρ:OpR P E z g L ρ)(hH:HR P E Bs F0 w0 w z g H)(h:lAppN P E L nx T T' x y k=some r):bA_ P E Bs F0 w0 w z g nx H ρ o false k r:=by
 unfold lAppN at h;split at h
 .rename_i ky n e kn hx hy hu hu';have ex:ρ x = .slice none 0 0:=hρ x _ hx;have ey:=SV.int_ok rfl (hρ y _ hy);split at h
  .rename_i t ht;split at h
   .rename_i zv hz hel;split at h
    case h_2=>cases h
    rename_i hpos;obtain⟨xs,hxs,h⟩:=bind_some h;have hpos:=of_decide_eq_true hpos;obtain⟨zs,hzo,hzr⟩:=lN_ (z:=z) hz;obtain⟨_,i,z',hi,hzz,hsz,hby,hzs,hsp⟩:=elemOK hu hel;obtain⟨h0,h1,h2,rfl⟩:=fA_ hxs;have key:∀n:Int,0<=n->∃m:Nat,n=(m:Int):=λn h=>⟨n.toNat,by omega⟩
    obtain⟨m,rfl⟩:=key n h0;have hpos':0<m:=by have:(0:Int)<(m:Int):=hpos;omega
    have h2':ek_ P e*m<=281474976710656:=by have:=h2;rw[←Int.natCast_mul]at this;omega
    have hzl:zs=z'.cells.toList:=by
     simp only[zeroOf,hi,hzz,qOi]at hzo;exact hzo.symm
    have hlen:zs.length=i.size:=by rw[hzl,Array.length_toList];omega
    have hrun:=Lib.run_append_nil_zeros (P:=P) w T T' o.type e i z' ky kn hu hu' hi hzz m hpos' (by omega) h1 (by rw[hby,Nat.mul_comm];exact h2');have hcap:=grownCap_ge w m 0 e;have hfl:(Builtin.zeroCells z'.cells m).toList=(List.replicate m zs).flatten:=by
     rw[bg_,hzl,Array.length_toList];rfl
    have hxrow:Rows E z t (List.replicate m zv) (List.replicate m zs):=λi x r hx hr=>by
     rw[List.getElem?_replicate]at hx hr;split at hx
     .rename_i hc;rw[if_pos hc]at hr;obtain rfl:=qSj hx;obtain rfl:=qSj hr;exact hzr
     .cases hx
    have hext:Ext w (w.drew.alloc (.cells (Builtin.zeroCells z'.cells m++Builtin.zeroCells z'.cells (grownCap w m 0 e-m)) e)):=(Ext.refl w).drew.trans (Ext.one _ _);have hzc:∀q,(Builtin.zeroCells z'.cells q).size=q*i.size:=λq=>by
     unfold Builtin.zeroCells;rw[Array.size_map,Array.size_range];rw[show z'.cells.size=i.size by omega]
    have hown:(w.drew.alloc (.cells (Builtin.zeroCells z'.cells m++Builtin.zeroCells z'.cells (grownCap w m 0 e-m)) e)).ownsRow 0 e (E.size t) (.slice (some ⟨w.heap.size,0,none⟩) m (grownCap w m 0 e)) m (List.replicate m zs).flatten:=by
     refine⟨by rw[←hfl,Array.length_toList,hzc,hsz],.inr ⟨w.heap.size,grownCap w m 0 e,_,rfl,Nat.zero_le _,(by show(w.heap.push _)[w.heap.size]? = _;rw[Array.getElem?_push_size]),hcap,grownCap_le_maxLen w m 0 e (by unfold maxLen;omega),?_,?_⟩⟩
     .rw[Array.size_append,hzc,hzc,←Nat.add_mul,hsz]
      congr 1;omega
     .rw[Array.toList_append,List.take_left' (by rw[Array.length_toList,hzc,hsz])];exact hfl
    refine⟨_,_,z,_,_,_,h,⟨?_,⟨_,rfl,_,Ga.put_self _ _ _,rfl⟩,Fz.Le.refl z,Ga.le_put hnx.self,hnx.put _,hH.row_new hnx hext (by simp) hown (by simp) hxrow (λq ⟨a,ha,hq⟩=>by obtain rfl:=qSj ha;rw[hq];exact Nat.le_refl _),λe=>nomatch e⟩⟩;unfold execOp;rw[ho];simp only[resolve,invoke,builtin,Sem.run_bind,Sem.run_pure,Result.andThen_ok,List.map_toArray,List.map_cons,List.map_nil,ex,ey];show(Result.andThen ((Builtin.append_ #[T,T'] o.type #[Value.slice none 0 0,Value.int ky (m:Int)]).run P w) _)=_;rw[hrun];simp
   .cases h
  .cases h
 .cases h
def hI_(E:TE)(H:Nat->Option (Obj E))(t:Ty):Nat->List (SC E)->Option (List (Den E.S t))
 | 0,_=>some []
 | n+1,l=>match aN_ E H (E.flat t) (l.take (E.size t))with
  | some h=>match hI_ E H t n (l.drop (E.size t))with
   | some xs=>some (E.ufl t h::xs)
   | none=>none
  | none=>none
theorem mF_{t:Ty}(hH:HR P E Bs F0 w0 w z g H):∀{n:Nat} {l:List (SC E)} {xs:List (Den E.S t)} {vs:List Value},hI_ E H t n l=some xs->All2 (RC P E z g) l vs->vs.length=n*E.size t ->
  ∃rows:List (List Value),rows.flatten=vs/\rows.length=n/\xs.length=n/\Rows E z t xs rows
 | 0,l,xs,vs,h,hr,hl=>by
  simp only[hI_,qOi]at h;subst h;rw[Nat.zero_mul]at hl;exact⟨[],(List.eq_nil_of_length_eq_zero hl).symm,rfl,rfl,λi x r h=>by simp at h⟩
 | n + 1,l,xs,vs,h,hr,hl=>by
  simp only[hI_]at h;split at h
  .rename_i hd hh;split at h
   .rename_i xs' hx;obtain rfl:=qSj h;have hrow:=bI_ hH hh (hr.take (E.size t));obtain⟨rows,h1,h2,h3,h4⟩:=mF_ hH hx (hr.drop (E.size t)) (by rw[List.length_drop,hl,Nat.succ_mul];omega);refine⟨vs.take (E.size t)::rows,by rw[List.flatten_cons,h1,List.take_append_drop],by simp[h2],by simp[h3],λi x r hx hr => ?_⟩;cases i with
    | zero =>
     simp only[List.getElem?_cons_zero,qOi]at hx hr;subst hx;subst hr;rw[E.fl_ufl];exact hrow
    | succ i =>
     simp only[List.getElem?_cons_succ]at hx hr;exact h4 i x r hx hr
   .cases h
  .cases h
theorem All2.rep{l:List (SC E)}{vs:List Value}(h:All2 (RC P E z g) l vs):∀n,All2 (RC P E z g) (List.replicate n l).flatten (List.replicate n vs).flatten
 | 0 => .nil
 | n+1=>by
  simp only[List.replicate_succ,List.flatten_cons];exact h.append (h.rep n)
def lSlice (P:Program) (E:TE) (L:Nat->Option (SV E)) (H:Nat->Option (Obj E)) (nx:Nat) (T:TypeId) (n:Nat) (ps:Array (Nat×Operand)) {R:Type} (k:Option (SV E)->Chs E->Option R):Option R :=
 match P.underlying T with
 | some (.slice e)=>match E.ty e,fE_ P E e,as_ P e with
  | some t,some zc,some s=>match Nat.beq s (E.size t)&&Nat.beq zc.length s&&Nat.ble (n*s) 16777216&&Nat.ble n 9223372036854775807 with
   | true=>match hH_ E L s ps.toList (List.replicate n zc).flatten with
    | some l=>match hI_ E (upH H (bR_ H l)) t n l with
     | some xs=>k (some (.v (.one (.own nx)))) ((nx,some (.row e t xs []))::bR_ H l)
     | none=>none
    | none=>none
   | false=>none
  | _,_,_=>none
 | _=>none
theorem lSlice_ok {T:TypeId} {n:Nat} {ps:Array (Nat×Operand)} (ho:o.op = .buildSlice T n ps) (hnx:Fresh g nx) (hρ:OpR P E z g L ρ) (hH:HR P E Bs F0 w0 w z g H) (h:lSlice P E L H nx T n ps k=some r):bA_ P E Bs F0 w0 w z g nx H ρ o true k r:=by
 unfold lSlice at h;split at h
 .rename_i e hu;split at h
  .rename_i t zc s ht hz hs;split at h
   .rename_i hb;simp only[qAn]at hb;obtain⟨⟨⟨hb1,hb2⟩,hb3⟩,hb4⟩:=hb;obtain rfl:=qNb hb1;have hzl:=qNb hb2;have hbig:=Nat.le_of_ble_eq_true hb3;split at h
    .rename_i l hl;split at h
     .rename_i xs hx;obtain⟨zs,hzo,hzr⟩:=ij_ (P:=P) (z:=z) (g:=g) hz;have hzs:zs.length=E.size t:=by rw[←hzr.len];exact hzl
      obtain⟨inf,zv,hi,hzv,rfl⟩:∃inf zv,P.info? e=some inf/\inf.zero=some zv/\zs=zv.cells.toList:=by
       unfold zeroOf at hzo;split at hzo
       .rename_i inf hi;split at hzo
        .rename_i zv hzv;exact⟨inf,zv,hi,hzv,(qSj hzo).symm⟩
        .cases hzo
       .cases hzo
      have hsz:inf.size=E.size t:=by simpa[as_,hi]using hs
      have hflat:=bg_ zv.cells.toList n;rw[hzs,Array.toArray_toList]at hflat;obtain⟨cells',hf,hr⟩:=hd_ (P:=P) hρ hl (cells:=madeCells zv.cells (n*E.size t)) (by rw[←hflat];exact hzr.rep n)
      have hfsz:∀(ps:List (Nat×Value)) (c c':Array Value) (pl:Nat->Option (Nat×Nat)),Instr.fill pl c ps=some c'->c'.size=c.size:=by
       intro ps
       induction ps with
       | nil=>intro c c' pl h;simp only[Instr.fill,qOi]at h;subst h;rfl
       | cons p ps ih =>
        intro c c' pl h;simp only[Instr.fill]at h;split at h
        .cases h
        .split at h
         .cases h
         .rw[ih _ _ _ h];have key:∀(us:List (Value×Nat)) (off:Nat) (c:Array Value),(us.foldl (λcs (q:Value×Nat)=>cs.setIfInBounds (off+q.2) q.1) c).size=c.size:=by
           intro us
           induction us with
           | nil=>intro off c;rfl
           | cons u us ih=>intro off c;rw[List.foldl_cons,ih];simp
          rw[←Array.foldl_toList];exact key _ _ _
      have hcl:cells'.toList.length=n*E.size t:=by
       rw[Array.length_toList,hfsz _ _ _ _ hf,size_madeCells]
      obtain⟨z',hz',hH'⟩:=bB_ hH l;obtain⟨rows,h1,h2,h3,h4⟩:=mF_ hH' hx (hr.mono λ_ _ h=>RC.le h hz' (Ga.Le.refl g)) hcl;have hcells:=h4.cells (by omega);have hS:=(Sep.start [] w).row_new e (E.size t) n rows h2 hcells.2 hb4;rw[h1,Array.toArray_toList]at hS;obtain⟨hown',hlen',_⟩:=hS.hold _ (List.mem_cons_self ..);have hfp:=hS.own _ (List.mem_cons_self ..) trivial;have hrun:(execOp ρ o).run P w = .ok (.value (.slice (some ⟨w.heap.size,0,none⟩) n n)) (w.alloc (.cells cells' e)):=by
       unfold execOp;rw[ho];have e3:(ps.map λ(i,x)=>(i,ρ x)).toList=ps.toList.map λp=>(p.1,ρ p.2):=by simp
       have hng:¬(n*inf.size>2^24):=by rw[hsz];omega
       simp only[Instr.buildSlice,Sem.run_bind,run_underlying hu,Result.andThen_ok,sizeOf,typeInfo,run_program,hi,Sem.run_pure];rw[if_neg hng];rw[e3];by_cases h0:n*E.size t=0
       .rw[if_pos (by rw[hsz];exact h0)];have hmade:(Array.range (n*E.size t)).map (λx=>(#[]:Array Value)[x%(#[]:Array Value).size]!)=madeCells zv.cells (n*E.size t):=by rw[h0];simp[madeCells]
        simp only[Sem.run_bind,Sem.run_pure,Result.andThen_ok,hmade,hsz,hf,newRow];rfl
       .rw[if_neg (by rw[hsz];exact h0)];have hmade:(Array.range (n*E.size t)).map (λx=>zv.cells[x%zv.cells.size]!)=madeCells zv.cells (n*E.size t):=rfl;have hzrun:(zeroValue e).run P w = .ok zv w:=by simp[zeroValue,typeInfo,hi,hzv]
        simp only[Sem.run_bind,Sem.run_pure,Result.andThen_ok,hzrun,hmade,hsz,hf,newRow];rfl
      have hup:upH H ((nx,some (.row e t xs []))::bR_ H l)=upH (upH H (bR_ H l)) [(nx,some (.row e t xs []))]:=by rw[ao_];rfl
      refine⟨_,_,z',_,_,_,h,⟨hrun,⟨_,rfl,_,Ga.put_self _ _ ⟨some ⟨w.heap.size,0,none⟩,n,n,E.size t,0,0⟩,rfl⟩,hz',Ga.le_put hnx.self,hnx.put _,?_,λ_=>Ext.one w _⟩⟩;rw[hup];exact hH'.row_new hnx (Ext.one w _) h3 hown' hlen' h4 λq ⟨a,ha,hq⟩=>(hfp q ⟨a,ha,hq⟩).resolve_right (by simp)
     .cases h
    .cases h
   .cases h
  .cases h
 .cases h
theorem run_copy_own{T T2 e c:Nat}{x y:Operand}{n cap m cap2:Nat}{A A2:Option Addr}{rows news:List (List Value)}{F:Nat->Prop}(ho:o.op = .call { callee := .builtin .copy,args := #[x,y],argTypes := #[T,T2] })(hu:P.underlying T=some (.slice e))(hs:as_ P e=some c)
  (hx:ρ x = .slice A n cap) (hy:ρ y = .slice A2 m cap2) (hR:Res.holds w (.row e c A n cap rows)) (hsl:SlF F c A2 m news w) (hnl:∀q∈news,q.length=c) (hone:hB_ news) :
  ∃w',(execOp ρ o).run P w = .ok (.value (.int .i64 ((min m n:Nat):Int))) w'/\Res.holds w' (.row e c A n cap (news.take (min m n)++rows.drop (min m n)))/\Grow w w'/\∀q,¬cu_ A q->w'.heap[q]? = w.heap[q]? := by
 obtain⟨cs,hop⟩:=ej_ (ρ:=ρ) ho;rw[BigFrame.builtin_copy]at hop;obtain⟨hown,hlen,hrl⟩:=hR;obtain⟨inf,hi,hsz⟩:∃inf,P.info? e=some inf/\inf.size=c:=by
  unfold as_ at hs;cases hq:P.info? e with
  | none=>simp[hq]at hs
  | some i=>exact⟨i,rfl,by simpa[hq]using hs⟩
 have hmin:Nat.min m n=min m n:=rfl;have hload:(Builtin.firstCells c (Nat.min m n) (.slice A2 m cap2)).run P w = .ok (news.take (min m n)).flatten.toArray w:=by
  have htl:∀q∈news.take (min m n),q.length=c:=λq hq=>hnl q (List.mem_of_mem_take hq)
  have hfl:(news.take (min m n)).flatten.length=min m n*c:=by
   rw[ak_ htl,List.length_take,hsl.1]
   congr 1;omega
  cases A2 with
  | none =>
   have hm:m=0:=by
    rcases Nat.eq_zero_or_pos m with h0|h0
    .exact h0
    .obtain⟨b,off,hh,_⟩:=hsl.2 h0;cases hh
   have:(news.take (min m n)).flatten=[]:=List.eq_nil_of_length_eq_zero (by rw[hfl,hm];simp);rw[this];rfl
  | some ad =>
   have:=run_loadCells_list (P:=P) w ad (news.take (min m n)).flatten (λj v hv=>by
    have hjl:j<min m n*c:=by rw[←hfl];exact(List.getElem?_eq_some_iff.1 hv).1
    have hc0:0<c:=by
     rcases Nat.eq_zero_or_pos c with h0|h0
     .rw[h0]at hjl;omega
     .exact h0
    have hm0:0<m:=by
     rcases Nat.eq_zero_or_pos m with h0|h0
     .subst h0;simp at hjl
     .exact h0
    obtain⟨b,off,hA,_,hcell⟩:=hsl.2 hm0;simp only[qOi]at hA;subst hA;have hq:j/c<min m n:=Nat.div_lt_of_lt_mul (by rw[Nat.mul_comm];exact hjl);have hqn:j/c<news.length:=by rw[hsl.1];omega
    have hmod:j%c<c:=Nat.mod_lt _ hc0;have hrow:=hcell (j/c) _ (List.getElem?_eq_getElem hqn);have hgt:(news.take (min m n))[j/c]? = some news[j/c]:=by rw[List.getElem?_take,if_pos hq,List.getElem?_eq_getElem hqn]
    have hju:=cS_ htl hgt (j%c) (news[j/c][j%c]'(by rw[hrow.1];exact hmod)) (List.getElem?_eq_getElem _);have hj:j/c*c+j%c=j:=by rw[Nat.mul_comm];exact Nat.div_add_mod j c
    rw[hj,hv]at hju;have hcl:=hrow.2 (j%c) _ (List.getElem?_eq_getElem (by rw[hrow.1];exact hmod));rw[Nat.add_assoc,hj]at hcl;rw[Addr.add_mk,hcl,hju])
   rw[hfl]at this;exact this
 have hnt:∀q∈news.take (min m n)++rows.drop (min m n),q.length=c:=λq hq=>by
  rcases List.mem_append.1 hq with hq|hq
  .exact hnl q (List.mem_of_mem_take hq)
  .exact hrl q (List.mem_of_mem_drop hq)
 have hnlen:(news.take (min m n)++rows.drop (min m n)).length=n:=by
  rw[qLa,List.length_take,List.length_drop,hsl.1,hlen];omega
 have hfl:(news.take (min m n)).flatten.length=min m n*c:=by
  rw[ak_ (c:=c) (λq hq=>hnl q (List.mem_of_mem_take hq)),List.length_take,hsl.1]
  congr 1;omega
 rcases hown.2 with⟨hv,hn0⟩|⟨b,cap',cur,hv,hb,hh,hnc,hcm,hcs,htk⟩
 .injection hv with e1 e2 e3;subst hn0;subst e1;subst e3;refine⟨w,?_,⟨⟨?_,.inl ⟨rfl,rfl⟩⟩,hnlen,hnt⟩,Grow.refl w,λ_ _=>rfl⟩
  .have hl0:=hload;rw[show Nat.min m 0=0 from Nat.min_zero m]at hl0;rw[hop];simp[hx,hy,Builtin.copy_,run_underlying hu,Builtin.lenOf,sizeOf,typeInfo,hi,hsz,hl0,goInt]
  .rw[ak_ hnt,hnlen]
 .injection hv with e1 _ e3;subst e1;subst e3;have hfit:0+0+(news.take (min m n)).flatten.length<=cur.size:=by
   rw[hfl,hcs];have:min m n*c<=cap*c:=Nat.mul_le_mul_right c (by omega);omega
  have h1:∀v∈(news.take (min m n)).flatten,v.oneCell'=true:=λv hv=>by
   obtain⟨q,hq,hvq⟩:=List.mem_flatten.1 hv;exact c9_ (hone q (List.mem_of_mem_take hq)) v hvq
  have hst:=run_storeCells_at (P:=P) b 0 e (news.take (min m n)).flatten 0 cur w hh hfit h1;refine⟨w.setRow b (cur.toList.take (0+0)++(news.take (min m n)).flatten++cur.toList.drop (0+0+(news.take (min m n)).flatten.length)).toArray,?_,⟨⟨?_,.inr ⟨b,cap,_,rfl,Nat.zero_le _,d6_ w b _ cur e hh,hnc,hcm,?_,?_⟩⟩,hnlen,hnt⟩,cn_ w b _,λq hq=>cm_ w b q _ (λhe=>hq ⟨_,rfl,he⟩)⟩
  .rw[hop];simp[hx,hy,Builtin.copy_,run_underlying hu,Builtin.lenOf,sizeOf,typeInfo,hi,hsz,hload,goInt,hst]
  .rw[ak_ hnt,hnlen]
  .simp only[Nat.zero_add,Nat.add_zero,List.take_zero,List.nil_append,List.size_toArray,qLa,List.length_drop,Array.length_toList,hcs]at hfit ⊢;omega
  .simp only[Nat.zero_add,Nat.add_zero,List.take_zero,List.nil_append];have hrf:(rows.drop (min m n)).flatten=rows.flatten.drop (min m n*c):=by
    have e1:rows.flatten=(rows.take (min m n)).flatten++(rows.drop (min m n)).flatten:=by rw[←List.flatten_append,List.take_append_drop]
    have e2:(rows.take (min m n)).flatten.length=min m n*c:=by
     rw[ak_ (c:=c) (λq hq=>hrl q (List.mem_of_mem_take hq)),List.length_take,hlen]
     congr 1;omega
    rw[e1,List.drop_left' e2]
   rw[List.flatten_append,hrf,←htk];rw[List.take_append,hfl];rw[List.take_of_length_le (by rw[hfl];exact Nat.mul_le_mul_right c (by omega))];rw[List.drop_take]
theorem run_copy_suf{T T2 e c:Nat}{x y:Operand}{n cap m cap2 lo:Nat}{A A2:Option Addr}{rows news:List (List Value)}{F:Nat->Prop}(ho:o.op = .call { callee := .builtin .copy,args := #[x,y],argTypes := #[T,T2] })(hu:P.underlying T=some (.slice e))(hs:as_ P e=some c)(hlo:lo<=n)
  (hx:ρ x = .slice (cutA A c lo cap) (n-lo) (cap-lo)) (hy:ρ y = .slice A2 m cap2) (hR:Res.holds w (.row e c A n cap rows)) (hsl:SlF F c A2 m news w) (hnl:∀q∈news,q.length=c) (hone:hB_ news) :
  ∃w',(execOp ρ o).run P w = .ok (.value (.int .i64 ((min m (n-lo):Nat):Int))) w'/\Res.holds w' (.row e c A n cap (rows.take lo++(news.take (min m (n-lo))++rows.drop (lo+min m (n-lo)))))/\Grow w w'/\∀q,¬cu_ A q->w'.heap[q]? = w.heap[q]? := by
 obtain⟨cs,hop⟩:=ej_ (ρ:=ρ) ho;rw[BigFrame.builtin_copy]at hop;obtain⟨hown,hlen,hrl⟩:=hR;obtain⟨inf,hi,hsz⟩:∃inf,P.info? e=some inf/\inf.size=c:=by
  unfold as_ at hs;cases hq:P.info? e with
  | none=>simp[hq]at hs
  | some i=>exact⟨i,rfl,by simpa[hq]using hs⟩
 obtain⟨k,hk⟩:∃k,k=min m (n-lo):=⟨_,rfl⟩;have hmin:Nat.min m (n-lo)=k:=hk.symm;rw[←hk];have hkm:k<=m:=by omega
 have hkn:lo+k<=n:=by omega
 have htl:∀q∈news.take k,q.length=c:=λq hq=>hnl q (List.mem_of_mem_take hq)
 have hfl:(news.take k).flatten.length=k*c:=by
  rw[ak_ htl,List.length_take,hsl.1]
  congr 1;omega
 have hload:(Builtin.firstCells c k (.slice A2 m cap2)).run P w = .ok (news.take k).flatten.toArray w:=by
  cases A2 with
  | none =>
   have hm:m=0:=by
    rcases Nat.eq_zero_or_pos m with h0|h0
    .exact h0
    .obtain⟨b,off,hh,_⟩:=hsl.2 h0;cases hh
   have:(news.take k).flatten=[]:=List.eq_nil_of_length_eq_zero (by rw[hfl,show k=0 by omega];simp);rw[this];rfl
  | some ad =>
   have:=run_loadCells_list (P:=P) w ad (news.take k).flatten (λj v hv=>by
    have hjl:j<k*c:=by rw[←hfl];exact(List.getElem?_eq_some_iff.1 hv).1
    have hc0:0<c:=by
     rcases Nat.eq_zero_or_pos c with h0|h0
     .rw[h0]at hjl;omega
     .exact h0
    have hm0:0<m:=by
     rcases Nat.eq_zero_or_pos m with h0|h0
     .rw[show k=0 by omega]at hjl;simp at hjl
     .exact h0
    obtain⟨b,off,hA,_,hcell⟩:=hsl.2 hm0;simp only[qOi]at hA;subst hA;have hq:j/c<k:=Nat.div_lt_of_lt_mul (by rw[Nat.mul_comm];exact hjl);have hqn:j/c<news.length:=by rw[hsl.1];omega
    have hmod:j%c<c:=Nat.mod_lt _ hc0;have hrow:=hcell (j/c) _ (List.getElem?_eq_getElem hqn);have hgt:(news.take k)[j/c]? = some news[j/c]:=by rw[List.getElem?_take,if_pos hq,List.getElem?_eq_getElem hqn]
    have hju:=cS_ htl hgt (j%c) (news[j/c][j%c]'(by rw[hrow.1];exact hmod)) (List.getElem?_eq_getElem _);have hj:j/c*c+j%c=j:=by rw[Nat.mul_comm];exact Nat.div_add_mod j c
    rw[hj,hv]at hju;have hcl:=hrow.2 (j%c) _ (List.getElem?_eq_getElem (by rw[hrow.1];exact hmod));rw[Nat.add_assoc,hj]at hcl;rw[Addr.add_mk,hcl,hju])
   rw[hfl]at this;exact this
 have hnt:∀q∈rows.take lo++(news.take k++rows.drop (lo+k)),q.length=c:=λq hq=>by
  rcases List.mem_append.1 hq with hq|hq
  .exact hrl q (List.mem_of_mem_take hq)
  .rcases List.mem_append.1 hq with hq|hq
   .exact hnl q (List.mem_of_mem_take hq)
   .exact hrl q (List.mem_of_mem_drop hq)
 have hnlen:(rows.take lo++(news.take k++rows.drop (lo+k))).length=n:=by
  simp only[qLa,List.length_take,List.length_drop,hsl.1,hlen];omega
 rcases hown.2 with⟨hv,hn0⟩|⟨b,cap',cur,hv,hb,hh,hnc,hcm,hcs,htk⟩
 .injection hv with e1 e2 e3;subst hn0;subst e1;subst e3;have hk0:k=0:=by omega
  have hlo0:lo=0:=by omega
  subst hk0;subst hlo0;refine⟨w,?_,⟨⟨?_,.inl ⟨rfl,rfl⟩⟩,hnlen,hnt⟩,Grow.refl w,λ_ _=>rfl⟩
  .have hl0:(news.take 0).flatten=[]:=by simp
   rw[hl0]at hload;have hcut:cutA none c 0 0=none:=rfl;rw[hcut]at hx;rw[hop];simp[hx,hy,Builtin.copy_,run_underlying hu,Builtin.lenOf,sizeOf,typeInfo,hi,hsz,hload,goInt]
  .rw[ak_ hnt,hnlen]
 .injection hv with e1 _ e3;subst e1;subst e3;have hlc:lo*c<=n*c:=Nat.mul_le_mul_right _ hlo;have hnc2:n*c<=cap*c:=Nat.mul_le_mul_right _ hnc;have hkc:(lo+k)*c=lo*c+k*c:=Nat.add_mul _ _ _;have hkn2:(lo+k)*c<=n*c:=Nat.mul_le_mul_right _ hkn;have h1:∀v∈(news.take k).flatten,v.oneCell'=true:=λv hv=>by
   obtain⟨q,hq,hvq⟩:=List.mem_flatten.1 hv;exact c9_ (hone q (List.mem_of_mem_take hq)) v hvq
  have hcl:cur.toList.length=cap*c:=by simpa using hcs
  have e5:(rows.take lo).flatten=rows.flatten.take (lo*c):=by
   have f1:rows.flatten=(rows.take lo).flatten++(rows.drop lo).flatten:=by rw[←List.flatten_append,List.take_append_drop]
   have f2:(rows.take lo).flatten.length=lo*c:=by
    rw[ak_ (c:=c) (λq hq=>hrl q (List.mem_of_mem_take hq)),List.length_take,hlen]
    congr 1;omega
   rw[f1,List.take_left' f2]
  have e6:(rows.drop (lo+k)).flatten=rows.flatten.drop ((lo+k)*c):=by
   have f1:rows.flatten=(rows.take (lo+k)).flatten++(rows.drop (lo+k)).flatten:=by rw[←List.flatten_append,List.take_append_drop]
   have f2:(rows.take (lo+k)).flatten.length=(lo+k)*c:=by
    rw[ak_ (c:=c) (λq hq=>hrl q (List.mem_of_mem_take hq)),List.length_take,hlen]
    congr 1;omega
   rw[f1,List.drop_left' f2]
  have hfin:∃cs',(execOp ρ o).run P w = .ok (.value (.int .i64 ((k:Nat):Int))) (w.setRow b cs')/\cs'.size=cap*c/\cs'.toList.take (n*c)=(rows.take lo++(news.take k++rows.drop (lo+k))).flatten:=by
   rcases Nat.eq_zero_or_pos k with hk0|hkp
   .refine⟨cur,?_,hcs,?_⟩
    .have hl0:(news.take k).flatten=[]:=List.eq_nil_of_length_eq_zero (by rw[hfl,hk0];simp);rw[hl0]at hload;rw[setRow_self w b cur e (0,0) hh];rw[hop];have hcs0:∀(a:Addr),(storeCells a [] 0).run P w = .ok () w:=λa=>rfl
     cases hA:cutA (some (⟨b,0,none⟩:Addr)) c lo cap<;>rw[hA]at hx<;>simp[hx,hy,Builtin.copy_,run_underlying hu,Builtin.lenOf,sizeOf,typeInfo,hi,hsz,hmin,hload,goInt,hcs0]
    .rw[htk,hk0];simp
   .have hA:cutA (some (⟨b,0,none⟩:Addr)) c lo cap=some ⟨b,lo*c,none⟩:=by
     unfold cutA;rw[if_neg (by omega)];simp[Addr.add_mk]
    rw[hA]at hx;have hst:=run_storeCells_at (P:=P) b (lo*c) e (news.take k).flatten 0 cur w hh (by rw[hfl,hcs];omega) h1;simp only[Nat.add_zero]at hst;refine⟨(cur.toList.take (lo*c)++(news.take k).flatten++cur.toList.drop (lo*c+(news.take k).flatten.length)).toArray,?_,?_,?_⟩
    .rw[hop];simp[hx,hy,Builtin.copy_,run_underlying hu,Builtin.lenOf,sizeOf,typeInfo,hi,hsz,hmin,hload,goInt,hst]
    .simp only[List.size_toArray,qLa,List.length_take,List.length_drop,hfl,hcl];omega
    .show(cur.toList.take (lo*c)++(news.take k).flatten++cur.toList.drop (lo*c+(news.take k).flatten.length)).take (n*c)=_;have tk:∀(A B C:List Value) (a b N:Nat),A.length=a->B.length=b->a+b<=N->(A++B++C).take N=A++(B++C.take (N-(a+b))):=by
      intro A B C a b N h1 h2 h3;subst h1;subst h2;rw[List.take_append,List.take_of_length_le (by simp only[qLa];omega),qLa,List.append_assoc]
     rw[tk _ _ _ (lo*c) (k*c) (n*c) (by rw[List.length_take,hcl];omega) hfl (by omega),List.flatten_append,List.flatten_append,e5,e6,←htk,List.take_take,Nat.min_eq_left hlc,List.drop_take,hfl,hkc]
  obtain⟨cs',hrun,hsz',htk'⟩:=hfin;refine⟨_,hrun,⟨⟨?_,.inr ⟨b,cap,cs',rfl,Nat.zero_le _,d6_ w b _ cur e hh,hnc,hcm,hsz',htk'⟩⟩,hnlen,hnt⟩,cn_ w b _,λq hq=>cm_ w b q _ (λhe=>hq ⟨_,rfl,he⟩)⟩;rw[ak_ hnt,hnlen]
def lCopy (P:Program) (E:TE) (L:Nat->Option (SV E)) (H:Nat->Option (Obj E)) (T:TypeId) (x y:Operand) {R:Type} (k:Option (SV E)->Chs E->Option R):Option R :=
 match opS E L x,opS E L y,P.underlying T with
 | some (.v (.one (.own id))),some (.v (.one cy)),some (.slice e)=>match H id with
  | some (.row e' t xs _)=>match Nat.beq e' e,as_ P e,cy.rdT H t with
   | true,some s,some ys=>match Nat.beq s (E.size t)with
    | true=>k (some (.v (.one (.dt (.int .i64) ((min ys.length xs.length:Nat):Int))))) [(id,some (.row e t (fB_ xs ys) []))]
    | false=>none
   | _,_,_=>none
  | _=>none
 | some (.v (.one (.suf id lo))),some (.v (.one cy)),some (.slice e)=>match H id with
  | some (.row e' t xs _)=>match Nat.beq e' e,as_ P e,cy.rdT H t with
   | true,some s,some ys=>match Nat.beq s (E.size t)with
    | true=>k (some (.v (.one (.dt (.int .i64) ((min ys.length (xs.drop lo.toNat).length:Nat):Int))))) [(id,some (.row e t (hC_ xs lo.toNat ys) []))]
    | false=>none
   | _,_,_=>none
  | _=>none
 | _,_,_=>none
theorem copy_rows{t:Ty}{xs ys:List (Den E.S t)}{rows news:List (List Value)}(h:Rows E z t xs rows)(h':Rows E z t ys news)(hl':news.length=ys.length):Rows E z t (fB_ xs ys) (news.take (min ys.length xs.length)++rows.drop (min ys.length xs.length)):=by
 unfold fB_;refine Rows.append ?_ ?_ (by rw[List.length_take,List.length_take,hl'])
 .have:=cF_ h' 0 (min ys.length xs.length);simpa using this
 .intro i x r hx hr;rw[List.getElem?_drop]at hx hr;exact h _ x r hx hr
theorem lCopy_ok{T T2:TypeId}{x y:Operand}(ho:o.op = .call { callee := .builtin .copy,args := #[x,y],argTypes := #[T,T2] })(hnx:Fresh g nx)(hρ:OpR P E z g L ρ)(hH:HR P E Bs F0 w0 w z g H)(h:lCopy P E L H T x y k=some r):bA_ P E Bs F0 w0 w z g nx H ρ o false k r:=by
 unfold lCopy at h;split at h
 .rename_i id cy e hx hy hu;split at h
  .rename_i e' t xs foc hi;split at h
   .rename_i s ys hb hs hys;obtain rfl:=qNb hb;split at h
    .rename_i hb2;obtain rfl:=qNb hb2;obtain⟨l,h1,ev⟩:=hρ x _ hx;obtain⟨l2,rows,h3,hn,hc,hown,hlen,hrl,hrows,_⟩:=hH.hold _ _ hi;rw[h1]at h3;obtain rfl:=qSj h3;obtain⟨A2,cap2,news,F,ey,hsl,hcap2,hnews⟩:=SC.rdT_ok hH hys (hρ y _ hy);obtain⟨hone,hnl⟩:=hnews.cells hsl.1;obtain⟨w',hrun,hR',hgrow,hoth⟩:=run_copy_own (P:=P) (w:=w) (rows:=rows) ho hu hs ev ey ⟨by rw[←hc];exact hown,hlen,by rw[←hc];exact hrl⟩ hsl hnl hone;obtain⟨hown',hlen',hrl'⟩:=hR';have hrows':=copy_rows hrows hnews hsl.1;have hcl:(fB_ xs ys).length=xs.length:=by unfold fB_;simp;omega
     rw[hn]at hrun hown' hlen' hrl';refine⟨_,_,z,g,w',_,h,⟨hrun,⟨_,rfl,.int .nil⟩,Fz.Le.refl z,Ga.Le.refl g,hnx.succ,?_,λh=>by cases h⟩⟩;refine hH.turn (Ga.Le.refl g) (i:=id) (i':=id) (C:=cu_ l.A) (λq ⟨a,ha,hq⟩=>⟨_,hi,l,a,h1,ha,hq⟩) hgrow (λq _ hq=>hoth q hq) (o' := .row e' t (fB_ xs ys) []) ?_ (λq hq => ?_) λj p hj => ?_
     .exact⟨l,_,h1,by rw[hcl];exact hn,hc,by rw[hn,hc];exact hown',by rw[hn];exact hlen',by rw[hc];exact hrl',hrows',λp hp=>nomatch hp⟩
     .obtain⟨l2,a2,h5,h6,rfl⟩:=hq;rw[h1]at h5;obtain rfl:=qSj h5;exact .inl ⟨a2,h6,rfl⟩
     .rcases ax_ hj with⟨rfl,rfl⟩|⟨h5,h6⟩
      .exact .inl ⟨rfl,rfl⟩
      .exact .inr ⟨h5,.inl h5,h6⟩
    .cases h
   .cases h
  .cases h
 .rename_i id lo cy e hx hy hu;split at h
  .rename_i e' t xs foc hi;split at h
   .rename_i s ys hb hs hys;obtain rfl:=qNb hb;split at h
    .rename_i hb2;obtain rfl:=qNb hb2;obtain⟨l,h1,hle,ev⟩:=hρ x _ hx;obtain⟨l2,rows,h3,hn,hc,hown,hlen,hrl,hrows,_⟩:=hH.hold _ _ hi;rw[h1]at h3;obtain rfl:=qSj h3;obtain⟨A2,cap2,news,F,ey,hsl,hcap2,hnews⟩:=SC.rdT_ok hH hys (hρ y _ hy);obtain⟨hone,hnl⟩:=hnews.cells hsl.1;rw[hc]at ev;obtain⟨w',hrun,hR',hgrow,hoth⟩:=run_copy_suf (P:=P) (w:=w) (rows:=rows) ho hu hs hle ev ey ⟨by rw[←hc];exact hown,hlen,by rw[←hc];exact hrl⟩ hsl hnl hone;obtain⟨hown',hlen',hrl'⟩:=hR';have hdl:(xs.drop lo.toNat).length=l.n-lo.toNat:=by rw[List.length_drop,hn]
     have hrows':Rows E z t (hC_ xs lo.toNat ys) (rows.take lo.toNat++(news.take (min ys.length (l.n-lo.toNat))++rows.drop (lo.toNat+min ys.length (l.n-lo.toNat)))):=by
      unfold hC_ fB_;rw[hdl,List.drop_drop];refine Rows.append ?_ (Rows.append ?_ ?_ (by rw[List.length_take,List.length_take,hsl.1])) (by rw[List.length_take,List.length_take,hlen,hn])
      .have:=cF_ hrows 0 lo.toNat;simpa using this
      .have:=cF_ hnews 0 (min ys.length (l.n-lo.toNat));simpa using this
      .intro i x r hx hr;rw[List.getElem?_drop]at hx hr;exact hrows _ x r hx hr
     have hcl:(hC_ xs lo.toNat ys).length=xs.length:=by unfold hC_ fB_;simp;omega
     rw[←hdl]at hrun;refine⟨_,_,z,g,w',_,h,⟨hrun,⟨_,rfl,.int .nil⟩,Fz.Le.refl z,Ga.Le.refl g,hnx.succ,?_,λh=>by cases h⟩⟩;refine hH.turn (Ga.Le.refl g) (i:=id) (i':=id) (C:=cu_ l.A) (λq ⟨a,ha,hq⟩=>⟨_,hi,l,a,h1,ha,hq⟩) hgrow (λq _ hq=>hoth q hq) (o' := .row e' t (hC_ xs lo.toNat ys) []) ?_ (λq hq => ?_) λj p hj => ?_
     .exact⟨l,_,h1,by rw[hcl];exact hn,hc,by rw[hc];exact hown',hlen',by rw[hc];exact hrl',hrows',λp hp=>nomatch hp⟩
     .obtain⟨l2,a2,h5,h6,rfl⟩:=hq;rw[h1]at h5;obtain rfl:=qSj h5;exact .inl ⟨a2,h6,rfl⟩
     .rcases ax_ hj with⟨rfl,rfl⟩|⟨h5,h6⟩
      .exact .inl ⟨rfl,rfl⟩
      .exact .inr ⟨h5,.inl h5,h6⟩
    .cases h
   .cases h
  .cases h
 .cases h
theorem n8_(zs:Array Value)(n:Nat):(Builtin.zeroCells zs n).toList=(List.replicate n zs.toList).flatten:=by
 rw[bg_];simp[Builtin.zeroCells,madeCells]
theorem run_clear{T e c bytes:Nat}{x:Operand}{A:Option Addr}{n cap:Nat}{zs:List Value}(ho:o.op = .call { callee := .builtin .clear,args := #[x],argTypes := #[T] })(hel:ElemOK P T e c bytes)(hz:zeroOf P e=some zs)
  (hx:ρ x = .slice A n cap):(A=none\/n=0->(execOp ρ o).run P w = .ok (.value (.tuple #[])) w) /\
  ∀b off cur,A=some ⟨b,off,none⟩->w.heap[b]? = some (.cells cur e (0,0))->off+n*c<=cur.size->(∀v∈zs,v.oneCell'=true)->0<n ->
   (execOp ρ o).run P w = .ok (.value (.tuple #[])) (w.setRow b (cur.toList.take off++(List.replicate n zs).flatten++cur.toList.drop (off+n*c)).toArray):=by
 obtain⟨hu,i,z',hi,hzz,hsz,hby,hzs,hpos⟩:=hel;have hzl:zs=z'.cells.toList:=by
  simp only[zeroOf,hi,hzz,qOi]at hz;exact hz.symm
 obtain⟨cs,hop⟩:=ej_ (ρ:=ρ) ho;have hb:builtin .clear #[T] o.type cs #[ρ x]=(do pure (.value (←Builtin.clear_ #[T] o.type #[ρ x]))):=rfl;have hop':execOp ρ o=(do pure (.value (←Builtin.clear_ #[T] o.type #[ρ x]))):=by rw[hop,show(#[x]:Array Operand).map ρ = #[ρ x]from by simp];exact hb
 rw[hop',hx];have hlen:zs.length=c:=by rw[hzl,Array.length_toList];exact hzs
 constructor
 .rintro(rfl|rfl)
  .simp[Builtin.clear_,run_underlying hu]
  .cases A<;>simp[Builtin.clear_,run_underlying hu]
 .intro b off cur hA hh hfit hone hn;subst hA;have hvs:(Builtin.zeroCells z'.cells n).toList=(List.replicate n zs).flatten:=by rw[n8_,hzl]
  have hfl:((List.replicate n zs).flatten).length=n*c:=by
   rw[ak_ (c:=c) (λq hq=>by rw[List.eq_of_mem_replicate hq,hlen]),List.length_replicate]
  have hst:=run_storeCells_at (P:=P) b off e (List.replicate n zs).flatten 0 cur w hh (by rw[hfl];omega) (λv hv=>by
   obtain⟨q,hq,hvq⟩:=List.mem_flatten.1 hv;rw[List.eq_of_mem_replicate hq]at hvq;exact hone v hvq)
  rw[hfl,Nat.add_zero]at hst;obtain⟨m,rfl⟩:∃m,n=m+1:=⟨n-1,by omega⟩;simp[Builtin.clear_,run_underlying hu,zeroValue,typeInfo,hi,hzz,hvs,hst]
def lClear(P:Program)(E:TE)(L:Nat->Option (SV E))(H:Nat->Option (Obj E))(T:TypeId)(x:Operand){R:Type}(k:Option (SV E)->Chs E->Option R):Option R :=
 match opS E L x,P.underlying T with
 | some (.v (.one (.suf id n))),some (.slice e)=>match H id with
  | some (.row e' t xs _)=>match Nat.beq e' e,elemB P e (E.size t) (ek_ P e),zeroD P E e t with
   | true,true,some zv=>k (some (.tup [])) [(id,some (.row e t (d7_ xs n.toNat zv) []))]
   | _,_,_=>none
  | _=>none
 | _,_=>none
theorem lClear_ok {T:TypeId} {x:Operand} (ho:o.op = .call { callee := .builtin .clear,args := #[x],argTypes := #[T] }) (hnx:Fresh g nx) (hρ:OpR P E z g L ρ) (hH:HR P E Bs F0 w0 w z g H) (h:lClear P E L H T x k=some r):bA_ P E Bs F0 w0 w z g nx H ρ o false k r:=by
 unfold lClear at h;split at h
 .rename_i id lo e hx hu;split at h
  .rename_i e' t xs foc hi;split at h
   .rename_i zv hb hel hzd;obtain rfl:=qNb hb;have hEl:=elemOK hu hel;obtain⟨zs,hzs,hrd⟩:=lN_ (z:=z) hzd;obtain⟨l,h1,hle,ev⟩:=hρ x _ hx;obtain⟨l2,rows,h3,hn,hc,hown,hlen,hrl,hrows,_⟩:=hH.hold _ _ hi;rw[h1]at h3;obtain rfl:=qSj h3;obtain⟨r1,r2⟩:=run_clear (P:=P) (w:=w) ho hEl hzs ev
    -- the new elements
    have hnews:∀m,Rows E z t (List.replicate m zv) (List.replicate m zs):=λm i x r hx hr=>by
     obtain rfl:=List.eq_of_mem_replicate (List.mem_of_getElem? hx);obtain rfl:=List.eq_of_mem_replicate (List.mem_of_getElem? hr);exact hrd
    have hone:∀v∈zs,v.oneCell'=true:=λv hv=>c9_ (((hnews 1).cells (by simp)).1 zs (by simp)) v hv
    have hzl:zs.length=E.size t:=((hnews 1).cells (by simp)).2 zs (by simp);have hlo:lo.toNat<=xs.length:=by omega
    have hrows':Rows E z t (d7_ xs lo.toNat zv) (rows.take lo.toNat++List.replicate (xs.length-lo.toNat) zs):=by
     unfold d7_;refine Rows.append ?_ (hnews _) (by rw[List.length_take,List.length_take,hlen,hn]);have:=cF_ hrows 0 lo.toNat;simpa using this
    have hcl:(d7_ xs lo.toNat zv).length=xs.length:=by unfold d7_;simp;omega
    rcases hown.2 with⟨hv,hn0⟩|⟨b,cap',cur,hv,hb0,hh,hnc,hcm,hcs,htk⟩
    .
     injection hv with e1 e2 e3;have hrun:=r1 (.inr (by omega));refine⟨_,_,z,g,w,_,h,⟨hrun,⟨_,rfl,[],rfl,.nil⟩,Fz.Le.refl z,Ga.Le.refl g,hnx.succ,?_,λh=>by cases h⟩⟩;have hx0:xs=[]:=List.length_eq_zero_iff.1 (by omega);subst hx0;refine hH.turn (Ga.Le.refl g) (i:=id) (i':=id) (C:=λ_=>False) (λ_ h=>h.elim) (Grow.refl w) (λ_ _ _=>rfl) (o' := .row e' t (d7_ ([]:List (Den E.S t)) lo.toNat zv) []) ?_ (λq hq => ?_) λj p hj => ?_
     .refine⟨l,rows,h1,by rw[hcl];exact hn,hc,hown,hlen,hrl,?_,λp hp=>nomatch hp⟩;intro i x r hx hr;have:d7_ ([]:List (Den E.S t)) lo.toNat zv=[]:=List.length_eq_zero_iff.1 hcl;rw[this]at hx;cases hx
     .obtain⟨l2,a2,h5,h6,rfl⟩:=hq;rw[h1]at h5;obtain rfl:=qSj h5;rw[e1]at h6;cases h6
     .rcases ax_ hj with⟨rfl,rfl⟩|⟨h5,h6⟩
      .exact .inl ⟨rfl,rfl⟩
      .exact .inr ⟨h5,.inl h5,h6⟩
    .injection hv with e1 _ e3;have hcap:l.n<=cap':=hnc
     -- the world behind it
     have hfin:∃w' cs,(execOp ρ o).run P w = .ok (.value (.tuple #[])) w'/\Grow w w'/\(∀q,q≠b->w'.heap[q]? = w.heap[q]?)/\w'.heap[b]? = some (.cells cs e' (0,0))/\cs.size=cap'*l.c /\
       cs.toList.take (l.n*l.c)=(rows.take lo.toNat++List.replicate (xs.length-lo.toNat) zs).flatten:=by
      have e5:(rows.take lo.toNat).flatten=rows.flatten.take (lo.toNat*l.c):=by
       have f1:rows.flatten=(rows.take lo.toNat).flatten++(rows.drop lo.toNat).flatten:=by rw[←List.flatten_append,List.take_append_drop]
       have f2:(rows.take lo.toNat).flatten.length=lo.toNat*l.c:=by
        rw[ak_ (c:=l.c) (λq hq=>hrl q (List.mem_of_mem_take hq)),List.length_take,hlen]
        congr 1;omega
       rw[f1,List.take_left' f2]
      have hlc:lo.toNat*l.c<=l.n*l.c:=Nat.mul_le_mul_right _ hle;have hnc2:l.n*l.c<=cap'*l.c:=Nat.mul_le_mul_right _ hnc;have hsub:(l.n-lo.toNat)*l.c=l.n*l.c-lo.toNat*l.c:=Nat.sub_mul _ _ _;rcases Nat.eq_or_lt_of_le hle with heq|hlt
      .refine⟨w,cur,r1 (.inr (by omega)),Grow.refl w,λ_ _=>rfl,hh,hcs,?_⟩;rw[htk,←hn,heq,Nat.sub_self];rw[List.take_of_length_le (by omega)];simp
      .have hA:cutA l.A l.c lo.toNat l.cap=some ⟨b,lo.toNat*l.c,none⟩:=by
        unfold cutA;rw[if_neg (by omega),e1];simp[Addr.add_mk]
       have hfl:((List.replicate (l.n-lo.toNat) zs).flatten).length=(l.n-lo.toNat)*l.c:=by
        rw[ak_ (c:=l.c) (λq hq=>by rw[List.eq_of_mem_replicate hq,hzl,hc]),List.length_replicate]
       have hrun:=r2 b (lo.toNat*l.c) cur hA hh (by rw[←hc,hcs];omega) hone (by omega);rw[←hc]at hrun;have hcl':cur.toList.length=cap'*l.c:=by simpa using hcs
       refine⟨_,_,hrun,cn_ w b _,λq hq=>cm_ w b q _ hq,d6_ w b _ cur e' hh,?_,?_⟩
       .simp only[List.size_toArray,qLa,List.length_take,List.length_drop,hfl,hcl'];omega
       .rw[List.flatten_append,←hn,e5,←htk];rw[List.take_append_of_le_length (by simp only[qLa,List.length_take,hfl,hcl'];omega)];rw[List.take_take,Nat.min_eq_left hlc];rw[List.take_of_length_le (by simp only[qLa,List.length_take,hfl,hcl'];omega)]
     obtain⟨w',cs,hrun,hgrow,hoth,hh',hcs',htk'⟩:=hfin;refine⟨_,_,z,g,w',_,h,⟨hrun,⟨_,rfl,[],rfl,.nil⟩,Fz.Le.refl z,Ga.Le.refl g,hnx.succ,?_,λh=>by cases h⟩⟩;refine hH.turn (Ga.Le.refl g) (i:=id) (i':=id) (C:=cu_ l.A) (λq ⟨a,ha,hq⟩=>⟨_,hi,l,a,h1,ha,hq⟩) hgrow (λq _ hq=>hoth q λe=>hq ⟨_,e1,e⟩) (o' := .row e' t (d7_ xs lo.toNat zv) []) ?_ (λq hq => ?_) λj p hj => ?_
     .refine⟨l,rows.take lo.toNat++List.replicate (xs.length-lo.toNat) zs,h1,by rw[hcl];exact hn,hc,⟨?_,.inr ⟨b,cap',cs,by rw[e1,e3],hb0,hh',hnc,hcm,hcs',htk'⟩⟩,?_,λq hq => ?_,hrows',λp hp=>nomatch hp⟩
      .rw[←htk',List.length_take,Nat.min_eq_left];rw[Array.length_toList,hcs'];exact Nat.mul_le_mul_right _ hnc
      .simp;omega
      .rcases List.mem_append.1 hq with hq|hq
       .exact hrl q (List.mem_of_mem_take hq)
       .rw[List.eq_of_mem_replicate hq,hzl,hc]
     .obtain⟨l2,a2,h5,h6,rfl⟩:=hq;rw[h1]at h5;obtain rfl:=qSj h5;exact .inl ⟨a2,h6,rfl⟩
     .rcases ax_ hj with⟨rfl,rfl⟩|⟨h5,h6⟩
      .exact .inl ⟨rfl,rfl⟩
      .exact .inr ⟨h5,.inl h5,h6⟩
   .cases h
  .cases h
 .cases h
theorem mG_{es:Array MapEntry}{i:Nat}{e:MapEntry}{f:MapEntry->MapEntry}(he:es.toList[i]? = some e):(es.modify i f).toList=es.toList.set i (f e):=by
 apply List.ext_getElem?;intro j;have he':es[i]? = some e:=by simpa using he
 rw[Array.getElem?_toList,Array.getElem?_modify,List.getElem?_set,Array.getElem?_toList];by_cases hij:i=j
 .subst hij;have hlt:i<es.toList.length:=(List.getElem?_eq_some_iff.1 he).1;rw[if_pos rfl,if_pos rfl,if_pos hlt,he'];rfl
 .rw[if_neg hij,if_neg hij]
theorem idxK_of{α:Type}{eq:α->α->Bool}(hq:∀x y,eq x y=true↔x=y){x:α}:∀{ks:List α} {i:Nat},ks.Nodup->ks[i]? = some x->aJ_ eq x ks=some i
 | [],_,_,h=>by simp at h
 | y::ys,0,_,h=>by
  simp at h;subst h;simp only[aJ_,(hq y y).2 rfl]
 | y::ys,i+1,hn,h=>by
  obtain⟨h1,h2⟩:=List.nodup_cons.1 hn;have h':ys[i]? = some x:=by simpa using h
  have hne:eq x y=false:=by
   cases he:eq x y with
   | false=>rfl
   | true=>rw[(hq x y).1 he]at h';exact absurd (List.mem_of_getElem? h') h1
  simp only[aJ_,hne,idxK_of hq h2 h']
theorem MapIs.put_new{kt vt:Ty}{ks:List (Den E.S kt)}{vs:List (Den E.S vt)}{es:Array MapEntry}{clock:Nat}{eq:Den E.S kt->Den E.S kt->Bool}(hq:∀x y,eq x y=true↔x=y)(h:MapIs E kt vt ks vs es clock){x:Den E.S kt}{y:Den E.S vt}{kv v:Value}(hi:aJ_ eq x ks=none)(hk:aU_ E kt x=some kv)(hv:aU_ E vt y=some v) :
  MapIs E kt vt (aL_ eq ks x) (aR_ eq ks vs x y) (es.push ⟨kv,v,clock⟩) (clock+1):=by
 have h1:=jA_ hi;have hl:=h.rel.len;rw[mo_ hi (by rw[hl.1,hl.2])];unfold aL_;rw[h1];refine⟨?_,λe he => ?_,?_,?_⟩
 .rw[Array.toList_push];exact h.rel.push hk hv
 .rw[Array.toList_push]at he;rcases List.mem_append.1 he with he|he
  .have:=h.lt e he;omega
  .obtain rfl:=List.mem_singleton.1 he;exact Nat.lt_succ_self _
 .rw[Array.toList_push,List.map_append];refine List.nodup_append.2 ⟨h.nd,by simp,λa ha b hb => ?_⟩;obtain⟨e,he,rfl⟩:=List.mem_map.1 ha;simp at hb;subst hb;have:=h.lt e he;omega
 .refine List.nodup_append.2 ⟨h.ks,by simp,λa ha b hb => ?_⟩;simp at hb;subst hb;intro hab;subst hab;have:=List.any_eq_false.1 h1 a ha;exact this ((hq a a).2 rfl)
theorem MapIs.put_old{kt vt:Ty}{ks:List (Den E.S kt)}{vs:List (Den E.S vt)}{es:Array MapEntry}{clock:Nat}{eq:Den E.S kt->Den E.S kt->Bool}(h:MapIs E kt vt ks vs es clock){x:Den E.S kt}{y:Den E.S vt}{v:Value}{i:Nat}{e e':MapEntry}(hi:aJ_ eq x ks=some i)(he:es.toList[i]? = some e)(f:MapEntry->MapEntry)(hf:f e=e')(hkey:e'.key=e.key)(hb:e'.born=e.born)(hv:e'.val=v)(hval:aU_ E vt y=some v) :
  MapIs E kt vt (aL_ eq ks x) (aR_ eq ks vs x y) (es.modify i f) clock:=by
 have h1:=(fd_ hi).1;have hl:=h.rel.len;rw[mp_ hi (by rw[hl.1,hl.2])];unfold aL_;rw[h1];have hset:=mG_ (f:=f) he;rw[hf]at hset;refine⟨?_,λe2 he2 => ?_,?_,h.ks⟩
 .rw[hset];exact h.rel.set he hkey (by rw[hv];exact hval)
 .rw[hset]at he2;rcases List.mem_or_eq_of_mem_set he2 with h3|rfl
  .exact h.lt _ h3
  .rw[hb];exact h.lt _ (List.mem_of_getElem? he)
 .rw[hset,List.map_set,hb];have:(es.toList.map (·.born)).set i e.born=es.toList.map (·.born):=by
   apply List.ext_getElem?;intro j;rw[List.getElem?_set];split
   .rename_i hij;subst hij;split
    .rw[List.getElem?_map,he];rfl
    .rename_i hlt;rw[List.getElem?_eq_none (by omega)]
   .rfl
  rw[this];exact h.nd
def lO_(P:Program)(E:TE)(nx:Nat)(T:TypeId){R:Type}(k:Option (SV E)->Chs E->Option R):Option R :=
 match P.underlying T with
 | some (.map K e)=>match E.ty K,E.ty e with
  | some kt,some vt=>k (some (.v (.one (.mp nx)))) [(nx,some (.map T kt vt [] [] []))]
  | _,_=>none
 | _=>none
theorem lMakeMap_ok{T:TypeId}(ho:o.op = .makeMap T none)(hnx:Fresh g nx)(hH:HR P E Bs F0 w0 w z g H)(h:lO_ P E nx T k=some r):bA_ P E Bs F0 w0 w z g nx H ρ o true k r:=by
 unfold lO_ at h;split at h
 .split at h
  .rename_i kt vt _ _;have hrun:(execOp ρ o).run P w = .ok (.value (.map (some w.heap.size))) (w.alloc (.map #[] 0)):=by
    unfold execOp;simp only[ho,Option.map_none];rw[Sem.run_bind,run_makeMap];rfl
   refine⟨_,_,z,g.put nx ⟨none,0,0,0,w.heap.size,0⟩,_,_,h,⟨hrun,⟨_,rfl,_,Ga.put_self _ _ _,rfl⟩,Fz.Le.refl z,Ga.le_put hnx.self,hnx.put _,?_,λ_=>Ext.one w _⟩⟩;refine hH.add (Ext.one w _) hnx.self (o := .map T kt vt [] [] []) ⟨_,_,_,Ga.put_self _ _ _,(MapKept.heap_alloc w _).1,⟨.nil,by simp,by simp,by simp⟩,λp hp=>nomatch hp⟩ (λq hq => ?_) λj p hj=>ax_ hj
   obtain⟨l,h1,rfl⟩:=hq;rw[Ga.put_self]at h1;obtain rfl:=qSj h1;exact Nat.le_refl _
  .cases h
 .cases h
theorem HR.map_turn{g':Ga}{id:Nat}{T:TypeId}{kt vt:Ty}{ks ks':List (Den E.S kt)}{vs vs':List (Den E.S vt)}{foc foc':List (Nat×Den E.S kt)}{l:Loc}{es':Array MapEntry}{clock':Nat}(hH:HR P E Bs F0 w0 w z g H)(hi:H id=some (.map T kt vt ks vs foc))(h1:g id=some l)(hlt:l.b<w.heap.size)(hg:g.Le g')
  (hm:MapIs E kt vt ks' vs' es' clock') (hf:∀p∈foc',∃lq,∃i:Nat,∃e:MapEntry,g' p.1=some lq/\es'.toList[i]? = some e/\e.born=lq.n/\ks'[i]? = some p.2) :
  HR P E Bs F0 w0 (aX_ w l.b es' clock') z g' (upH H [(id,some (.map T kt vt ks' vs' foc'))]):=by
 refine hH.turn hg (i:=id) (i':=id) (C:=λq=>q=l.b) (λq hq=>⟨_,hi,l,h1,hq⟩) setMap_grow (λq _ hq=>setMap_other hq) (o' := .map T kt vt ks' vs' foc') ⟨l,es',clock',hg _ _ h1,setMap_same hlt,hm,hf⟩ (λq hq => ?_) λj p hj => ?_
 .obtain⟨l2,h5,rfl⟩:=hq;rw[hg _ _ h1]at h5;obtain rfl:=qSj h5;exact .inl rfl
 .rcases ax_ hj with⟨rfl,rfl⟩|⟨h5,h6⟩
  .exact .inl ⟨rfl,rfl⟩
  .exact .inr ⟨h5,.inl h5,h6⟩
def lMapUpd (P:Program) (E:TE) (eqs:List (Nat×Nat)) (L:Nat->Option (SV E)) (H:Nat->Option (Obj E)) (T:TypeId) (m x y:Operand) {R:Type} (k:Option (SV E)->Chs E->Option R):Option R :=
 match opS E L m,opS E L x,opS E L y,P.underlying T with
 | some (.v (.one (.mp id))),some (.v xs),some (.v ys),some (.map K _)=>match H id with
  | some (.map T' kt vt ks vs _)=>match eqB E kt,keyD E H kt xs,keyD E H vt ys with
   | some eq,some kx,some vy=>match keyV P E eqs K kt kx,aU_ E vt vy with
    | some _,some _=>k none [(id,some (.map T' kt vt (aL_ eq ks kx) (aR_ eq ks vs kx vy) []))]
    | _,_=>none
   | _,_,_=>none
  | _=>none
 | _,_,_,_=>none
theorem lMapUpd_ok{eqs:List (Nat×Nat)}(heq:∀p∈eqs,ap_ P E p.1 p.2){T:TypeId}{m x y:Operand}(ho:o.op = .mapUpdate T m x y)(hnx:Fresh g nx)(hρ:OpR P E z g L ρ)(hH:HR P E Bs F0 w0 w z g H)(h:lMapUpd P E eqs L H T m x y k=some r):bA_ P E Bs F0 w0 w z g nx H ρ o false k r:=by
 unfold lMapUpd at h;split at h
 .rename_i id xs ys K e hm hx hy hu;split at h
  .rename_i T' kt vt ks vs foc hi;split at h
   .rename_i eq kx vy he hk hv;split at h
    .rename_i kv vv hkv hvv;have hK:=keyV_ok heq he hkv;have ekv:ρ x=kv:=eH_ hK.val (eI_ hH hk (hρ x _ hx));have evv:ρ y=vv:=eH_ hvv (eI_ hH hv (hρ y _ hy));obtain⟨l,h1,h2⟩:=hρ m _ hm;obtain⟨l',es,c,h3,h4,h5,_⟩:=hH.hold _ _ hi;rw[h1]at h3;obtain rfl:=qSj h3;have hlt:l.b<w.heap.size:=hH.hold _ _ hi |>.lt ⟨l,h1,rfl⟩
     have hlen:=h5.rel.len;have hfind:=hK.find w h5.rel;have done:∀(es':Array MapEntry) (c':Nat),(Instr.mapUpdate T (.map (some l.b)) kv vv).run P w = .ok () (aX_ w l.b es' c')->MapIs E kt vt (aL_ eq ks kx) (aR_ eq ks vs kx vy) es' c'->bA_ P E Bs F0 w0 w z g nx H ρ o false k r:=λes' c' hrun hm'=>by
      refine⟨none,_,z,g,_,_,h,⟨?_,rfl,Fz.Le.refl z,Ga.Le.refl g,hnx.succ,hH.map_turn hi h1 hlt (Ga.Le.refl g) hm' (λp hp=>nomatch hp),λh=>by cases h⟩⟩;unfold execOp;simp only[ho,h2,ekv,evv];rw[Sem.run_bind,hrun];rfl
     cases hix:aJ_ eq kx ks with
     | none =>
      rw[hix]at hfind;exact done _ _ (n0_ hu h4 hK.chk hfind) (h5.put_new (hG_ he) hix hK.val hvv)
     | some i =>
      rw[hix]at hfind;obtain⟨_,yk,h6,h7⟩:=fd_ hix;have hi2:i<es.size:=by
       have:=(List.getElem?_eq_some_iff.1 h6).1;have:=hlen.1;simp at this;omega
      have he2:es.toList[i]? = some es[i]:=by simp[hi2]
      have he3:es[i]? = some es[i]:=by simp[hi2]
      obtain⟨xk,yv,h8,h9,h10,h11⟩:=h5.rel.get he2;rw[h6]at h8;obtain rfl:=qSj h8;have hkey:es[i].key=kv:=by
       have:=(hG_ he kx yk).1 h7;subst this;rw[hK.val]at h10;exact(qSj h10).symm
      have hfd:(Instr.findKey K kv es.toList).run P w = .ok (some (i,es[i].val)) w:=by rw[hfind];simp[foundAt,hi2]
      exact done _ _ (n1_ hu h4 hK.chk hfd he3 hkey hK.same) (h5.put_old (e':=⟨kv,vv,es[i].born⟩) hix he2 _ rfl hkey.symm rfl rfl hvv)
    .cases h
   .cases h
  .cases h
 .cases h
def lMapEnt (P:Program) (E:TE) (eqs:List (Nat×Nat)) (L:Nat->Option (SV E)) (H:Nat->Option (Obj E)) (nx:Nat) (T:TypeId) (m x:Operand) {R:Type} (k:Option (SV E)->Chs E->Option R):Option R :=
 match opS E L m,opS E L x,P.underlying T with
 | some (.v (.one (.mp id))),some (.v xs),some (.map K e)=>match H id with
  | some (.map T' kt vt ks vs _)=>match eqB E kt,keyD E H kt xs,zeroX P E e vt with
   | some eq,some kx,some zx=>match keyV P E eqs K kt kx,aU_ E vt zx with
    | some _,some _=>k (some (.tup [datV E vt (aF_ eq ks vs kx zx),.one (.mst nx)])) [(id,some (.map T' kt vt (aL_ eq ks kx) (aR_ eq ks vs kx (aF_ eq ks vs kx zx)) [(nx,kx)]))]
    | _,_=>none
   | _,_,_=>none
  | _=>none
 | _,_,_=>none
theorem lMapEnt_ok{eqs:List (Nat×Nat)}(heq:∀p∈eqs,ap_ P E p.1 p.2){T:TypeId}{m x:Operand}(ho:o.op = .mapEntry T m x)(hnx:Fresh g nx)(hρ:OpR P E z g L ρ)(hH:HR P E Bs F0 w0 w z g H)(h:lMapEnt P E eqs L H nx T m x k=some r):bA_ P E Bs F0 w0 w z g nx H ρ o false k r:=by
 unfold lMapEnt at h;split at h
 .rename_i id xs K e hm hx hu;split at h
  .rename_i T' kt vt ks vs foc hi;split at h
   .rename_i eq kx zx he hk hz;split at h
    .rename_i kv zv hkv hzv;have hK:=keyV_ok heq he hkv;have ekv:ρ x=kv:=eH_ hK.val (eI_ hH hk (hρ x _ hx));obtain⟨l,h1,h2⟩:=hρ m _ hm;obtain⟨l',es,c,h3,h4,h5,_⟩:=hH.hold _ _ hi;rw[h1]at h3;obtain rfl:=qSj h3;have hlt:l.b<w.heap.size:=hH.hold _ _ hi |>.lt ⟨l,h1,rfl⟩
     have hlen:=h5.rel.len;have hfind:=hK.find w h5.rel;have done:∀(es':Array MapEntry) (c' born i:Nat) (v:Value) (e1:MapEntry),(Instr.mapEntry T (.map (some l.b)) kv).run P w = .ok (.tuple #[v,.int .i64 (born:Int)]) (aX_ w l.b es' c')->aU_ E vt (aF_ eq ks vs kx zx)=some v->MapIs E kt vt (aL_ eq ks kx) (aR_ eq ks vs kx (aF_ eq ks vs kx zx)) es' c' ->
       es'.toList[i]? = some e1->e1.born=born->(aL_ eq ks kx)[i]? = some kx->bA_ P E Bs F0 w0 w z g nx H ρ o false k r:=λes' c' born i v e1 hrun hv hm' hq1 hq2 hq3=>by
      have hp:=Ga.put_self g nx (⟨none,born,0,0,0,0⟩:Loc);refine⟨_,_,z,g.put nx ⟨none,born,0,0,0,0⟩,_,.value (.tuple #[v,.int .i64 (born:Int)]),h,⟨?_,⟨_,rfl,[v,.int .i64 (born:Int)],rfl,.cons (datV_ok hv) (.cons ⟨_,hp,rfl⟩ .nil)⟩,Fz.Le.refl z,Ga.le_put hnx.self,hnx.put _,hH.map_turn hi h1 hlt (Ga.le_put hnx.self) hm' (λp hpm => ?_),λh=>by cases h⟩⟩
      .unfold execOp;simp only[ho,h2,ekv];rw[Sem.run_bind,hrun];rfl
      .obtain rfl:=List.mem_singleton.1 hpm;exact⟨_,i,e1,hp,hq1,hq2,hq3⟩
     cases hix:aJ_ eq kx ks with
     | none =>
      rw[hix]at hfind;have hv:aU_ E vt (aF_ eq ks vs kx zx)=some zv:=by rw[ic_ hix];exact hzv
      refine done _ _ c es.size zv ⟨kv,zv,c⟩ (p0_ hu h4 hK.chk hfind (zeroX_ok hH hz hzv w)) hv (h5.put_new (hG_ he) hix hK.val hv) (by simp) rfl ?_;unfold aL_;rw[jA_ hix,cond_false,List.getElem?_append_right (by rw[hlen.1];simp)];rw[hlen.1];simp
     | some i =>
      rw[hix]at hfind;obtain⟨hany,yk,h6,h7⟩:=fd_ hix;have hi2:i<es.size:=by
       have:=(List.getElem?_eq_some_iff.1 h6).1;have:=hlen.1;simp at this;omega
      have he2:es.toList[i]? = some es[i]:=by simp[hi2]
      have he3:es[i]? = some es[i]:=by simp[hi2]
      obtain⟨xk,yv,h8,h9,h10,h11⟩:=h5.rel.get he2;rw[h6]at h8;obtain rfl:=qSj h8;have hyk:=(hG_ he kx yk).1 h7;have hkey:es[i].key=kv:=by
       rw[←hyk,hK.val]at h10;exact(qSj h10).symm
      have hfd:(Instr.findKey K kv es.toList).run P w = .ok (some (i,es[i].val)) w:=by rw[hfind];simp[foundAt,hi2]
      have hv:aU_ E vt (aF_ eq ks vs kx zx)=some es[i].val:=by rw[id_ hix h9];exact h11
      have hset:=mG_ (f:=λe=>{ e with key:=kv }) he2;refine done _ _ es[i].born i es[i].val ⟨kv,es[i].val,es[i].born⟩ (p1_ hu h4 hK.chk hfd he3 hkey hK.same) hv (h5.put_old (e':=⟨kv,es[i].val,es[i].born⟩) hix he2 _ rfl hkey.symm rfl rfl hv) ?_ rfl ?_
      .rw[hset,List.getElem?_set,if_pos rfl,if_pos (by simpa using hi2)]
      .unfold aL_;rw[hany,cond_true,h6,hyk]
    .cases h
   .cases h
  .cases h
 .cases h
def lEntSt (E:TE) (L:Nat->Option (SV E)) (H:Nat->Option (Obj E)) (m s y:Operand) {R:Type} (k:Option (SV E)->Chs E->Option R):Option R :=
 match opS E L m,opS E L s,opS E L y with
 | some (.v (.one (.mp id))),some (.v (.one (.mst q))),some (.v ys)=>match H id with
  | some (.map T' kt vt ks vs foc)=>match eqB E kt,keyD E H vt ys,foc.find? λp=>Nat.beq p.1 q with
   | some eq,some vy,some p=>match aU_ E vt vy with
    | some _=>k none [(id,some (.map T' kt vt (aL_ eq ks p.2) (aR_ eq ks vs p.2 vy) []))]
    | none=>none
   | _,_,_=>none
  | _=>none
 | _,_,_=>none
theorem lEntSt_ok{T:TypeId}{m s y:Operand}(ho:o.op = .entryStore T m s y)(hnx:Fresh g nx)(hρ:OpR P E z g L ρ)(hH:HR P E Bs F0 w0 w z g H)(h:lEntSt E L H m s y k=some r):bA_ P E Bs F0 w0 w z g nx H ρ o false k r:=by
 unfold lEntSt at h;split at h
 .rename_i id q ys hm hs hy;split at h
  .rename_i T' kt vt ks vs foc hi;split at h
   .rename_i eq vy p he hv hp;split at h
    .rename_i vv hvv;have evv:ρ y=vv:=eH_ hvv (eI_ hH hv (hρ y _ hy));obtain⟨l,h1,h2⟩:=hρ m _ hm;obtain⟨ls,h6,h7⟩:=hρ s _ hs;obtain⟨l',es,c,h3,h4,h5,h8⟩:=hH.hold _ _ hi;rw[h1]at h3;obtain rfl:=qSj h3;have hlt:l.b<w.heap.size:=hH.hold _ _ hi |>.lt ⟨l,h1,rfl⟩
     have hpq:p.1=q:=qNb (by simpa using List.find?_some hp);obtain⟨lq,i,e,h9,h10,h11,h12⟩:=h8 p (List.mem_of_find?_eq_some hp);rw[hpq,h6]at h9;obtain rfl:=qSj h9;have hix:=idxK_of (hG_ he) h5.ks h12;have hrun:=n2_ (P:=P) (T:=T) (w:=w) (x:=vv) h4 h5.nd h10;rw[h11]at hrun;refine⟨none,_,z,g,_,_,h,⟨?_,rfl,Fz.Le.refl z,Ga.Le.refl g,hnx.succ,hH.map_turn hi h1 hlt (Ga.Le.refl g) (h5.put_old (e':=⟨e.key,vv,e.born⟩) hix h10 (λe=>{ e with val:=vv }) rfl rfl rfl rfl hvv) (λp hp=>nomatch hp),λh=>by cases h⟩⟩;unfold execOp;simp only[ho,h2,h7,evv];rw[Sem.run_bind];show((Instr.entryStore T (.map (some l.b)) (.int .i64 (ls.n:Int)) vv).run P w).andThen _=_
     have:(Instr.entryStore T (.map (some l.b)) (.int .i64 (ls.n:Int)) vv).run P w = .ok () (aX_ w l.b (es.modify i λe=>{ e with val:=vv }) c):=hrun;rw[this];rfl
    .cases h
   .cases h
  .cases h
 .cases h
end
end Rt
end Go
